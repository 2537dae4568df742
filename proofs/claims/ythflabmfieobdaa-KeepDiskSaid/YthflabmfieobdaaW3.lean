import Derived.Test.YthflabmfieobdaaW0
namespace Go.Proofs.Ythflabmfieobdaa
open Go.RowKit
theorem Try.size57 : (Try.prog.info? 57).map (fun i => (i.zero.map (fun z => z.cells.size), i.size)) = some (some 65, 65) := by kernel_rfl
theorem Try.size55 : (Try.prog.info? 55).map (·.size) = some 64 := by kernel_rfl
theorem Try.size5 : (Try.prog.info? 5).map (·.size) = some 1 := by kernel_rfl
theorem bld57 (k : Int) (cs : List Value) (h : cs.length = 64) (w : World) : bldRun Try.prog 57 #[(0, .int .i64 k), (1, .agg cs.toArray)] w = .ok (.value (.agg (.int .i64 k :: cs).toArray)) w := by
  obtain ⟨i, hi, hh⟩ := Option.map_eq_some_iff.1 Try.size57
  simp only [Prod.mk.injEq] at hh
  obtain ⟨h1, h2⟩ := hh
  obtain ⟨z, hz, hzs⟩ := Option.map_eq_some_iff.1 h1
  have hf : Instr.fill (fun x => ([(0, 1), (1, 64)] : List (Nat × Nat))[x]?) z.cells [(0, Value.int IntKind.i64 k), (1, Value.agg cs.toArray)] = some (.int .i64 k :: cs).toArray := by
    generalize z.cells = zc at hzs
    obtain ⟨zs⟩ := zc
    have hzl : zs.length = 65 := by simpa using hzs
    match zs, hzl with
    | z0 :: zs, hzl =>
      have hzl' : zs.length = 64 := by simpa using hzl
      have := foldl_set 1 cs 0 (.int .i64 k :: zs) (by simp; omega)
      simp only [Instr.fill, Value.cells, List.getElem?_cons_zero, List.getElem?_cons_succ, List.size_toArray, List.length_cons, List.length_nil, h, hzl', Array.zipIdx, List.zipIdx]
      simp at this ⊢
      rw [zipIdx_eq, this]
      simp [h, hzl']
  simp [bldRun, Instr.build, Try.underlying57, run_underlying, zeroValue, typeInfo, hi, hz, hf]
theorem bs50 (cs : List Value) (h : cs.length = 65) (w : World) : bsRun Try.prog 50 1 #[(0, .agg cs.toArray)] w = .ok (.value (.slice (some ⟨w.heap.size, 0, none⟩) 1 1)) (w.alloc (.cells cs.toArray 57)) :=
  bs_one 50 57 65 Try.underlying50 Try.size57 (by omega) (by omega) cs h w
theorem ld55_pre {P : Program} {ρ : Operand → Value} {w : World} {d : Option Tmp} {ty : TypeId} {x : Operand} {pos : String} {af : Array Edge} {g : Option (Nat × Bool)} :
    (execOp ρ ⟨d, .load 55 x, ty, pos, af, g⟩).run P w = ldRun P 55 (ρ x) w := rfl
theorem ld55 (b o : Nat) (cs : List Value) (hl : cs.length = 64) (w : World) (hc : w.rangeAt b o cs) : ldRun Try.prog 55 (.pointer (some ⟨b, o, none⟩)) w = .ok (.value (.agg cs.toArray)) w :=
  ld_mid 55 _ b o cs hc Try.underlying55 rfl (by rw [Try.size55, hl])
end Go.Proofs.Ythflabmfieobdaa
