/- The walk of Flush. -/
import Derived.Test.YthflabmfieobdaaW2
namespace Go.Proofs.Ythflabmfieobdaa
open Go.RowKit

/-- A store, kept from the walk's own unfolding: made a rule at one type. -/
def stRun (P : Program) (t : TypeId) (x v : Value) (w : World) : Result Next :=
  (do Instr.storeAt t x v; pure .skip : Sem Next).run P w
theorem st57_pre {P : Program} {ρ : Operand → Value} {w : World} {d : Option Tmp} {ty : TypeId} {x y : Operand} {pos : String} {af : Array Edge} {g : Option (Nat × Bool)} :
    (execOp ρ ⟨d, .store 57 x y, ty, pos, af, g⟩).run P w = stRun P 57 (ρ x) (ρ y) w := rfl
theorem ld57_pre {P : Program} {ρ : Operand → Value} {w : World} {d : Option Tmp} {ty : TypeId} {x : Operand} {pos : String} {af : Array Edge} {g : Option (Nat × Bool)} :
    (execOp ρ ⟨d, .load 57 x, ty, pos, af, g⟩).run P w = ldRun P 57 (ρ x) w := rfl
theorem Try.size57' : (Try.prog.info? 57).map (·.size) = some 65 := by kernel_rfl
theorem ld57 (b o : Nat) (cs : List Value) (hl : cs.length = 65) (w : World) (hc : w.rangeAt b o cs) : ldRun Try.prog 57 (.pointer (some ⟨b, o, none⟩)) w = .ok (.value (.agg cs.toArray)) w :=
  ld_mid 57 _ b o cs hc Try.underlying57 rfl (by rw [Try.size57', hl])
theorem setCells_all : ∀ (cs zs ys : List Value) (t : TypeId) (w : World), zs.length = cs.length → (w.alloc (.cells (ys ++ zs).toArray t)).setCells w.heap.size ys.length cs = w.alloc (.cells (ys ++ cs).toArray t)
  | [], zs, ys, t, w, h => by
    obtain rfl : zs = [] := List.eq_nil_of_length_eq_zero (by simpa using h)
    rfl
  | c :: cs, zs, ys, t, w, h => by
    match zs, h with
    | z :: zs, h =>
      have ih := setCells_all cs zs (ys ++ [c]) t w (by simpa using h)
      simp only [World.setCells]
      have e : (w.alloc (.cells (ys ++ z :: zs).toArray t)).setCell ⟨w.heap.size, ys.length, none⟩ c = w.alloc (.cells (ys ++ [c] ++ zs).toArray t) := by
        rw [World.setCell_alloc_at _ _ _ _ _ rfl]
        congr 2
        simp
      rw [e]
      simpa using ih
theorem st57 (cs : List Value) (hl : cs.length = 65) (h1 : ∀ v ∈ cs, v.oneCell' = true) (Z : Array Value) (hZ : Z.size = 65) (w : World) :
    stRun Try.prog 57 (.pointer (some ⟨w.heap.size, 0, none⟩)) (.agg cs.toArray) (w.alloc (.cells Z 57)) = .ok .skip (w.alloc (.cells cs.toArray 57)) := by
  have hb : Blk (w.alloc (.cells Z 57)) w.heap.size 57 Z.toList.toArray := heap_alloc_new w _
  have ht : (w.alloc (.cells Z 57)).there w.heap.size 0 cs.toArray.size := hb.there 0 _ (by simp [hl, hZ])
  have := run_storeAt_mid (P := Try.prog) (w.alloc (.cells Z 57)) w.heap.size 0 57 cs.toArray ht (by rw [Try.size57']; simp [hl]) (all_oneCell_toArray h1)
  have e := setCells_all cs Z.toList [] 57 w (by simp [hl, hZ])
  simp at e this
  simp [stRun, Sem.run_bind, this, e]
theorem zero57 : ∃ Z : Array Value, Z.size = 65 ∧ ∀ w : World, (zeroValue 57).run Try.prog w = .ok (.agg Z) w := by
  obtain ⟨i, z, hi, hz, _, _, hs⟩ := Try.info57
  cases z with
  | agg Z => exact ⟨Z, by simpa [Value.cells] using hs, fun w => by simp [zeroValue, typeInfo, hi, hz]⟩
  | _ => simp [Value.cells] at hs

/-- Writes made durable. -/
def lay (last : List (List UInt8)) (ps : List (Nat × List UInt8)) : List (List UInt8) := ps.foldl (fun l p => l.set p.1 p.2) last
theorem lay_length (ps : List (Nat × List UInt8)) : ∀ last, (lay last ps).length = last.length := by
  induction ps with
  | nil => intro last; rfl
  | cons p ps ih => intro last; simp only [lay, List.foldl_cons] at ih ⊢; rw [ih]; simp
theorem lay_snoc (last : List (List UInt8)) (ps : List (Nat × List UInt8)) (p : Nat × List UInt8) : lay last (ps ++ [p]) = (lay last ps).set p.1 p.2 := by simp [lay, List.foldl_append]
theorem lay_sec (ps : List (Nat × List UInt8)) : ∀ last : List (List UInt8), (∀ s ∈ last, s.length = 64) → (∀ p ∈ ps, p.2.length = 64) → ∀ s ∈ lay last ps, s.length = 64 := by
  induction ps with
  | nil => intro last h _; exact h
  | cons p ps ih =>
    intro last h hp
    simp only [lay, List.foldl_cons] at ih ⊢
    refine ih _ (fun s hs => ?_) fun q hq => hp q (by simp [hq])
    rcases List.mem_or_eq_of_mem_set hs with hs | rfl
    · exact h s hs
    · exact hp p (by simp)
def DM.laid (m : DM) (k : Nat) : DM := { m with last := lay m.last (m.pend.take k) }
theorem DM.Ok.laid {m : DM} (h : m.Ok) (k : Nat) : (m.laid k).Ok :=
  ⟨by simp [DM.laid, lay_length, h.len], by simp [DM.laid, lay_length]; exact h.small, lay_sec _ _ h.secL fun p hp => (h.secP p (List.mem_of_mem_take hp)).2, h.secN,
   fun p hp => by simp only [DM.laid, lay_length]; exact h.secP p hp, h.fuseLo, h.fuseHi, h.many⟩
def DM.flush (m : DM) : DM := { m with last := lay m.last m.pend, pend := [] }
theorem DM.Ok.flush {m : DM} (h : m.Ok) : m.flush.Ok :=
  ⟨by simp [DM.flush, lay_length, h.len], by simp [DM.flush, lay_length]; exact h.small, lay_sec _ _ h.secL fun p hp => (h.secP p hp).2, h.secN, fun p hp => by simp [DM.flush] at hp, h.fuseLo, h.fuseHi, by simp [DM.flush]⟩
theorem pendC_at : ∀ (ps : List (Nat × List UInt8)), (∀ p ∈ ps, p.2.length = 64) → ∀ (k : Nat) (p : Nat × List UInt8), ps[k]? = some p → ∀ j v, (putC p)[j]? = some v → (pendC ps)[k * 65 + j]? = some v
  | [], _, k, p, hk => by simp at hk
  | x :: xs, h, 0, p, hk => by
    intro j v hv
    simp only [List.getElem?_cons_zero, Option.some.injEq] at hk
    subst hk
    have hj : j < (putC x).length := (List.getElem?_eq_some_iff.1 hv).1
    simp only [pendC, List.flatMap_cons, Nat.zero_mul, Nat.zero_add]
    rw [List.getElem?_append_left hj]; exact hv
  | x :: xs, h, k + 1, p, hk => by
    intro j v hv
    simp only [List.getElem?_cons_succ] at hk
    have := pendC_at xs (fun t ht => h t (by simp [ht])) k p hk j v hv
    have hx : (putC x).length = 65 := by simp [putC, secC_length, h x (by simp)]
    simp only [pendC, List.flatMap_cons]
    rw [List.getElem?_append_right (by omega), hx]
    have e : (k + 1) * 65 + j - 65 = k * 65 + j := by omega
    rw [e]; exact this
theorem putC_one (p : Nat × List UInt8) : ∀ v ∈ putC p, v.oneCell' = true := by
  intro v hv
  simp only [putC, List.mem_cons] at hv
  rcases hv with rfl | hv
  · rfl
  · exact secC_one _ v hv
/-- One change made durable. -/
theorem laid_step {w W : World} {B b bl bn k : Nat} {pv : Value} {m : DM} {p : Nat × List UInt8} (h : DiskAt w B b bl bn pv (m.laid k)) (hm : m.Ok) (hp : m.pend[k]? = some p)
    (hW : ∃ w1, Below w.heap.size w w1 ∧ W = w1.setCells bl (p.1 * 64) (secC p.2)) :
    DiskAt W B b bl bn pv (m.laid (k + 1)) ∧ Ch (Foot b bl bn pv) w W := by
  obtain ⟨w1, hb, rfl⟩ := hW
  have h1 := h.below hb
  have hc := ch_setCells bl (secC p.2) (p.1 * 64) w1
  have hp2 := hm.secP p (List.mem_of_getElem? hp)
  have e : m.pend.take (k + 1) = m.pend.take k ++ [p] := by rw [List.take_add_one, hp]; rfl
  have e2 : (m.laid (k + 1)).last = (m.laid k).last.set p.1 p.2 := by simp only [DM.laid]; rw [e, lay_snoc]
  have e3 : (m.laid k).last.length = m.last.length := by simp [DM.laid, lay_length]
  have e4 : (m.laid (k + 1)).last.length = m.last.length := by simp [DM.laid, lay_length]
  have hL := flatC_length _ h.ok.secL
  have hs := Blk.setCells (secC p.2) (p.1 * 64) _ w1 h1.blkL (by rw [secC_length, hp2.2]; omega)
  rw [secC_length, hp2.2, ← flatC_set _ h.ok.secL _ _ (by omega) hp2.2, ← e2] at hs
  refine ⟨⟨?_, hs, h1.blkN.ch hc (fun e => h.ne e.symm), own_ch h1.own hc fun j hj e => h1.pl (by rw [hj, e]), hm.laid _, h.ne, h.hb, h.hbl, h.hbn⟩, ?_⟩
  · have := h1.blk.ch hc h1.ne1
    rw [e3] at this
    rw [e4]; exact this
  · exact (Ch.of_below hb _).trans (hc.mono fun k _ e => .inr (.inl e))
end Go.Proofs.Ythflabmfieobdaa
