/- A script opened. -/
import Derived.Test.YthflabmfieobdaaWj
import Derived.WalkKit
import Derived.ProofKit
import Derived.OpenShut
import Derived.ChangeOld
import Derived.Below
import Derived.Deep.Slices
namespace Go.Proofs.Ythflabmfieobdaa
open Go.ChangeShapes Go.WideShapes Go.ChangeAt Go.RowKit Go.Deep
set_option linter.unusedVariables false
set_option linter.unusedSimpArgs false

theorem Try.cellsOf43 : Try.prog.cellsOf 43 = 5 := by kernel_rfl
theorem Try.cellsOf5 : Try.prog.cellsOf 5 = 1 := by kernel_rfl
theorem Try.cellsOf3 : Try.prog.cellsOf 3 = 1 := by kernel_rfl
theorem Try.cellsOf22 : Try.prog.cellsOf 22 = 1 := by kernel_rfl
theorem Try.cellsOf32 : Try.prog.cellsOf 32 = 1 := by kernel_rfl

theorem wf_i64 {n : Int} (h : (Lit.int .i64 n).wf = true) : -9223372036854775808 ≤ n ∧ n ≤ 9223372036854775807 := by
  simp [Lit.wf, IntKind.min, IntKind.max, IntKind.bits, IntKind.signed] at h; omega
section
variable {H : Type} {enc : TypeId × Value → H} {w : World} {base : Nat} {spare : Nat → Bool} {held : Bool} {fuel : Nat}
theorem opened_bytes {cs : List Value} {x : DataW H × List MemPlace} (h : DataW.trod enc Try.prog w base spare held fuel 22 cs = some x) :
    ∃ A n c bs, cs = [.slice A n c] ∧ RdB w A n bs ∧ n ≤ 9223372036854775807 := by
  rcases open_ints Try.underlying22 Try.underlying5 Try.cellsOf5 h with ⟨rfl, _⟩ | ⟨a, l, c, zs, rfl, _, hl, hm, hz, _, hcell, hwz⟩
  · exact ⟨none, 0, 0, [], rfl, ⟨rfl, fun h => absurd h (by omega)⟩, by omega⟩
  · have hzl : l ≤ zs.length := by rw [hz]; split <;> omega
    refine ⟨some a, l, c, (zs.take l).map fun z => UInt8.ofNat z.toNat, rfl, ⟨by simp; omega, fun hn => ⟨a, rfl, ?_, fun j v hv => ?_⟩⟩, by unfold maxLen at hm; omega⟩
    · have := World.block_lt_of_cell? w _ (hcell 0 (by omega)); rwa [add_block] at this
    · simp only [secC, List.getElem?_map, List.getElem?_take] at hv
      split at hv
      · rename_i hj
        have hjz : j < zs.length := by omega
        rw [List.getElem?_eq_getElem hjz] at hv
        simp only [Option.map_some, Option.some.injEq] at hv
        rw [hcell j hjz, ← hv]
        have hb := wf_u8 (hwz _ (List.getElem_mem hjz))
        rw [List.getD_eq_getElem?_getD, List.getElem?_eq_getElem hjz]
        simp only [bC, Option.getD_some]
        congr 2
        rw [UInt8.toNat_ofNat']
        omega
      · simp at hv
theorem opened_ints {cs : List Value} {x : DataW H × List MemPlace} (h : DataW.trod enc Try.prog w base spare held fuel 32 cs = some x) :
    ∃ A n c ks, cs = [.slice A n c] ∧ RdI w A n ks ∧ n ≤ 9223372036854775807 := by
  rcases open_ints Try.underlying32 Try.underlying3 Try.cellsOf3 h with ⟨rfl, _⟩ | ⟨a, l, c, zs, rfl, _, hl, hm, hz, _, hcell, hwz⟩
  · exact ⟨none, 0, 0, [], rfl, ⟨rfl, fun h => absurd h (by omega)⟩, by omega⟩
  · have hzl : l ≤ zs.length := by rw [hz]; split <;> omega
    refine ⟨some a, l, c, zs.take l, rfl, ⟨by simp; omega, fun hn => ⟨a, rfl, ?_, fun j hj => ?_⟩⟩, by unfold maxLen at hm; omega⟩
    · have := World.block_lt_of_cell? w _ (hcell 0 (by omega)); rwa [add_block] at this
    · rw [hcell j (by omega)]
      simp only [List.getD_eq_getElem?_getD, List.getElem?_take, if_pos hj]
theorem opened_op {cs : List Value} {x : DataW H × List MemPlace} (h : DataW.trod enc Try.prog w base spare held fuel 43 cs = some x) : ∃ o : DOp, cs = o.cells ∧ o.Ok w := by
  obtain ⟨xs, n, _, _, hl, hx, hf⟩ := DataW.trod_struct Try.underlying43 h
  rw [Try.cellsOf43] at hl
  match cs, hl with
  | [c0, c1, c2, c3, c4], _ =>
    match xs, hx with
    | [y0, y1, y2, y3, y4], _ =>
      have h0 := hf 0 _ rfl
      have h1 := hf 1 _ rfl
      have h2 := hf 2 _ rfl
      have h3 := hf 3 _ rfl
      have h4 := hf 4 _ rfl
      simp only [Try.cellsOf5, Try.cellsOf3, Try.cellsOf22, Try.cellsOf32, List.drop_zero, List.drop_succ_cons, List.take_succ_cons, List.take_zero, List.getElem?_cons_zero, List.getElem?_cons_succ] at h0 h1 h2 h3 h4
      obtain ⟨k, e0, _, w0⟩ := DataW.trod_int Try.underlying5 h0
      obtain ⟨s, e1, _, w1⟩ := DataW.trod_int Try.underlying3 h1
      obtain ⟨A, dl, dc, bs, e2, r2, b2⟩ := opened_bytes h2
      obtain ⟨m, e3, _, w3⟩ := DataW.trod_int Try.underlying3 h3
      obtain ⟨K, kl, kc, ks, e4, r4, b4⟩ := opened_ints h4
      injection e0 with e0; injection e1 with e1; injection e2 with e2; injection e3 with e3; injection e4 with e4
      subst e0 e1 e2 e3 e4
      exact ⟨⟨k, s, A, dl, dc, bs, m, K, kl, kc, ks⟩, rfl, (wf_u8 w0).1, (wf_u8 w0).2, r2, r4, (wf_i64 w3).2, b4, b2⟩
theorem opened_ops {cs : List Value} {x : DataW H × List MemPlace} (h : DataW.trod enc Try.prog w base spare held fuel 36 cs = some x) :
    ∃ A n c os, cs = [.slice A n c] ∧ RdOps w A n os ∧ n ≤ 9223372036854775807 := by
  rcases open_slice Try.underlying36 h with ⟨rfl, _⟩ | ⟨a, l, c, m, n, D, Pl, rfl, _, hl, hm, hmm, _, hx⟩
  · exact ⟨none, 0, 0, [], rfl, ⟨rfl, fun h => absurd h (by omega)⟩, by omega⟩
  · have hml : l ≤ m := by rw [hmm]; split <;> omega
    rw [Try.cellsOf43] at hx
    have each : ∀ i : Nat, ∃ o : DOp, i < l → (∀ j v, o.cells[j]? = some v → w.cell? ((a.add (i * 5)).add j) = some v) ∧ o.Ok w := fun i => by
      by_cases hi : i < l
      · obtain ⟨cs', h1, h2⟩ := hx i (by omega)
        obtain ⟨o, rfl, ho⟩ := opened_op h2
        obtain ⟨_, hlen, hc⟩ := World.cells?_some h1
        exact ⟨o, fun _ => ⟨fun j v hv => by
          have hj : j < 5 := by have := (List.getElem?_eq_some_iff.1 hv).1; omega
          rw [hc j hj]; exact hv, ho⟩⟩
      · exact ⟨⟨0, 0, none, 0, 0, [], 0, none, 0, 0, []⟩, fun h => absurd h hi⟩
    obtain ⟨f, hf⟩ := Classical.axiomOfChoice each
    refine ⟨some a, l, c, (List.range l).map f, rfl, ⟨by simp, fun h0 => ?_⟩, by unfold maxLen at hm; omega⟩
    have c0 := (hf 0 h0).1 0 _ rfl
    obtain ⟨g, o, spot⟩ := a
    have hspot : spot = none := by simpa [Addr.add] using World.cell?_spot c0
    subst hspot
    refine ⟨g, o, rfl, ?_, fun i x hxi => ?_⟩
    · have := World.block_lt_of_cell? w _ c0; simpa [add_block] using this
    · have hi : i < l := by have := (List.getElem?_eq_some_iff.1 hxi).1; simpa using this
      have e : x = f i := by simpa [hi] using hxi.symm
      subst e
      refine ⟨fun j v hv => ?_, (hf i hi).2⟩
      have := (hf i hi).1 j v hv
      rwa [Addr.add_mid, Addr.add_mid] at this
end
end Go.Proofs.Ythflabmfieobdaa
