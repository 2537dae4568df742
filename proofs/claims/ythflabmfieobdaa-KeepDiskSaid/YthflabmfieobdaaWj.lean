/- small and disk. -/
import Derived.Test.YthflabmfieobdaaWi
import Derived.Test.YthflabmfieobdaaTorn
namespace Go.Proofs.Ythflabmfieobdaa
open Go.RowKit
set_option linter.unusedVariables false
set_option linter.unusedSimpArgs false

/-- A script that came in. -/
def RdOps (w : World) (A : Option Addr) (n : Nat) (os : List DOp) : Prop :=
  os.length = n ∧ (0 < n → ∃ g o, A = some ⟨g, o, none⟩ ∧ g < w.heap.size ∧ ∀ i x, os[i]? = some x → w.rangeAt g (o + i * 5) x.cells ∧ x.Ok w)
theorem RdOps.at_ {w : World} {A : Option Addr} {n : Nat} {os : List DOp} (h : RdOps w A n os) (i : Nat) (hi : i < n) : ∃ g o, ∃ x : DOp, A = some ⟨g, o, none⟩ ∧ g < w.heap.size ∧ w.rangeAt g (o + i * 5) x.cells ∧ x.Ok w := by
  obtain ⟨g, o, rfl, hg, hx⟩ := h.2 (by omega)
  obtain ⟨h1, h2⟩ := hx i _ (List.getElem?_eq_getElem (by have := h.1; omega))
  exact ⟨g, o, _, rfl, hg, h1, h2⟩
theorem range_below {w w' : World} {g o : Nat} {cs : List Value} (h : w.rangeAt g o cs) (hb : Below w.heap.size w w') (hg : g < w.heap.size) : w'.rangeAt g o cs := fun j v hv => by
  rw [World.cell?_of_block (w := w) (a := ⟨g, o + j, none⟩) (hb.block _ hg)]
  exact h j v hv

def SmallE (n : Nat) (e : Ending) : Prop := e = .returned (.bool false) ∨ (e = .returned (.bool true) ∧ n ≤ 200)
set_option maxRecDepth 100000 in
set_option maxHeartbeats 1000000 in
theorem small_ok {w : World} {A : Option Addr} {n c : Nat} {os : List DOp} (h : RdOps w A n os) (hn : n ≤ 9223372036854775807) :
    Calls Try.prog 12 #[.slice A n c] w fun e w' => SmallE n e ∧ w = w' := by
  have H := hid h
  clear h
  by_cases h2 : n ≤ 200
  · have h2' : (n : Int) ≤ 200 := by omega
    go_enter Try.func12, Try.ntmps12
    go_wp2_with fail
    go_loop [3] (fun i => ∃ j : Nat, j ≤ n ∧ i = .int .i64 j) (fun i => n - (intOf i).toNat)
    case atStart => exact ⟨0, by omega, rfl⟩
    case round =>
      obtain ⟨j, hj, rfl⟩ := hrel
      by_cases hlt : j < n
      · obtain ⟨g, o, x, rfl, hg, hr, hx⟩ := H.out.at_ j hlt
        have c2 : w.cell? ⟨g, o + j * 5 + 2, none⟩ = some (.slice x.da x.dl x.dc) := hr 2 _ rfl
        have c4 : w.cell? ⟨g, o + j * 5 + 4, none⟩ = some (.slice x.ka x.kl x.kc) := hr 4 _ rfl
        have hlt' : (j : Int) < (n : Int) := by omega
        have hj0 : (0 : Int) ≤ (j : Int) := by omega
        clear hr hx
        by_cases hd : 200 < x.dl
        · have hd' : (200 : Int) < (x.dl : Int) := by omega
          go_wp2
          go_ret
          exact ⟨.inl rfl, rfl⟩
        · have hd' : (x.dl : Int) ≤ 200 := by omega
          by_cases hk : 200 < x.kl
          · have hk' : (200 : Int) < (x.kl : Int) := by omega
            go_wp2
            go_ret
            exact ⟨.inl rfl, rfl⟩
          · have hk' : (x.kl : Int) ≤ 200 := by omega
            go_wp2
            go_round
            case rel => exact ⟨j + 1, by omega, by go_num⟩
            case measure => simp [intOf]; omega
      · obtain rfl : j = n := by omega
        go_wp2
        go_ret
        exact ⟨.inr ⟨rfl, h2⟩, rfl⟩
  · have h2' : (200 : Int) < (n : Int) := by omega
    go_enter Try.func12, Try.ntmps12
    go_wp2
    go_ret
    exact ⟨.inl rfl, rfl⟩

theorem size_at (a0 : Int) : ∃ k : Nat, wrap64 (16 + wrap64 ((IntKind.u64.wrap a0).tmod 65)) = (k : Int) ∧ 16 ≤ k ∧ k ≤ 80 := by
  have h0 : 0 ≤ IntKind.u64.wrap a0 := by
    rw [IntKind.wrap_u64]; omega
  generalize IntKind.u64.wrap a0 = x at h0
  rw [Int.tmod_eq_emod_of_nonneg h0]
  refine ⟨16 + (x % 65).toNat, ?_, by omega, by omega⟩
  unfold wrap64
  omega

set_option maxRecDepth 100000 in
set_option maxHeartbeats 1000000 in
theorem disk_ok (a0 : Int) (w : World) :
    Calls Try.prog 13 #[.int .i64 a0] w fun e w' => ∃ n b bl bn r, e = .returned (.tuple #[.pointer (some ⟨b, 0, none⟩), .pointer (some ⟨r, 0, none⟩), .bool true]) ∧ 16 ≤ n ∧ n ≤ 80 ∧ Pair w' w.heap.size b bl bn r (DM.new n) (DM.new n) ∧ Below w.heap.size w w' := by
  go_enter Try.func13, Try.ntmps13
  go_wp2_with fail
  obtain ⟨k, hk, hk16, hk80⟩ := size_at a0
  rw [hk]
  clear hk
  refine (newdisk_ok k w.heap.size w hk16 (by omega) (Nat.le_refl _)).mono ?_
  rintro e w1 ⟨b, bl, bn, rfl, hd1, hb1⟩
  have Hd1 := hid hd1
  have Hb1 := hid hb1
  clear hd1 hb1
  go_wp2_with fail
  refine (rnew_ok k w.heap.size w1 hk16 (by omega) Hb1.out.size).mono ?_
  rintro e w2 ⟨r, dv, rfl, hr2, hb2, _, _⟩
  have Hd2 := hid (Hd1.out.below hb2)
  have Hb2 := hid (Hb1.out.trans (hb2.mono Hb1.out.size))
  have Hr2 := hid hr2
  clear hr2 hb2
  go_wp2
  go_ret3
  exact ⟨k, b, bl, bn, r, rfl, hk16, hk80, ⟨_, _, _, Hd2.out, Hr2.out⟩, Hb2.out⟩
end Go.Proofs.Ythflabmfieobdaa
