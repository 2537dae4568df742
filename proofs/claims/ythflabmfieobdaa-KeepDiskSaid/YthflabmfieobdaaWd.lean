/- The reference's disk: Read, Write. -/
import Derived.Test.YthflabmfieobdaaWc
namespace Go.Proofs.Ythflabmfieobdaa
open Go.RowKit
set_option linter.unusedVariables false
set_option linter.unusedSimpArgs false

theorem own_slice {w : World} {B e size n : Nat} {v : Value} {xs : List Value} (h : w.ownsRow B e size v n xs) : ∃ A c, v = .slice A n c := by
  rcases h.2 with ⟨rfl, rfl⟩ | ⟨g, cap, cur, rfl, _⟩
  · exact ⟨none, 0, rfl⟩
  · exact ⟨_, cap, rfl⟩
theorem own_at {w : World} {B e n cap : Nat} {A : Option Addr} {xs : List Value} (h : w.ownsRow B e 1 (.slice A n cap) n xs) (k : Nat) (u : Value) (hk : xs[k]? = some u) : ∃ g, A = some ⟨g, 0, none⟩ ∧ w.cell? ⟨g, k, none⟩ = some u := by
  have hl : k < xs.length := (List.getElem?_eq_some_iff.1 hk).1
  obtain ⟨g, cap', hv, _, _⟩ := h.form (by have := h.1; omega)
  have hA : A = some ⟨g, 0, none⟩ := by injection hv
  subst hA
  have := h.cells (g := g) rfl k u hk
  rw [Addr.add_mid, Nat.zero_add] at this
  exact ⟨g, rfl, this⟩

set_option maxHeartbeats 400000 in
theorem rread_down {w : World} {B r : Nat} {dv pv : Value} {m : DM} (h : RefAt w B r dv pv m) (n : Int) (hdn : m.down = true) :
    Calls Try.prog 20 #[.pointer (some ⟨r, 0, none⟩), .int .i64 n] w fun e w' => e = .returned (.tuple #[.string ⟨#[]⟩, .int .i64 90]) ∧ w = w' := by
  have h3 : w.cell? ⟨r, 3, none⟩ = some (.bool true) := by have := h.blk.cell 3; rw [hdn] at this; exact this
  clear h hdn
  go_enter Try.func20, Try.ntmps20
  go_wp2
  go_ret2
  exact ⟨rfl, rfl⟩
set_option maxHeartbeats 400000 in
theorem rread_arg {w : World} {B r : Nat} {dv pv : Value} {m : DM} (h : RefAt w B r dv pv m) (n : Int) (hdn : m.down = false) (hn : n < 0 ∨ (m.last.length : Int) ≤ n) :
    Calls Try.prog 20 #[.pointer (some ⟨r, 0, none⟩), .int .i64 n] w fun e w' => e = .returned (.tuple #[.string ⟨#[]⟩, .int .i64 1]) ∧ w = w' := by
  have h3 : w.cell? ⟨r, 3, none⟩ = some (.bool false) := by have := h.blk.cell 3; rw [hdn] at this; exact this
  obtain ⟨A, c, rfl⟩ := own_slice h.ownD
  have h0 : w.cell? ⟨r, 0, none⟩ = some (.slice A m.last.length c) := h.blk.cell 0
  clear h hdn
  by_cases h1 : n < 0
  · clear hn
    go_enter Try.func20, Try.ntmps20
    go_wp2
    go_ret2
    exact ⟨rfl, rfl⟩
  · have hn : (m.last.length : Int) ≤ n := by omega
    have h1' : decide (n < 0) = false := by simp; omega
    go_enter Try.func20, Try.ntmps20
    go_wp2
    go_ret2
    exact ⟨rfl, rfl⟩
/-- What the reference reads: the durable sectors with the pending writes over them. -/
def seen (m : DM) (j k : Nat) : List UInt8 := (lay m.last (m.pend.take j)).getD k []
theorem seen_hit (m : DM) (j k : Nat) (p : Nat × List UInt8) (hp : m.pend[j]? = some p) (hk : k < m.last.length) (h : p.1 = k) : seen m (j + 1) k = p.2 := by
  have e : m.pend.take (j + 1) = m.pend.take j ++ [p] := by rw [List.take_add_one, hp]; rfl
  simp only [seen]; rw [e, lay_snoc, h, List.getD_eq_getElem?_getD, List.getElem?_set_self (by rw [lay_length]; exact hk)]; rfl
theorem seen_miss (m : DM) (j k : Nat) (p : Nat × List UInt8) (hp : m.pend[j]? = some p) (h : p.1 ≠ k) : seen m (j + 1) k = seen m j k := by
  have e : m.pend.take (j + 1) = m.pend.take j ++ [p] := by rw [List.take_add_one, hp]; rfl
  simp only [seen]; rw [e, lay_snoc, List.getD_eq_getElem?_getD, List.getElem?_set_ne h, ← List.getD_eq_getElem?_getD]
theorem own2_at {w : World} {B e n cap : Nat} {A : Option Addr} {xs : List Value} (h : w.ownsRow B e 2 (.slice A n cap) n xs) (k j : Nat) (hj : j < 2) (u : Value) (hk : xs[k * 2 + j]? = some u) : ∃ g, A = some ⟨g, 0, none⟩ ∧ w.cell? ⟨g, k * 2 + j, none⟩ = some u := by
  have hl : k * 2 + j < xs.length := (List.getElem?_eq_some_iff.1 hk).1
  obtain ⟨g, cap', hv, _, _⟩ := h.form (by have := h.1; omega)
  have hA : A = some ⟨g, 0, none⟩ := by injection hv
  subst hA
  have := h.cells (g := g) rfl (k * 2 + j) u hk
  rw [Addr.add_mid, Nat.zero_add] at this
  exact ⟨g, rfl, this⟩

set_option maxRecDepth 100000 in
set_option maxHeartbeats 1000000 in
theorem rread_ok {w : World} {B r : Nat} {dv pv : Value} {m : DM} (h : RefAt w B r dv pv m) (k : Nat) (hk : k < m.last.length) (hdn : m.down = false) :
    Calls Try.prog 20 #[.pointer (some ⟨r, 0, none⟩), .int .i64 (k : Int)] w fun e w' => e = .returned (.tuple #[.string (strS (seen m m.pend.length k)), .int .i64 0]) ∧ w = w' := by
  have h3 : w.cell? ⟨r, 3, none⟩ = some (.bool false) := by have := h.blk.cell 3; rw [hdn] at this; exact this
  obtain ⟨A, c, rfl⟩ := own_slice h.ownD
  obtain ⟨A2, c2, rfl⟩ := own_slice h.ownP
  have h0 : w.cell? ⟨r, 0, none⟩ = some (.slice A m.last.length c) := h.blk.cell 0
  have h1 : w.cell? ⟨r, 1, none⟩ = some (.slice A2 m.pend.length c2) := h.blk.cell 1
  have hkb : (k : Int) < (m.last.length : Int) := by omega
  have hk0 : decide ((k : Int) < 0) = false := by simp
  have hmany := h.ok.many
  have hsm := h.ok.small
  obtain ⟨gd, rfl, hcd⟩ := own_at h.ownD k (.string (strS (m.last.getD k []))) (strC_at _ _ _ (by rw [List.getElem?_eq_getElem hk, List.getD_eq_getElem?_getD, List.getElem?_eq_getElem hk]; rfl))
  have hs0 : m.last.getD k [] = seen m 0 k := by simp [seen, lay]
  rw [hs0] at hcd
  have H := hid h
  clear h hdn hs0
  go_enter Try.func20, Try.ntmps20
  go_wp2_with fail
  go_loop [6, 7] (fun s i => ∃ j : Nat, j ≤ m.pend.length ∧ i = .int .i64 j ∧ s = .string (strS (seen m j k))) (fun _ i => m.pend.length - (intOf i).toNat)
  case atStart => exact ⟨0, by omega, rfl, rfl⟩
  case round =>
    obtain ⟨j, hj, rfl, rfl⟩ := hrel
    by_cases hlt : j < m.pend.length
    · obtain ⟨p, hp⟩ : ∃ p, m.pend[j]? = some p := ⟨_, List.getElem?_eq_getElem hlt⟩
      have hj1 : (j : Int) < (m.pend.length : Int) := by omega
      obtain ⟨g, rfl, hc0⟩ := own2_at H.out.ownP j 0 (by omega) _ (rpendC_at m.pend j p hp).1
      obtain ⟨g', hg', hc1⟩ := own2_at H.out.ownP j 1 (by omega) _ (rpendC_at m.pend j p hp).2
      have hgg : g' = g := by injection hg' with e; injection e with e; exact e.symm
      subst hgg
      clear hg'
      have hc0' : w.cell? ⟨g', j * 2, none⟩ = some (.int .i64 (p.1 : Int)) := hc0
      clear hc0
      by_cases hpk : p.1 = k
      · have hs := hid (seen_hit m j k p hp hk hpk)
        have ht : ((p.1 : Int) == (k : Int)) = true := by simp [hpk]
        have Hpk := hid hpk
        clear hp hpk
        go_wp2
        go_round
        case rel => exact ⟨j + 1, by omega, by go_num, by rw [hs.out]⟩
        case measure => simp [intOf]; omega
      · have hs := hid (seen_miss m j k p hp hpk)
        have ht : ((p.1 : Int) == (k : Int)) = false := by simp; omega
        have Hpk := hid hpk
        clear hp hpk
        go_wp2
        go_round
        case rel => exact ⟨j + 1, by omega, by go_num, by rw [hs.out]⟩
        case measure => simp [intOf]; omega
    · obtain rfl : j = m.pend.length := by omega
      go_wp2
      go_ret2
      exact ⟨rfl, rfl⟩
end Go.Proofs.Ythflabmfieobdaa
