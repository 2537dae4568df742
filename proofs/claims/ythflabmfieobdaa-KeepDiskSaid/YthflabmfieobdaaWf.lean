/- The reference's disk: Flush, Crash. -/
import Derived.Test.YthflabmfieobdaaWe
namespace Go.Proofs.Ythflabmfieobdaa
open Go.RowKit
set_option linter.unusedVariables false
set_option linter.unusedSimpArgs false

set_option maxHeartbeats 400000 in
theorem rflush_down {w : World} {B r : Nat} {dv pv : Value} {m : DM} (h : RefAt w B r dv pv m) (hdn : m.down = true) :
    Calls Try.prog 22 #[.pointer (some ⟨r, 0, none⟩)] w fun e w' => e = .returned (.int .i64 90) ∧ w = w' := by
  have h3 : w.cell? ⟨r, 3, none⟩ = some (.bool true) := by have := h.blk.cell 3; rw [hdn] at this; exact this
  clear h hdn
  go_enter Try.func22, Try.ntmps22
  go_wp2
  go_ret
  exact ⟨rfl, rfl⟩
set_option maxHeartbeats 400000 in
theorem rflush_fails {w : World} {B r : Nat} {dv pv : Value} {m : DM} (h : RefAt w B r dv pv m) (hdn : m.down = false) (hfz : m.fuse = 0) :
    Calls Try.prog 22 #[.pointer (some ⟨r, 0, none⟩)] w fun e w' => e = .returned (.int .i64 90) ∧ RefAt w' B r dv pv m.fails ∧ Ch (fun k => k = r) w w' := by
  have h3 : w.cell? ⟨r, 3, none⟩ = some (.bool false) := by have := h.blk.cell 3; rw [hdn] at this; exact this
  have hq := hid (rcall_no h hfz)
  clear h hdn hfz
  go_enter Try.func22, Try.ntmps22
  go_wp2_with fail
  refine hq.out.mono ?_
  rintro e w1 ⟨rfl, hd1, hc1⟩
  have HR := hid (And.intro hd1 hc1)
  clear hd1 hc1 hq
  go_wp2
  go_ret
  exact ⟨rfl, HR.out.1, HR.out.2⟩

/-- A cell of a row of one's own is set. -/
theorem own_set {w : World} {B e n cap g : Nat} {xs : List Value} (h : w.ownsRow B e 1 (.slice (some ⟨g, 0, none⟩) n cap) n xs) (k : Nat) (hk : k < n) (u : Value) (hu : u.oneCell' = true) :
    (w.setCell ⟨g, k, none⟩ u).ownsRow B e 1 (.slice (some ⟨g, 0, none⟩) n cap) n (xs.set k u) := by
  have hl := h.1
  rcases h.2 with ⟨h1, _⟩ | ⟨g', cap', cur, h1, hb, hh, hn, hm, hs, hc⟩
  · cases h1
  · injection h1 with e1 e2 e3
    injection e1 with e1
    injection e1 with e1 _ _
    subst e1 e3
    refine ⟨by simpa using hl, .inr ⟨g, cap, cur.setIfInBounds k u, rfl, hb, ?_, hn, hm, by simpa using hs, ?_⟩⟩
    · have : Blk w g e cur := hh
      exact this.set_ k u
    · simp only [Array.toList_setIfInBounds]
      rw [List.take_set, hc]
theorem rlaid_step {w : World} {B r k g cap : Nat} {pv : Value} {m : DM} {p : Nat × List UInt8} (h : RefAt w B r (.slice (some ⟨g, 0, none⟩) m.last.length cap) pv (m.laid k)) (hm : m.Ok) (hp : m.pend[k]? = some p) :
    RefAt (w.drew.setCell ⟨g, p.1, none⟩ (.string (strS p.2))) B r (.slice (some ⟨g, 0, none⟩) m.last.length cap) pv (m.laid (k + 1)) ∧ Ch (RFoot r (.slice (some ⟨g, 0, none⟩) m.last.length cap) pv) w (w.drew.setCell ⟨g, p.1, none⟩ (.string (strS p.2))) := by
  have h1 : Ch (fun k => k = g) w (w.drew.setCell ⟨g, p.1, none⟩ (.string (strS p.2))) := (Ch.refl _ w).drew.trans (ch_one _ _ _ _)
  have hp2 := hm.secP p (List.mem_of_getElem? hp)
  have e : m.pend.take (k + 1) = m.pend.take k ++ [p] := by rw [List.take_add_one, hp]; rfl
  have e2 : (m.laid (k + 1)).last = (m.laid k).last.set p.1 p.2 := by simp only [DM.laid]; rw [e, lay_snoc]
  have e3 : (m.laid k).last.length = m.last.length := by simp [DM.laid, lay_length]
  have e4 : (m.laid (k + 1)).last.length = m.last.length := by simp [DM.laid, lay_length]
  have hD := h.ownD
  rw [e3] at hD
  refine ⟨⟨h.blk.ch h1 (fun e => h.pd (by rw [e]; rfl)), ?_, own_ch h.ownP h1 fun j hj e => h.dp g rfl (by rw [hj, e]), hm.laid _, h.hb⟩, h1.mono fun j _ e => .inr (.inl (by rw [e]; rfl))⟩
  rw [e4, e2, strC_set]
  exact own_set (w := w.drew) hD p.1 hp2.1 _ rfl

set_option maxRecDepth 100000 in
set_option maxHeartbeats 1000000 in
theorem rflush_ok {w : World} {B r : Nat} {dv pv : Value} {m : DM} (h : RefAt w B r dv pv m) (hdn : m.down = false) (hfz : m.fuse ≠ 0) (hpos : 0 < m.last.length) :
    Calls Try.prog 22 #[.pointer (some ⟨r, 0, none⟩)] w fun e w' => e = .returned (.int .i64 0) ∧ RefAt w' B r dv (.slice none 0 0) m.burn.flush ∧ Ch (RFoot r dv pv) w w' := by
  have h3 : w.cell? ⟨r, 3, none⟩ = some (.bool false) := by have := h.blk.cell 3; rw [hdn] at this; exact this
  have hq := hid (rcall_yes h hfz)
  obtain ⟨gd, c, rfl, _, _⟩ := h.ownD.form hpos
  obtain ⟨A2, c2, rfl⟩ := own_slice h.ownP
  have hmany := h.ok.many
  have H := hid h
  clear h hdn hfz
  go_enter Try.func22, Try.ntmps22
  go_wp2_with fail
  refine hq.out.mono ?_
  rintro e w2 ⟨rfl, hd1, hc1⟩
  have HR := hid hd1
  have HC := hid hc1
  clear hd1 hc1 hq
  go_wp2_with fail
  go_loopw [3] (fun i wr => ∃ k : Nat, k ≤ m.pend.length ∧ i = .int .i64 k ∧ Hid (RefAt wr B r (.slice (some ⟨gd, 0, none⟩) m.last.length c) (.slice A2 m.pend.length c2) (m.burn.laid k)) ∧ Hid (Ch (RFoot r (.slice (some ⟨gd, 0, none⟩) m.last.length c) (.slice A2 m.pend.length c2)) w wr)) (fun i _ => m.pend.length - (intOf i).toNat)
  case atStart => exact ⟨0, Nat.zero_le _, rfl, HR, hid (HC.out.mono fun k _ e => .inl e)⟩
  case round =>
    obtain ⟨k, hk, rfl, Hd, Hc⟩ := hrel
    have c1 : wr.cell? ⟨r, 1, none⟩ = some (.slice A2 m.pend.length c2) := Hd.out.blk.cell 1
    by_cases hlt : k < m.pend.length
    · obtain ⟨p, hp⟩ : ∃ p, m.pend[k]? = some p := ⟨_, List.getElem?_eq_getElem hlt⟩
      have hp2 := H.out.ok.secP p (List.mem_of_getElem? hp)
      have hi0 : (0 : Int) ≤ (k : Int) := Int.natCast_nonneg _
      have hi1 : (k : Int) < (m.pend.length : Int) := by omega
      have hj0 : (0 : Int) ≤ (p.1 : Int) := Int.natCast_nonneg _
      have hj1 : (p.1 : Int) < (m.last.length : Int) := by omega
      have c0 : wr.cell? ⟨r, 0, none⟩ = some (.slice (some ⟨gd, 0, none⟩) m.last.length c) := Hd.out.blk.cell 0
      obtain ⟨g, rfl, hc0⟩ := own2_at Hd.out.ownP k 0 (by omega) _ (rpendC_at m.pend k p hp).1
      obtain ⟨g', hg', hc1⟩ := own2_at Hd.out.ownP k 1 (by omega) _ (rpendC_at m.pend k p hp).2
      have hgg : g' = g := by injection hg' with e; injection e with e; exact e.symm
      subst hgg
      clear hg'
      have hc0' : wr.cell? ⟨g', k * 2, none⟩ = some (.int .i64 (p.1 : Int)) := hc0
      have hD := Hd.out.ownD
      rw [show (m.burn.laid k).last.length = m.last.length from by simp [DM.laid, DM.burn, lay_length]] at hD
      obtain ⟨x, hx⟩ : ∃ x, (m.burn.laid k).last[p.1]? = some x := ⟨_, List.getElem?_eq_getElem (by simp [DM.laid, DM.burn, lay_length]; omega)⟩
      have hcd : wr.cell? ⟨gd, p.1, none⟩ = some (.string (strS x)) := by
        obtain ⟨_, e, hc⟩ := own_at hD p.1 _ (strC_at _ _ _ hx)
        injection e with e; injection e with e; subst e; exact hc
      have hfd : wr.frozen? ⟨gd, p.1, none⟩ = false := hD.frozenAt p.1
      have hgr : gd ≠ r := fun e => Hd.out.pd (by rw [e]; rfl)
      have hgp : gd ≠ g' := fun e => Hd.out.dp gd rfl (by rw [e]; rfl)
      have HS := hid (rlaid_step Hd.out H.out.ok.burn hp)
      have q0 : Hid ((wr.drew.setCell ⟨gd, p.1, none⟩ (.string (strS p.2))).cell? ⟨r, 0, none⟩ = some (.slice (some ⟨gd, 0, none⟩) m.last.length c)) := hid ((World.cell?_setCell_other _ _ _ _ (fun e => hgr (by injection e))).trans c0)
      have q1 : Hid ((wr.drew.setCell ⟨gd, p.1, none⟩ (.string (strS p.2))).cell? ⟨r, 1, none⟩ = some (.slice (some ⟨g', 0, none⟩) m.pend.length c2)) := hid ((World.cell?_setCell_other _ _ _ _ (fun e => hgr (by injection e))).trans c1)
      have q2 : Hid ((wr.drew.setCell ⟨gd, p.1, none⟩ (.string (strS p.2))).cell? ⟨g', k * 2, none⟩ = some (.int .i64 (p.1 : Int))) := hid ((World.cell?_setCell_other _ _ _ _ (fun e => hgp (by injection e))).trans hc0')
      have q3 : Hid ((wr.drew.setCell ⟨gd, p.1, none⟩ (.string (strS p.2))).cell? ⟨g', k * 2 + 1, none⟩ = some (.string (strS p.2))) := hid ((World.cell?_setCell_other _ _ _ _ (fun e => hgp (by injection e))).trans hc1)
      clear hD hx hc0 hp
      go_wp2
      go_region_held3 (fun w' => w'.cell? ⟨r, 0, none⟩ = some (.slice (some ⟨gd, 0, none⟩) m.last.length c) ∧ w'.cell? ⟨r, 1, none⟩ = some (.slice (some ⟨g', 0, none⟩) m.pend.length c2) ∧ w'.cell? ⟨g', k * 2, none⟩ = some (.int .i64 (p.1 : Int)) ∧ w'.cell? ⟨g', k * 2 + 1, none⟩ = some (.string (strS p.2))) (first | exact ⟨q0, q1, q2, q3⟩ | go_keep) (fail)
      go_wp2
      go_roundw
      case rel => exact ⟨k + 1, by omega, by go_num, HS.out.1, Hc.out.trans HS.out.2⟩
      case measure => simp [intOf]; omega
    · obtain rfl : k = m.pend.length := by omega
      have f1 : wr.frozen? ⟨r, 1, none⟩ = false := Hd.out.blk.frozen 1
      have e : m.burn.flush = { m.burn.laid m.pend.length with pend := [] } := by simp [DM.flush, DM.laid, DM.burn]
      have HL : Hid (RefAt (wr.setCell ⟨r, 1, none⟩ (.slice none 0 0)) B r (.slice (some ⟨gd, 0, none⟩) m.last.length c) (.slice none 0 0) m.burn.flush) := hid (refAt_set Hd.out 1 _ (.slice none 0 0) m.burn.flush (by rw [e]) (.inr ⟨rfl, rfl⟩) H.out.ok.burn.flush rfl)
      have HC2 := hid (Hc.out.trans ((ch_one wr r 1 (.slice none 0 0)).mono fun k _ e => .inl e))
      clear e
      go_wp2
      go_ret
      exact ⟨rfl, HL.out, HC2.out⟩
end Go.Proofs.Ythflabmfieobdaa
