/- The reference's disk: Crash. -/
import Derived.Test.YthflabmfieobdaaWf
namespace Go.Proofs.Ythflabmfieobdaa
open Go.RowKit
set_option linter.unusedVariables false
set_option linter.unusedSimpArgs false

theorem rtorn_step {w : World} {B r k g cap : Nat} {pv : Value} {m : DM} {ks : List Int} {p : Nat × List UInt8} (h : RefAt w B r (.slice (some ⟨g, 0, none⟩) m.last.length cap) pv (m.torn ks k)) (hm : m.Ok) (hp : m.pend[k]? = some p)
    (n : Nat) (hn : n = keepAt ks k) (S : ByteArray) (hS : S = strS (kept n p.2 ((m.torn ks k).last.getD p.1 []))) (X : Obj) :
    RefAt ((w.setCell ⟨g, p.1, none⟩ (.string S)).alloc X).drew B r (.slice (some ⟨g, 0, none⟩) m.last.length cap) pv (m.torn ks (k + 1)) ∧ Ch (RFoot r (.slice (some ⟨g, 0, none⟩) m.last.length cap) pv) w ((w.setCell ⟨g, p.1, none⟩ (.string S)).alloc X).drew := by
  subst hS
  have h1 : Ch (fun k => k = g) w (w.setCell ⟨g, p.1, none⟩ (.string (strS (kept n p.2 ((m.torn ks k).last.getD p.1 []))))) := ch_one _ _ _ _
  have hp2 := hm.secP p (List.mem_of_getElem? hp)
  have hkl : k < m.pend.length := (List.getElem?_eq_some_iff.1 hp).1
  have e : m.pend.take (k + 1) = m.pend.take k ++ [p] := by rw [List.take_add_one, hp]; rfl
  have e2 : (m.torn ks (k + 1)).last = (m.torn ks k).last.set p.1 (kept n p.2 ((m.torn ks k).last.getD p.1 [])) := by
    simp only [DM.torn]; rw [e, crashed_snoc]; simp [hn, Nat.min_eq_left (Nat.le_of_lt hkl)]
  have e3 : (m.torn ks k).last.length = m.last.length := by simp [DM.torn, crashed_length]
  have e4 : (m.torn ks (k + 1)).last.length = m.last.length := by simp [DM.torn, crashed_length]
  have hD := h.ownD
  rw [e3] at hD
  have hR : RefAt (w.setCell ⟨g, p.1, none⟩ (.string (strS (kept n p.2 ((m.torn ks k).last.getD p.1 []))))) B r (.slice (some ⟨g, 0, none⟩) m.last.length cap) pv (m.torn ks (k + 1)) := by
    refine ⟨h.blk.ch h1 (fun e => h.pd (by rw [e]; rfl)), ?_, own_ch h.ownP h1 fun j hj e => h.dp g rfl (by rw [hj, e]), hm.torn _ _, h.hb⟩
    rw [e4, e2, strC_set]
    exact own_set hD p.1 hp2.1 _ rfl
  generalize w.setCell ⟨g, p.1, none⟩ (.string (strS (kept n p.2 ((m.torn ks k).last.getD p.1 [])))) = W at *
  have hb : Below W.heap.size W (W.alloc X).drew := ((Below.refl _ _).alloc (Nat.le_refl _) _).drew
  exact ⟨hR.below hb, (h1.mono fun j _ e => .inr (.inl (by rw [e]; rfl))).below hb⟩
theorem strS_keptn (n : Nat) (a b : List UInt8) (h : b.length = 64) : (strS a).extract 0 n ++ (strS b).extract n 64 = strS (kept n a b) := by
  apply ByteArray.ext
  simp [strS, kept]
  rw [List.take_of_length_le (by simp; omega)]
theorem strS_kept0 (a b : List UInt8) (h : b.length = 64) : (strS b).extract 0 64 = strS (kept 0 a b) := by
  apply ByteArray.ext
  simp [strS, kept]
  rw [List.take_of_length_le (by omega)]
theorem strS_kept64 (a b : List UInt8) (h : a.length = 64) (hb : b.length = 64) : (strS a).extract 0 64 = strS (kept 64 a b) := by
  apply ByteArray.ext
  simp [strS, kept]
  omega
theorem rcrash_last {w wr : World} {B r : Nat} {dv pv : Value} {m : DM} {ks : List Int} (h : RefAt wr B r dv pv (m.torn ks m.pend.length)) (hm : m.Ok) (hc : Ch (RFoot r dv pv) w wr) :
    RefAt (((wr.setCell ⟨r, 1, none⟩ (.slice none 0 0)).setCell ⟨r, 2, none⟩ (.int .i64 (-1))).setCell ⟨r, 3, none⟩ (.bool false)) B r dv (.slice none 0 0) (m.crash ks) ∧
    Ch (RFoot r dv pv) w (((wr.setCell ⟨r, 1, none⟩ (.slice none 0 0)).setCell ⟨r, 2, none⟩ (.int .i64 (-1))).setCell ⟨r, 3, none⟩ (.bool false)) := by
  have h3 : Ch (fun k => k = r) wr (((wr.setCell ⟨r, 1, none⟩ (.slice none 0 0)).setCell ⟨r, 2, none⟩ (.int .i64 (-1))).setCell ⟨r, 3, none⟩ (.bool false)) :=
    ((ch_one _ _ _ _).trans (ch_one _ _ _ _)).trans (ch_one _ _ _ _)
  have e : (m.torn ks m.pend.length).last = (m.crash ks).last := by simp [DM.torn, DM.crash]
  have hD := own_ch h.ownD h3 fun j hj e => h.pd (by rw [hj, e])
  rw [e] at hD
  exact ⟨⟨((h.blk.set_ 1 _).set_ 2 _).set_ 3 _, hD, World.ownsRow_nil _ _ _ _, hm.crash ks, h.hb⟩, hc.trans (h3.mono fun k _ e => .inl e)⟩

set_option maxRecDepth 100000 in
set_option maxHeartbeats 4000000 in
theorem rcrash_ok {w : World} {B r kl kc : Nat} {dv pv : Value} {KA : Option Addr} {ks : List Int} {m : DM} (h : RefAt w B r dv pv m) (hpos : 0 < m.last.length)
    (hks : RdI w KA kl ks) (hkb : kl ≤ 9223372036854775807) (hsep : 0 < kl → ∀ ad, KA = some ad → ¬ RFoot r dv pv ad.block) :
    Calls Try.prog 25 #[.pointer (some ⟨r, 0, none⟩), .slice KA kl kc] w fun e w' => e = .returned (.tuple #[]) ∧ RefAt w' B r dv (.slice none 0 0) (m.crash ks) ∧ Ch (RFoot r dv pv) w w' := by
  obtain ⟨gd, c, rfl, _, _⟩ := h.ownD.form hpos
  obtain ⟨A2, c2, rfl⟩ := own_slice h.ownP
  have hmany := h.ok.many
  have H := hid h
  have HK := hid hks
  clear h hks
  go_enter Try.func25, Try.ntmps25
  go_wp2_with fail
  go_loopw [4] (fun i wr => ∃ k : Nat, k ≤ m.pend.length ∧ i = .int .i64 k ∧ Hid (RefAt wr B r (.slice (some ⟨gd, 0, none⟩) m.last.length c) (.slice A2 m.pend.length c2) (m.torn ks k)) ∧ Hid (Ch (RFoot r (.slice (some ⟨gd, 0, none⟩) m.last.length c) (.slice A2 m.pend.length c2)) w wr)) (fun i _ => m.pend.length - (intOf i).toNat)
  case atStart => exact ⟨0, Nat.zero_le _, rfl, H, hid (Ch.refl _ _)⟩
  case round =>
    obtain ⟨k, hk, rfl, Hd, Hc⟩ := hrel
    have c1 : wr.cell? ⟨r, 1, none⟩ = some (.slice A2 m.pend.length c2) := Hd.out.blk.cell 1
    by_cases hlt : k < m.pend.length
    · obtain ⟨p, hp⟩ : ∃ p, m.pend[k]? = some p := ⟨_, List.getElem?_eq_getElem hlt⟩
      have hp2 := H.out.ok.secP p (List.mem_of_getElem? hp)
      have hi0 : (0 : Int) ≤ (k : Int) := Int.natCast_nonneg _
      have hi1 : (k : Int) < (m.pend.length : Int) := by omega
      have hj0 : (0 : Int) ≤ (p.1 : Int) := Int.natCast_nonneg _
      have hj1 : (p.1 : Int) < (m.last.length : Int) := by omega
      have c0 : wr.cell? ⟨r, 0, none⟩ = some (.slice (some ⟨gd, 0, none⟩) m.last.length c) := Hd.out.blk.cell 0
      obtain ⟨g, rfl, hc0⟩ := own2_at Hd.out.ownP k 0 (by omega) _ (rpendC_at m.pend k p hp).1
      obtain ⟨g', hg', hc1⟩ := own2_at Hd.out.ownP k 1 (by omega) _ (rpendC_at m.pend k p hp).2
      have hgg : g' = g := by injection hg' with e; injection e with e; exact e.symm
      subst hgg
      clear hg'
      have hc0' : wr.cell? ⟨g', k * 2, none⟩ = some (.int .i64 (p.1 : Int)) := hc0
      have hD := Hd.out.ownD
      rw [show (m.torn ks k).last.length = m.last.length from by simp [DM.torn, crashed_length]] at hD
      obtain ⟨x, hx⟩ : ∃ x, (m.torn ks k).last[p.1]? = some x := ⟨_, List.getElem?_eq_getElem (by simp [DM.torn, crashed_length]; omega)⟩
      have hcd : wr.cell? ⟨gd, p.1, none⟩ = some (.string (strS x)) := by
        obtain ⟨_, e, hc⟩ := own_at hD p.1 _ (strC_at _ _ _ hx)
        injection e with e; injection e with e; subst e; exact hc
      have hfd : wr.frozen? ⟨gd, p.1, none⟩ = false := hD.frozenAt p.1
      have hxl : x.length = 64 := Hd.out.ok.secL x (List.mem_of_getElem? hx)
      have hxs : (strS x).size = 64 := by rw [strS_size, hxl]
      have hps : (strS p.2).size = 64 := by rw [strS_size, hp2.2]
      have hxe : (m.torn ks k).last.getD p.1 [] = x := by rw [List.getD_eq_getElem?_getD, hx]; rfl
      have HS : Hid (∀ n, n = keepAt ks k → ∀ S, S = strS (kept n p.2 x) → RefAt ((wr.setCell ⟨gd, p.1, none⟩ (.string S)).alloc (.cells #[.int .i64 (p.1 : Int), .string (strS p.2)] 66)).drew B r (.slice (some ⟨gd, 0, none⟩) m.last.length c) (.slice (some ⟨g', 0, none⟩) m.pend.length c2) (m.torn ks (k + 1)) ∧ Ch (RFoot r (.slice (some ⟨gd, 0, none⟩) m.last.length c) (.slice (some ⟨g', 0, none⟩) m.pend.length c2)) wr ((wr.setCell ⟨gd, p.1, none⟩ (.string S)).alloc (.cells #[.int .i64 (p.1 : Int), .string (strS p.2)] 66)).drew) := hid (fun n hn S hS => rtorn_step Hd.out H.out.ok hp n hn S (by rw [hxe]; exact hS) _)
      have HK0 := hid (strS_kept0 p.2 x hxl)
      have HKN := hid (fun n => strS_keptn n p.2 x hxl)
      have HK64 := hid (strS_kept64 p.2 x hp2.2 hxl)
      have hrl : r < wr.heap.size := Hd.out.blk.lt
      have hgl : gd < wr.heap.size := (Hd.out.ownD.lt gd rfl).2
      have d0 : (wr.alloc (.cells #[.int .i64 (p.1 : Int), .string (strS p.2)] 66)).cell? ⟨r, 0, none⟩ = some (.slice (some ⟨gd, 0, none⟩) m.last.length c) := (World.cell?_alloc_lt wr _ _ hrl).trans c0
      have dd : (wr.alloc (.cells #[.int .i64 (p.1 : Int), .string (strS p.2)] 66)).cell? ⟨gd, p.1, none⟩ = some (.string (strS x)) := (World.cell?_alloc_lt wr _ _ hgl).trans hcd
      have fd : (wr.alloc (.cells #[.int .i64 (p.1 : Int), .string (strS p.2)] 66)).frozen? ⟨gd, p.1, none⟩ = false := (World.frozen?_of_block (w := wr) (a := ⟨gd, p.1, none⟩) (Below.heap_alloc _ _ _ hgl)).trans hfd
      clear hD hx hc0 hp hxe
      by_cases hkk : k < kl
      · have hn := keepAt_in ks k
        have hkr := (HK.out.ch Hc.out hsep)
        obtain ⟨ad, rfl, hadl, hcell⟩ := hkr.2 (by omega)
        have hck := hcell k hkk
        have hkk0 : (k : Int) < (kl : Int) := by omega
        obtain ⟨y, hy⟩ : ∃ y, y = ks.getD k 0 := ⟨_, rfl⟩
        rw [← hy] at hck hn
        have Hn := hid hn
        clear hy hn hcell hkr
        rcases (show y < 0 ∨ y = 0 ∨ (1 ≤ y ∧ y ≤ 63) ∨ y = 64 ∨ 65 ≤ y by omega) with hx | hx | ⟨hx, hx2⟩ | hx | hx
        · have Hn0 : Hid ((0 : Nat) = keepAt ks k) := hid (by have := Hn.out; omega)
          go_wp2
          refine wp_region_still_tail 22 (by kernel_rfl) (by kernel_rfl) ?_
          change wpStill _ _ (World.drew _) (fun a' => wpList _ _ _ _ a' (World.drew _)) _ _
          simp only [List.take_succ_cons, List.take_zero, List.drop_succ_cons, List.drop_zero]
          repeat still_step
          try refine wpStill_nil ?_
          go_wp2
          go_roundw
          case rel => exact ⟨k + 1, by omega, by go_num, (HS.out 0 (Hn0.out) _ (HK0.out)).1, Hc.out.trans (HS.out 0 (Hn0.out) _ (HK0.out)).2⟩
          case measure => simp [intOf]; omega
        · have Hn0 : Hid ((0 : Nat) = keepAt ks k) := hid (by have := Hn.out; omega)
          subst hx
          go_wp2
          refine wp_region_still_tail 22 (by kernel_rfl) (by kernel_rfl) ?_
          change wpStill _ _ (World.drew _) (fun a' => wpList _ _ _ _ a' (World.drew _)) _ _
          simp only [List.take_succ_cons, List.take_zero, List.drop_succ_cons, List.drop_zero]
          repeat still_step
          try refine wpStill_nil ?_
          go_wp2
          go_roundw
          case rel => exact ⟨k + 1, by omega, by go_num, (HS.out 0 (Hn0.out) _ (HK0.out)).1, Hc.out.trans (HS.out 0 (Hn0.out) _ (HK0.out)).2⟩
          case measure => simp [intOf]; omega
        · obtain ⟨n, rfl⟩ := Int.eq_ofNat_of_zero_le (show 0 ≤ y by omega)
          have Hn0 : Hid (n = keepAt ks k) := hid (by have := Hn.out; omega)
          have hn64 : n ≤ 64 := by omega
          have hn64' : (n : Int) ≤ 64 := by omega
          go_wp2
          refine wp_region_still_tail 22 (by kernel_rfl) (by kernel_rfl) ?_
          change wpStill _ _ (World.drew _) (fun a' => wpList _ _ _ _ a' (World.drew _)) _ _
          simp only [List.take_succ_cons, List.take_zero, List.drop_succ_cons, List.drop_zero]
          repeat still_step
          try refine wpStill_nil ?_
          go_wp2
          go_roundw
          case rel => exact ⟨k + 1, by omega, by go_num, (HS.out n (Hn0.out) _ (HKN.out n)).1, Hc.out.trans (HS.out n (Hn0.out) _ (HKN.out n)).2⟩
          case measure => simp [intOf]; omega
        · have Hn0 : Hid ((64 : Nat) = keepAt ks k) := hid (by have := Hn.out; omega)
          subst hx
          go_wp2
          refine wp_region_still_tail 22 (by kernel_rfl) (by kernel_rfl) ?_
          change wpStill _ _ (World.drew _) (fun a' => wpList _ _ _ _ a' (World.drew _)) _ _
          simp only [List.take_succ_cons, List.take_zero, List.drop_succ_cons, List.drop_zero]
          repeat still_step
          try refine wpStill_nil ?_
          go_wp2
          go_roundw
          case rel => exact ⟨k + 1, by omega, by go_num, (HS.out 64 (Hn0.out) _ (HK64.out)).1, Hc.out.trans (HS.out 64 (Hn0.out) _ (HK64.out)).2⟩
          case measure => simp [intOf]; omega
        · have Hn0 : Hid ((64 : Nat) = keepAt ks k) := hid (by have := Hn.out; omega)
          go_wp2
          refine wp_region_still_tail 22 (by kernel_rfl) (by kernel_rfl) ?_
          change wpStill _ _ (World.drew _) (fun a' => wpList _ _ _ _ a' (World.drew _)) _ _
          simp only [List.take_succ_cons, List.take_zero, List.drop_succ_cons, List.drop_zero]
          repeat still_step
          try refine wpStill_nil ?_
          go_wp2
          go_roundw
          case rel => exact ⟨k + 1, by omega, by go_num, (HS.out 64 (Hn0.out) _ (HK64.out)).1, Hc.out.trans (HS.out 64 (Hn0.out) _ (HK64.out)).2⟩
          case measure => simp [intOf]; omega
      · have Hn0 : Hid ((0 : Nat) = keepAt ks k) := hid (by rw [keepAt_out ks k (by have := HK.out.1; omega)])
        have hkk0 : (kl : Int) ≤ (k : Int) := by omega
        go_wp2
        refine wp_region_still_tail 22 (by kernel_rfl) (by kernel_rfl) ?_
        change wpStill _ _ (World.drew _) (fun a' => wpList _ _ _ _ a' (World.drew _)) _ _
        simp only [List.take_succ_cons, List.take_zero, List.drop_succ_cons, List.drop_zero]
        repeat still_step
        try refine wpStill_nil ?_
        go_wp2
        go_roundw
        case rel => exact ⟨k + 1, by omega, by go_num, (HS.out 0 (Hn0.out) _ (HK0.out)).1, Hc.out.trans (HS.out 0 (Hn0.out) _ (HK0.out)).2⟩
        case measure => simp [intOf]; omega
    · obtain rfl : k = m.pend.length := by omega
      have f1 : wr.frozen? ⟨r, 1, none⟩ = false := Hd.out.blk.frozen 1
      have f2 : wr.frozen? ⟨r, 2, none⟩ = false := Hd.out.blk.frozen 2
      have f3 : wr.frozen? ⟨r, 3, none⟩ = false := Hd.out.blk.frozen 3
      have k2 := Hd.out.blk.cell 2
      have k3 := Hd.out.blk.cell 3
      have HL := hid (rcrash_last Hd.out H.out.ok Hc.out)
      go_wp2
      go_end0
      exact ⟨rfl, HL.out⟩
end Go.Proofs.Ythflabmfieobdaa
