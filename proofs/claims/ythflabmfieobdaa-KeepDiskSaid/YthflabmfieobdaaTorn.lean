/- KeepTorn: its walk. -/
import Derived.Test.YthflabmfieobdaaWa
namespace Go.Proofs.Ythflabmfieobdaa
open Go.RowKit

def IsRow (k : IntKind) (w : World) (a : Option Addr) (len cap : Nat) (zs : List Int) : Prop :=
  (a = none ∧ len = 0 ∧ cap = 0 ∧ zs = []) ∨
  ∃ x, a = some x ∧ len ≤ cap ∧ cap ≤ maxLen ∧ zs.length = cap ∧ (∀ i, i < zs.length → w.cell? (x.add i) = some (.int k (zs.getD i 0))) ∧ ∀ n ∈ zs, (Lit.int k n).wf = true
theorem wf_u8 {n : Int} (h : (Lit.int .u8 n).wf = true) : 0 ≤ n ∧ n ≤ 255 := by
  simp [Lit.wf, IntKind.min, IntKind.max, IntKind.bits, IntKind.signed] at h; omega
theorem row_rd {w : World} {a : Option Addr} {len cap : Nat} {zs : List Int} (h : IsRow .u8 w a len cap zs) : ∃ bs, RdB w a len bs := by
  rcases h with ⟨rfl, rfl, rfl, rfl⟩ | ⟨x, rfl, hl, _, hz, hc, hw⟩
  · exact ⟨[], rfl, fun h => absurd h (by omega)⟩
  · refine ⟨(zs.take len).map fun z => UInt8.ofNat z.toNat, by simp; omega, fun hn => ⟨x, rfl, ?_, fun j v hv => ?_⟩⟩
    · have := World.block_lt_of_cell? w _ (hc 0 (by omega)); rwa [add_block] at this
    · simp only [secC, List.getElem?_map, List.getElem?_take] at hv
      split at hv
      · rename_i hj
        have hjz : j < zs.length := by omega
        rw [List.getElem?_eq_getElem hjz] at hv
        simp only [Option.map_some, Option.some.injEq] at hv
        rw [hc j hjz, ← hv]
        have hb := wf_u8 (hw _ (List.getElem_mem hjz))
        rw [List.getD_eq_getElem?_getD, List.getElem?_eq_getElem hjz]
        simp only [bC, Option.getD_some]
        congr 2
        rw [UInt8.toNat_ofNat']
        omega
      · simp at hv
theorem RdB.at_ {w : World} {A : Option Addr} {n : Nat} {bs : List UInt8} (h : RdB w A n bs) (k : Nat) (hk : k < n) : ∃ ad, A = some ad ∧ w.cell? (ad.add k) = some (.int .u8 ((bs.getD k 0).toNat : Int)) := by
  obtain ⟨ad, hA, _, hc⟩ := h.2 (by omega)
  refine ⟨ad, hA, hc k _ ?_⟩
  have hkl : k < bs.length := by have := h.1; omega
  simp [secC, List.getElem?_eq_getElem hkl, List.getD_eq_getElem?_getD, bC]
theorem pad_getD (bs : List UInt8) (i : Nat) : (pad bs).getD i 0 = bs.getD i 0 := by
  simp only [pad, List.getD_eq_getElem?_getD]
  rcases Nat.lt_or_ge i bs.length with h | h
  · rw [List.getElem?_append_left h]
  · rw [List.getElem?_append_right h, List.getElem?_eq_none h, List.getElem?_replicate]
    split <;> rfl
theorem getD_ge (bs : List UInt8) (i : Nat) (h : bs.length ≤ i) : bs.getD i 0 = 0 := by
  rw [List.getD_eq_getElem?_getD, List.getElem?_eq_none h]; rfl
/-- What the sector holds behind the crash. -/
theorem torn_new (kp : Int) (o n : List UInt8) (i : Nat) (hi : i < 64) (ho : o.length ≤ 64) (hn : n.length ≤ 64) (hk : (i : Int) < kp) : (kept (keepAt [kp] 0) (pad n) (pad o)).getD i 0 = n.getD i 0 := by
  have e : i < keepAt [kp] 0 := by simp [keepAt]; omega
  have hl := pad_length n hn
  simp only [kept, List.getD_eq_getElem?_getD] at *
  rw [List.getElem?_append_left (by simp; omega), List.getElem?_take, if_pos e, ← List.getD_eq_getElem?_getD, pad_getD, List.getD_eq_getElem?_getD]
theorem torn_old (kp : Int) (o n : List UInt8) (i : Nat) (hi : i < 64) (ho : o.length ≤ 64) (hn : n.length ≤ 64) (hk : kp ≤ (i : Int)) : (kept (keepAt [kp] 0) (pad n) (pad o)).getD i 0 = o.getD i 0 := by
  have e : keepAt [kp] 0 ≤ i := by simp [keepAt]; omega
  have hl := pad_length n hn
  have h64 := keepAt_le [kp] 0
  simp only [kept, List.getD_eq_getElem?_getD] at *
  rw [List.getElem?_append_right (by simp; omega)]
  simp only [List.length_take, List.getElem?_drop, hl, Nat.min_eq_left h64]
  rw [show keepAt [kp] 0 + (i - keepAt [kp] 0) = i from by omega, ← List.getD_eq_getElem?_getD, pad_getD, List.getD_eq_getElem?_getD]

set_option maxRecDepth 100000 in
set_option maxHeartbeats 1000000 in
theorem torn_long (a0 : Int) (a1 : Option Addr) (len1 cap1 : Nat) (a2 : Option Addr) (len2 cap2 : Nat) (a3 : Int) (w : World) (h : 64 < len1 ∨ (len1 ≤ 64 ∧ 64 < len2)) :
    Calls Try.prog 3 #[.int .i64 a0, .slice a1 len1 cap1, .slice a2 len2 cap2, .int .i64 a3] w fun e w' => e = .returned (.bool true) ∧ Below w.heap.size w w' := by
  have hd := disks_ok w
  rcases h with h | ⟨h1, h⟩
  · have h' : (64 : Int) < (len1 : Int) := by omega
    go_enter Try.func3, Try.ntmps3
    go_wp2_with fail
    refine hd.mono ?_
    rintro e w' ⟨rfl, hb⟩
    have Hb := hid hb
    clear hb hd
    go_wp2
    go_ret
    exact ⟨rfl, Hb.out⟩
  · have h1' : (len1 : Int) ≤ 64 := by omega
    have h' : (64 : Int) < (len2 : Int) := by omega
    go_enter Try.func3, Try.ntmps3
    go_wp2_with fail
    refine hd.mono ?_
    rintro e w' ⟨rfl, hb⟩
    have Hb := hid hb
    clear hb hd
    go_wp2
    go_ret
    exact ⟨rfl, Hb.out⟩

theorem torn_now (k : Nat) (hk : k < 16) (o n : List UInt8) (a3 : Int) : (((((DM.new 16).put k o).burn.flush).put k n).crash [a3]).now[k]? = some (kept (keepAt [a3] 0) (pad n) (pad o)) := by
  simp [DM.crash, DM.put, DM.burn, DM.flush, DM.new, crashed, lay, hk]
theorem small_at (a0 : Int) : ∃ k : Nat, wrap64 ((IntKind.u64.wrap a0).tmod 16) = (k : Int) ∧ k < 16 := by
  have h0 : 0 ≤ IntKind.u64.wrap a0 := by
    rw [IntKind.wrap_u64]; omega
  generalize IntKind.u64.wrap a0 = x at h0
  rw [Int.tmod_eq_emod_of_nonneg h0]
  refine ⟨(x % 16).toNat, ?_, by omega⟩
  unfold wrap64
  omega

set_option maxRecDepth 100000 in
set_option maxHeartbeats 2000000 in
theorem torn_main (a0 : Int) (a1 : Option Addr) (len1 cap1 : Nat) (o : List UInt8) (a2 : Option Addr) (len2 cap2 : Nat) (n : List UInt8) (a3 : Int) (w : World) (h1 : len1 ≤ 64) (h2 : len2 ≤ 64) (hr1 : RdB w a1 len1 o) (hr2 : RdB w a2 len2 n) :
    Calls Try.prog 3 #[.int .i64 a0, .slice a1 len1 cap1, .slice a2 len2 cap2, .int .i64 a3] w fun e w' => e = .returned (.bool true) ∧ Below w.heap.size w w' := by
  have h1' : (len1 : Int) ≤ 64 := by omega
  have h2' : (len2 : Int) ≤ 64 := by omega
  have Hr1 := hid hr1
  have Hr2 := hid hr2
  clear hr1 hr2
  go_enter Try.func3, Try.ntmps3
  go_wp2_with fail
  obtain ⟨k, hk, hk16⟩ := small_at a0
  rw [hk]
  clear hk
  refine (newdisk_ok 16 w.heap.size w (by omega) (by omega) (Nat.le_refl _)).mono ?_
  rintro e w1 ⟨b, bl, bn, rfl, hd1, hb1⟩
  have Hd1 := hid hd1
  have Hb1 := hid hb1
  clear hd1 hb1
  have hold : o.length ≤ 64 := by have := Hr1.out.1; omega
  have hnew : n.length ≤ 64 := by have := Hr2.out.1; omega
  have m1ok : ((DM.new 16).put k o).Ok := (DM.Ok.new (by omega)).put (by simp [DM.new]; omega) hold (by simp [DM.new])
  have hsep1 : 0 < len1 → ∀ ad, a1 = some ad → ad.block ≠ b := fun h0 ad e => by obtain ⟨ad', e', hlt, _⟩ := Hr1.out.2 h0; rw [e] at e'; injection e' with e'; subst e'; have := Hd1.out.hb; omega
  have hsep2 : 0 < len2 → ∀ ad, a2 = some ad → ad.block ≠ b := fun h0 ad e => by obtain ⟨ad', e', hlt, _⟩ := Hr2.out.2 h0; rw [e] at e'; injection e' with e'; subst e'; have := Hd1.out.hb; omega
  go_wp2_with fail
  refine (write_ok Hd1.out rfl (by decide) k (by simp [DM.new]; omega) a1 len1 cap1 o (Hr1.out.below Hb1.out) h1 hsep1 (by simp [DM.new])).mono ?_
  rintro e w2 ⟨rfl, pv2, hd2, hc2, hm2⟩
  have Hb2 : Hid (Below w.heap.size w w2) := hid (Hb1.out.trans (foot_below Hd1.out hc2 Hb1.out.size))
  have Hd2 := hid hd2
  clear hd2 hc2 hm2
  go_wp2_with fail
  refine (flush_any Hd2.out rfl (by simp [DM.put, DM.burn, DM.new])).mono ?_
  rintro e w3 ⟨rfl, hd3, hc3⟩
  have Hb3 : Hid (Below w.heap.size w w3) := hid (Hb2.out.trans (foot_below Hd2.out hc3 Hb2.out.size))
  have Hd3 := hid hd3
  clear hd3 hc3
  go_wp2_with fail
  refine (write_ok Hd3.out rfl (by simp [DM.flush, DM.put, DM.burn, DM.new]) k (by simp [DM.flush, DM.burn, DM.put, DM.new, lay_length]; omega) a2 len2 cap2 n (Hr2.out.below Hb3.out) h2 hsep2 (by simp [DM.flush])).mono ?_
  rintro e w4 ⟨rfl, pv4, hd4, hc4, hm4⟩
  have Hb4 : Hid (Below w.heap.size w w4) := hid (Hb3.out.trans (foot_below Hd3.out hc4 Hb3.out.size))
  have Hd4 := hid hd4
  clear hd4 hc4 hm4
  go_wp2_with fail
  have hb5 := (Below.refl w4.heap.size w4).alloc (Nat.le_refl _) (.cells #[.int .i64 a3] 3)
  have hd5 := Hd4.out.below hb5
  refine (crash_any hd5 (rdI_one w4 a3) (by omega) (fun _ ad e hf => by injection e with e; subst e; have := (Hd4.out.foot _ hf).2; simp at this)).mono ?_
  rintro e w5 ⟨rfl, hd6, hc5⟩
  have Hb5 : Hid (Below w.heap.size w w5) := hid ((Hb4.out.trans (hb5.mono Hb4.out.size)).trans (foot_below hd5 hc5 (by have := Hb4.out.size; simp; omega)))
  have Hd5 := hid hd6
  clear hd5 hd6 hc5 hb5
  go_wp2_with fail
  have hnow : (((((DM.new 16).put k o).burn.flush).put k n).crash [a3]).now[k]? = some (kept (keepAt [a3] 0) (pad n) (pad o)) := torn_now k hk16 o n a3
  refine (read_ok Hd5.out rfl k _ hnow).mono ?_
  rintro e w6 ⟨v, rfl, ho, hb6⟩
  obtain ⟨g, cap, rfl, _, _⟩ := ho.form (by omega)
  have Hb6 : Hid (Below w.heap.size w w6) := hid (Hb5.out.trans (hb6.mono Hb5.out.size))
  have Hd6 := hid (Hd5.out.below hb6)
  have Ho := hid ho
  clear ho hb6
  go_wp2_with fail
  refine (down_ok Hd6.out).mono ?_
  rintro e w' ⟨rfl, rfl⟩
  go_wp2_with fail
  have hdk := hid (disks_ok w6)
  have Hr16 := hid (Hr1.out.below Hb6.out)
  have Hr26 := hid (Hr2.out.below Hb6.out)
  have hs : Hid (∀ i, i < 64 → w6.cell? ⟨g, i, none⟩ = some (bC ((kept (keepAt [a3] 0) (pad n) (pad o)).getD i 0))) := hid fun i hi => by
    have hl := kept_length (keepAt [a3] 0) (pad n) (pad o) (keepAt_le _ _) (pad_length n hnew) (pad_length o hold)
    have := Ho.out.cells (g := g) rfl i (bC ((kept (keepAt [a3] 0) (pad n) (pad o)).getD i 0)) (by
      simp [secC, List.getElem?_eq_getElem (show i < (kept (keepAt [a3] 0) (pad n) (pad o)).length by omega), List.getD_eq_getElem?_getD])
    rwa [Addr.add_mid, Nat.zero_add] at this
  clear m1ok hnow hsep1 hsep2
  go_loop [17] (fun i => ∃ j : Nat, j ≤ 64 ∧ i = .int .i64 j) (fun i => 64 - (intOf i).toNat)
  case atStart => exact ⟨0, by omega, rfl⟩
  case round =>
    obtain ⟨j, hj, rfl⟩ := hrel
    by_cases hlt : j < 64
    · have hcell := hs.out j hlt
      have hj64 : (j : Int) < 64 := by omega
      by_cases hkp : (j : Int) < a3
      · rw [torn_new a3 o n j hlt hold hnew hkp] at hcell
        by_cases hn2 : j < len2
        · obtain ⟨ad, rfl, hc⟩ := Hr26.out.at_ j hn2
          have hn2' : (j : Int) < (len2 : Int) := by omega
          unfold bC at hcell
          go_wp2
          go_round
          case rel => exact ⟨j + 1, by omega, by go_num⟩
          case measure => simp [intOf]; omega
        · rw [getD_ge n j (by have := Hr2.out.1; omega)] at hcell
          have hc0 : w6.cell? ⟨g, j, none⟩ = some (.int .u8 0) := hcell
          have hn2' : (len2 : Int) ≤ (j : Int) := by omega
          clear hcell
          go_wp2
          go_round
          case rel => exact ⟨j + 1, by omega, by go_num⟩
          case measure => simp [intOf]; omega
      · have hkp' : a3 ≤ (j : Int) := by omega
        rw [torn_old a3 o n j hlt hold hnew hkp'] at hcell
        by_cases hn2 : j < len1
        · obtain ⟨ad, rfl, hc⟩ := Hr16.out.at_ j hn2
          have hn2' : (j : Int) < (len1 : Int) := by omega
          unfold bC at hcell
          go_wp2
          go_round
          case rel => exact ⟨j + 1, by omega, by go_num⟩
          case measure => simp [intOf]; omega
        · rw [getD_ge o j (by have := Hr1.out.1; omega)] at hcell
          have hc0 : w6.cell? ⟨g, j, none⟩ = some (.int .u8 0) := hcell
          have hn2' : (len1 : Int) ≤ (j : Int) := by omega
          clear hcell
          go_wp2
          go_round
          case rel => exact ⟨j + 1, by omega, by go_num⟩
          case measure => simp [intOf]; omega
    · obtain rfl : j = 64 := by omega
      go_wp2_with fail
      refine hdk.out.mono ?_
      rintro e w7 ⟨rfl, hb7⟩
      have Hb7 : Hid (Below w.heap.size w w7) := hid (Hb6.out.trans (hb7.mono Hb6.out.size))
      clear hb7
      go_wp2
      go_ret
      exact ⟨rfl, Hb7.out⟩
end Go.Proofs.Ythflabmfieobdaa
