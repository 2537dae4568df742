/- KeepDisk: its walk. -/
import Derived.Test.YthflabmfieobdaaWj
namespace Go.Proofs.Ythflabmfieobdaa
open Go.RowKit
set_option linter.unusedVariables false
set_option linter.unusedSimpArgs false

theorem Try.size43 : (Try.prog.info? 43).map (·.size) = some 5 := by kernel_rfl
theorem bld43 (x : Int) (w : World) : bldRun Try.prog 43 #[(1, .int .i64 x)] w = .ok (.value (.agg #[.int .u8 0, .int .i64 x, .slice none 0 0, .int .i64 0, .slice none 0 0])) w := by kernel_rfl
def readOp (k : Nat) : DOp := ⟨0, k, none, 0, 0, [], 0, none, 0, 0, []⟩

attribute [local go_sem ↓] bld_pre

set_option maxRecDepth 100000 in
set_option maxHeartbeats 2000000 in
theorem keep_disk (a0 : Int) (A : Option Addr) (n c : Nat) (os : List DOp) (w : World) (h : RdOps w A n os) (hn : n ≤ 9223372036854775807) :
    Calls Try.prog 4 #[.int .i64 a0, .slice A n c] w fun e w' => e = .returned (.bool true) ∧ Below w.heap.size w w' := by
  have H := hid h
  have Hsm := hid (small_ok (c := c) h hn)
  have Hdk := hid (disks_ok w)
  have hb43 := bld43
  clear h
  go_enter Try.func4, Try.ntmps4
  go_wp2_with fail
  refine Hsm.out.mono ?_
  rintro e w' ⟨hsm | ⟨hsm, h200⟩, rfl⟩
  · subst hsm
    go_wp2_with fail
    refine Hdk.out.mono ?_
    rintro e w' ⟨rfl, hb⟩
    have Hb := hid hb
    clear hb
    go_wp2
    go_ret
    exact ⟨rfl, Hb.out⟩
  · subst hsm
    have Hdisk := hid (disk_ok a0 w)
    have Hno := hid (newdisk_no a0 w)
    rcases (show a0 < 16 ∨ 65536 < a0 ∨ (16 ≤ a0 ∧ a0 ≤ 65536) by omega) with ha | ha | ha
    all_goals
      go_wp2_with (go_at_call 6; refine (Hno.out (by omega)).mono ?_; rintro e w' ⟨rfl, rfl⟩)
      refine Hdisk.out.mono ?_
      rintro e w1 ⟨N, b, bl, bn, r, rfl, hN, hN2, hp, hb⟩
      have Hp := hid hp
      have Hb := hid hb
      clear hp hb
      go_wp2_with fail
      go_loopw [10] (fun i wr => ∃ j : Nat, j ≤ n ∧ i = .int .i64 j ∧ ∃ m : DM, Hid (Pair wr w.heap.size b bl bn r m m) ∧ Hid m.Sound ∧ m.pend.length ≤ j ∧ m.last.length = N ∧ Hid (Below w.heap.size w wr)) (fun i _ => n - (intOf i).toNat)
      case atStart => exact ⟨0, by omega, rfl, _, Hp, hid (DM.Sound.new hN), by simp [DM.new], by simp [DM.new], Hb⟩
      case round =>
        obtain ⟨j, hj, rfl, m, HP, HS, hpl, hml, HB⟩ := hrel
        by_cases hlt : j < n
        · obtain ⟨g, o, x, rfl, hg, hr, hx⟩ := H.out.at_ j hlt
          have hlt' : (j : Int) < (n : Int) := by omega
          have hj0 : (0 : Int) ≤ (j : Int) := by omega
          have hr1 : wr.rangeAt g (o + j * 5) x.cells := range_below hr HB.out hg
          have Hstep := hid (step_ok (o := x) (HP.out.below (Below.refl _ _).drew) HS.out HB.out.drew hx (by omega))
          have hc0 := hr1 0 _ rfl
          have hc1 := hr1 1 _ rfl
          have hc2 := hr1 2 _ rfl
          have hc3 := hr1 3 _ rfl
          have hc4 := hr1 4 _ rfl
          rw [Nat.add_zero] at hc0
          unfold DOp.cells at Hstep
          clear hr hx hr1
          go_wp2
          go_region_law (first | (go_simp; go_at_call 14; refine Hstep.out.mono ?_; rintro e w2 ⟨rfl, m2, hp2, hs2, hpl2, hml2, hb2⟩; obtain ⟨pv2, dv2, rpv2, hd2, hf2⟩ := hp2; have k3 := hf2.blk.cell 3) | (go_simp; go_at_call 11; refine (down_ok hd2).mono ?_; rintro e w3 ⟨rfl, rfl⟩))
          all_goals
            have HP2 : Hid (Pair w2 w.heap.size b bl bn r m2 m2) := hid ⟨pv2, dv2, rpv2, hd2, hf2⟩
            have HS2 := hid hs2
            have HB2 := hid hb2
            clear hd2 hf2 hs2 hb2 hc0 hc1 hc2 hc3 hc4 k3
            go_wp2
            go_roundw
            case rel => exact ⟨j + 1, by omega, by go_num, m2, HP2, HS2, by omega, by omega, HB2⟩
            case measure => simp [intOf]; omega
        · obtain rfl : j = n := by omega
          go_wp2
          go_loopw [11] (fun i wr => ∃ j : Nat, j ≤ N ∧ i = .int .i64 j ∧ ∃ m : DM, Hid (Pair wr w.heap.size b bl bn r m m) ∧ Hid m.Sound ∧ m.last.length = N ∧ Hid (Below w.heap.size w wr)) (fun i _ => N - (intOf i).toNat)
          case atStart => exact ⟨0, by omega, rfl, _, HP, HS, hml, HB⟩
          case round =>
            obtain ⟨j2, hj2, rfl, m2, HP2, HS2, hml2, HB2⟩ := hrel
            obtain ⟨pv2, dv2, rpv2, hd2, hf2⟩ := HP2.out
            obtain ⟨D, cd, hdv⟩ := own_slice hf2.ownD
            have k0 := hf2.blk.cell 0
            rw [hdv, hml2] at k0
            clear hd2 hf2 hdv
            by_cases hlt : j2 < N
            · have hlt' : (j2 : Int) < (N : Int) := by omega
              have Hstep := hid (step_read (o := readOp j2) HP2.out HS2.out HB2.out (show (0:Int) ≤ 0 by decide) (show (0:Int) ≤ 255 by decide) (show (0:Int).tmod 5 = 0 by decide))
              unfold readOp DOp.cells at Hstep
              go_wp2_with fail
              refine Hstep.out.mono ?_
              rintro e w2 ⟨rfl, m3, hp3, hs3, hpl3, hml3, hb3⟩
              have HP3 := hid hp3
              have HS3 := hid hs3
              have HB3 := hid hb3
              clear hp3 hs3 hb3
              go_wp2
              go_roundw
              case rel => exact ⟨j2 + 1, by omega, by go_num, m3, HP3, HS3, by omega, HB3⟩
              case measure => simp [intOf]; omega
            · obtain rfl : j2 = N := by omega
              have Hdk2 := hid (disks_ok wr)
              go_wp2_with fail
              refine Hdk2.out.mono ?_
              rintro e w7 ⟨rfl, hb7⟩
              have Hb7 := hid (HB2.out.trans (hb7.mono HB2.out.size))
              clear hb7
              go_wp2
              go_ret
              exact ⟨rfl, Hb7.out⟩
end Go.Proofs.Ythflabmfieobdaa
