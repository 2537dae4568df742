/- The other ways through a disk's functions. -/
import Derived.Test.YthflabmfieobdaaW7
namespace Go.Proofs.Ythflabmfieobdaa
open Go.RowKit

set_option maxRecDepth 100000 in
set_option maxHeartbeats 400000 in
theorem flush_nil {w : World} {B b bl bn : Nat} {m : DM} (h : DiskAt w B b bl bn (.slice none 0 0) m) (hp : m.pend = []) (hdn : m.down = false) (hfz : m.fuse ≠ 0) :
    Calls Try.prog 8 #[.pointer (some ⟨b, 0, none⟩)] w fun e w' => e = .returned (.int .i64 0) ∧ DiskAt w' B b bl bn (.slice none 0 0) m.burn.flush ∧ Ch (Foot b bl bn (.slice none 0 0)) w w' := by
  have hs := state_ok h
  rw [hdn] at hs
  have hq := power_yes h hfz
  have HD := hid h
  have HP := hid hp
  clear hdn hp
  go_enter Try.func8, Try.ntmps8
  go_wp2_with fail
  refine hs.mono ?_
  rintro e w' ⟨rfl, rfl⟩
  go_wp2_with fail
  refine hq.mono ?_
  rintro e w1 ⟨rfl, hd1, hc1⟩
  clear hs hq
  have hc2 : w1.cell? ⟨b, 2, none⟩ = some (.slice none 0 0) := hd1.blk.cell 2
  have hf2 : w1.frozen? ⟨b, 2, none⟩ = false := hd1.blk.frozen 2
  have hfin : Hid (DiskAt (w1.setCell ⟨b, 2, none⟩ (.slice none 0 0)) B b bl bn (.slice none 0 0) m.burn.flush) := hid (diskAt_set hd1 2 _ _ m.burn.flush (by simp [DM.flush, DM.burn, HP.out, lay]) rfl (by simp [DM.flush, DM.burn, HP.out]) rfl h.ok.burn.flush (by simp [DM.flush, DM.burn, HP.out, lay]))
  have Hc1 := hid hc1
  clear hd1 hc1 h
  go_wp2_with fail
  refine wp_loop_rounds 1 ?_
  rw [rounds_succ]
  go_wp2
  go_ret
  exact ⟨rfl, hfin.out, (Hc1.out.trans (ch_one _ _ _ _)).mono fun k _ e => .inl e⟩
set_option maxHeartbeats 400000 in
theorem flush_fails {w : World} {B b bl bn : Nat} {pv : Value} {m : DM} (h : DiskAt w B b bl bn pv m) (hdn : m.down = false) (hfz : m.fuse = 0) :
    Calls Try.prog 8 #[.pointer (some ⟨b, 0, none⟩)] w fun e w' => e = .returned (.int .i64 90) ∧ DiskAt w' B b bl bn pv m.fails ∧ Ch (fun k => k = b) w w' := by
  have hs := state_ok h
  rw [hdn] at hs
  have hq := power_no h hfz
  clear hdn h hfz
  go_enter Try.func8, Try.ntmps8
  go_wp2_with fail
  refine hs.mono ?_
  rintro e w' ⟨rfl, rfl⟩
  go_wp2_with fail
  refine hq.mono ?_
  rintro e w1 ⟨rfl, hd1, hc1⟩
  have HR := hid (And.intro hd1 hc1)
  clear hs hq hd1 hc1
  go_wp2
  go_ret
  exact ⟨rfl, HR.out.1, HR.out.2⟩
set_option maxHeartbeats 400000 in
theorem flush_down {w : World} {B b bl bn : Nat} {pv : Value} {m : DM} (h : DiskAt w B b bl bn pv m) (hdn : m.down = true) :
    Calls Try.prog 8 #[.pointer (some ⟨b, 0, none⟩)] w fun e w' => e = .returned (.int .i64 90) ∧ w = w' := by
  have hs := state_ok h
  rw [hdn] at hs
  clear hdn h
  go_enter Try.func8, Try.ntmps8
  go_wp2_with fail
  refine hs.mono ?_
  rintro e w' ⟨rfl, rfl⟩
  go_wp2
  go_ret
  exact ⟨rfl, rfl⟩

set_option maxHeartbeats 400000 in
theorem write_no {w : World} {B b bl bn : Nat} {pv : Value} {m : DM} (h : DiskAt w B b bl bn pv m) (at_ : Int) (A : Option Addr) (len cap : Nat) (h0 : placeE m.down at_ m.last.length ≠ 0) :
    Calls Try.prog 7 #[.pointer (some ⟨b, 0, none⟩), .int .i64 at_, .slice A len cap] w fun e w' => e = .returned (.int .i64 (placeE m.down at_ m.last.length)) ∧ w = w' := by
  have hp := place_ok h at_
  have hne : (placeE m.down at_ m.last.length != 0) = true := by simpa using h0
  generalize placeE m.down at_ m.last.length = x at *
  clear h h0
  go_enter Try.func7, Try.ntmps7
  go_wp2_with fail
  refine hp.mono ?_
  rintro e w' ⟨rfl, rfl⟩
  go_wp2
  go_ret
  exact ⟨rfl, rfl⟩
set_option maxHeartbeats 400000 in
theorem write_long {w : World} {B b bl bn : Nat} {pv : Value} {m : DM} (h : DiskAt w B b bl bn pv m) (at_ : Int) (A : Option Addr) (len cap : Nat) (h0 : placeE m.down at_ m.last.length = 0) (hl : 64 < len) :
    Calls Try.prog 7 #[.pointer (some ⟨b, 0, none⟩), .int .i64 at_, .slice A len cap] w fun e w' => e = .returned (.int .i64 2) ∧ w = w' := by
  have hp := place_ok h at_
  rw [h0] at hp
  have hl' : (64 : Int) < (len : Int) := by omega
  clear h h0
  go_enter Try.func7, Try.ntmps7
  go_wp2_with fail
  refine hp.mono ?_
  rintro e w' ⟨rfl, rfl⟩
  go_wp2
  go_ret
  exact ⟨rfl, rfl⟩
set_option maxHeartbeats 400000 in
theorem write_fails {w : World} {B b bl bn : Nat} {pv : Value} {m : DM} (h : DiskAt w B b bl bn pv m) (at_ : Int) (A : Option Addr) (len cap : Nat) (h0 : placeE m.down at_ m.last.length = 0) (hl : len ≤ 64) (hfz : m.fuse = 0) :
    Calls Try.prog 7 #[.pointer (some ⟨b, 0, none⟩), .int .i64 at_, .slice A len cap] w fun e w' => e = .returned (.int .i64 90) ∧ DiskAt w' B b bl bn pv m.fails ∧ Ch (fun k => k = b) w w' := by
  have hp := place_ok h at_
  rw [h0] at hp
  have hq := power_no h hfz
  have hl' : (len : Int) ≤ 64 := by omega
  clear h h0 hfz
  go_enter Try.func7, Try.ntmps7
  go_wp2_with fail
  refine hp.mono ?_
  rintro e w' ⟨rfl, rfl⟩
  go_wp2_with fail
  refine hq.mono ?_
  rintro e w1 ⟨rfl, hd1, hc1⟩
  have HR := hid (And.intro hd1 hc1)
  clear hp hq hd1 hc1
  go_wp2
  go_ret
  exact ⟨rfl, HR.out.1, HR.out.2⟩
set_option maxHeartbeats 400000 in
theorem stop_down {w : World} {B b bl bn : Nat} {pv : Value} {m : DM} (h : DiskAt w B b bl bn pv m) (n : Int) (hdn : m.down = true) :
    Calls Try.prog 23 #[.pointer (some ⟨b, 0, none⟩), .int .i64 n] w fun e w' => e = .returned (.int .i64 90) ∧ w = w' := by
  have hs := state_ok h
  rw [hdn] at hs
  clear hdn h
  go_enter Try.func23, Try.ntmps23
  go_wp2_with fail
  refine hs.mono ?_
  rintro e w' ⟨rfl, rfl⟩
  go_wp2
  go_ret
  exact ⟨rfl, rfl⟩
set_option maxHeartbeats 400000 in
theorem stop_neg {w : World} {B b bl bn : Nat} {pv : Value} {m : DM} (h : DiskAt w B b bl bn pv m) (n : Int) (hdn : m.down = false) (hn : n < 0) :
    Calls Try.prog 23 #[.pointer (some ⟨b, 0, none⟩), .int .i64 n] w fun e w' => e = .returned (.int .i64 1) ∧ w = w' := by
  have hs := state_ok h
  rw [hdn] at hs
  clear hdn h
  go_enter Try.func23, Try.ntmps23
  go_wp2_with fail
  refine hs.mono ?_
  rintro e w' ⟨rfl, rfl⟩
  go_wp2
  go_ret
  exact ⟨rfl, rfl⟩
def DM.stop (m : DM) (n : Int) : DM := { m with fuse := n }
theorem DM.Ok.stop {m : DM} (h : m.Ok) {n : Int} (h0 : 0 ≤ n) (h1 : n ≤ 9223372036854775807) : (m.stop n).Ok := ⟨h.len, h.small, h.secL, h.secN, h.secP, by simp [DM.stop]; omega, h1, h.many⟩
set_option maxHeartbeats 400000 in
theorem stop_ok {w : World} {B b bl bn : Nat} {pv : Value} {m : DM} (h : DiskAt w B b bl bn pv m) (n : Int) (hdn : m.down = false) (hn : 0 ≤ n) (h1 : n ≤ 9223372036854775807) :
    Calls Try.prog 23 #[.pointer (some ⟨b, 0, none⟩), .int .i64 n] w fun e w' => e = .returned (.int .i64 0) ∧ DiskAt w' B b bl bn pv (m.stop n) ∧ Ch (fun k => k = b) w w' := by
  have hs := state_ok h
  rw [hdn] at hs
  have c4 := h.blk.cell 4
  have f4 := h.blk.frozen 4
  have hfin : Hid (DiskAt (w.setCell ⟨b, 4, none⟩ (.int .i64 n)) B b bl bn pv (m.stop n)) := hid (diskAt_set h 4 _ _ (m.stop n) rfl rfl rfl rfl (h.ok.stop hn h1) rfl)
  clear hdn h
  go_enter Try.func23, Try.ntmps23
  go_wp2_with fail
  refine hs.mono ?_
  rintro e w' ⟨rfl, rfl⟩
  go_wp2
  go_ret
  exact ⟨rfl, hfin.out, ch_one _ _ _ _⟩
set_option maxRecDepth 100000 in
set_option maxHeartbeats 400000 in
theorem crash_nil {w : World} {B b bl bn kl kc : Nat} {KA : Option Addr} {ks : List Int} {m : DM} (h : DiskAt w B b bl bn (.slice none 0 0) m) (hp : m.pend = []) :
    Calls Try.prog 9 #[.pointer (some ⟨b, 0, none⟩), .slice KA kl kc] w fun e w' => e = .returned (.tuple #[]) ∧ DiskAt w' B b bl bn (.slice none 0 0) (m.crash ks) ∧ Ch (Foot b bl bn (.slice none 0 0)) w w' := by
  have HD := hid h
  have HP := hid hp
  have hc2 : w.cell? ⟨b, 2, none⟩ = some (.slice none 0 0) := h.blk.cell 2
  have e : crashed ks 0 (m.pend.take m.pend.length) m.last = m.last := by rw [hp]; rfl
  have Hd : Hid (DiskAt w B b bl bn (.slice none 0 0) (m.torn ks m.pend.length)) := hid (by simp only [DM.torn, e]; exact h)
  have Hc : Hid (Ch (Foot b bl bn (.slice none 0 0)) w w) := hid (Ch.refl _ _)
  clear h hp e
  have hLl : (m.torn ks m.pend.length).last.length = m.last.length := by simp [DM.torn, crashed_length]
  have hc0 : w.cell? ⟨b, 0, none⟩ = some (.slice (some ⟨bl, 0, none⟩) m.last.length m.last.length) := by have := Hd.out.blk.cell 0; rw [hLl] at this; exact this
  have hc1 : w.cell? ⟨b, 1, none⟩ = some (.slice (some ⟨bn, 0, none⟩) m.last.length m.last.length) := by have := Hd.out.blk.cell 1; rw [hLl] at this; exact this
  have hbn : b ≠ bn := Hd.out.ne2
  have hblt : b < w.heap.size := Hd.out.blk.lt
  have hch := ch_setRow w.drew bn (splice (flatC m.now) 0 (flatC (m.torn ks m.pend.length).last)).toArray
  have q0 : Hid ((w.drew.setRow bn (splice (flatC m.now) 0 (flatC (m.torn ks m.pend.length).last)).toArray).cell? ⟨b, 0, none⟩ = some (.slice (some ⟨bl, 0, none⟩) m.last.length m.last.length)) := hid ((World.cell?_of_block (w := w.drew) (a := ⟨b, 0, none⟩) (hch.block b hblt hbn)).trans hc0)
  have q1 : Hid ((w.drew.setRow bn (splice (flatC m.now) 0 (flatC (m.torn ks m.pend.length).last)).toArray).cell? ⟨b, 1, none⟩ = some (.slice (some ⟨bn, 0, none⟩) m.last.length m.last.length)) := hid ((World.cell?_of_block (w := w.drew) (a := ⟨b, 1, none⟩) (hch.block b hblt hbn)).trans hc1)
  have hB : Blk (w.drew.setRow bn (splice (flatC m.now) 0 (flatC (m.torn ks m.pend.length).last)).toArray) b 52 _ := Blk.ch (w := w.drew) Hd.out.blk hch hbn
  have k2 := hB.cell 2
  have k3 := hB.cell 3
  have k4 := hB.cell 4
  have f2 := hB.frozen 2
  have f3 := hB.frozen 3
  have f4 := hB.frozen 4
  have hF1 : Hid ((flatC (m.torn ks m.pend.length).last).length = m.last.length * 64) := hid (by rw [flatC_length _ Hd.out.ok.secL, hLl])
  have hF2 : Hid ((flatC m.now).length = m.last.length * 64) := hid (by rw [flatC_length _ HD.out.ok.secN, HD.out.ok.len])
  have hsrc : Hid (∀ j v, (flatC (m.torn ks m.pend.length).last)[j]? = some v → w.drew.cell? ((⟨bl, 0, none⟩ : Addr).add j) = some v) := hid fun j v hv => by
    rw [Addr.add_mid, Nat.zero_add]
    have := Hd.out.blkL.cell j
    rw [show w.drew.cell? ⟨bl, j, none⟩ = w.cell? ⟨bl, j, none⟩ from by simp, this]
    simpa using hv
  have hone : Hid (∀ v ∈ flatC (m.torn ks m.pend.length).last, v.oneCell' = true) := hid fun v hv => by
    simp only [flatC, List.mem_flatMap] at hv
    obtain ⟨s, _, hs⟩ := hv
    exact secC_one s v hs
  clear hB hch
  go_enter Try.func9, Try.ntmps9
  go_wp2_with fail
  refine wp_loop_rounds 1 ?_
  rw [rounds_succ]
  go_wp2
  go_region_held3 (fun w' => w'.cell? ⟨b, 0, none⟩ = some (.slice (some ⟨bl, 0, none⟩) m.last.length m.last.length) ∧ w'.cell? ⟨b, 1, none⟩ = some (.slice (some ⟨bn, 0, none⟩) m.last.length m.last.length)) (first | exact ⟨by simpa using hc0, by simpa using hc1⟩ | exact ⟨q0, q1⟩) ((refine step_copy_rows (by rfl) (.tmp 46) (.tmp 50) 49 49 (by rfl) 55 64 Try.underlying49 Try.size55 bn 0 m.last.length m.last.length ⟨bl, 0, none⟩ m.last.length m.last.length (by rfl) (by rfl) (flatC m.now) 55 Hd.out.blkN m.last.length (Nat.min_self _).symm (flatC (m.torn ks m.pend.length).last) hF1.out hsrc.out (by have h1 := hF1.out; have h2 := hF2.out; omega) hone.out ?_))
  have hlast := hid (crash_last Hd.out HD.out.ok Hc.out rfl)
  go_wp2
  go_end0
  exact ⟨rfl, hlast.out.1, hlast.out.2⟩
end Go.Proofs.Ythflabmfieobdaa
