/- The walk of Flush. -/
import Derived.Test.YthflabmfieobdaaW4
namespace Go.Proofs.Ythflabmfieobdaa
open Go.RowKit
attribute [local go_sem ↓] ld57_pre st57_pre ld55_pre

/-- The pending writes are struck. -/
theorem flush_last {w wr : World} {B b bl bn g cap : Nat} {m : DM} (h : DiskAt wr B b bl bn (.slice (some ⟨g, 0, none⟩) m.pend.length cap) (m.burn.laid m.pend.length)) (hc : Ch (Foot b bl bn (.slice (some ⟨g, 0, none⟩) m.pend.length cap)) w wr) :
    DiskAt (wr.setCell ⟨b, 2, none⟩ (.slice none 0 0)) B b bl bn (.slice none 0 0) m.burn.flush ∧ Ch (Foot b bl bn (.slice (some ⟨g, 0, none⟩) m.pend.length cap)) w (wr.setCell ⟨b, 2, none⟩ (.slice none 0 0)) := by
  have h1 := ch_one wr b 2 (.slice none 0 0)
  have e : m.burn.flush.last = (m.burn.laid m.pend.length).last := by simp [DM.flush, DM.laid, DM.burn]
  refine ⟨⟨?_, ?_, h.blkN.ch h1 (Ne.symm h.ne2), World.ownsRow_nil _ _ _ _, ?_, h.ne, h.hb, h.hbl, h.hbn⟩, hc.trans (h1.mono fun k _ e => .inl e)⟩
  · rw [e]; exact h.blk.set_ 2 _
  · rw [e]; exact h.blkL.ch h1 (Ne.symm h.ne1)
  · have ok := h.ok
    have e2 : m.burn.flush.last = lay m.last m.pend := rfl
    refine ⟨?_, ?_, ?_, ok.secN, fun p hp => by simp [DM.flush] at hp, ok.fuseLo, ok.fuseHi, by simp [DM.flush]⟩
    · rw [e]; exact ok.len
    · rw [e]; exact ok.small
    · rw [e]; exact ok.secL

set_option maxRecDepth 100000 in
set_option maxHeartbeats 1000000 in
theorem flush_ok {w : World} {B b bl bn g cap : Nat} {m : DM} (h : DiskAt w B b bl bn (.slice (some ⟨g, 0, none⟩) m.pend.length cap) m) (hdn : m.down = false) (hfz : m.fuse ≠ 0) :
    Calls Try.prog 8 #[.pointer (some ⟨b, 0, none⟩)] w fun e w' => e = .returned (.int .i64 0) ∧ DiskAt w' B b bl bn (.slice none 0 0) m.burn.flush ∧ Ch (Foot b bl bn (.slice (some ⟨g, 0, none⟩) m.pend.length cap)) w w' := by
  have hs := state_ok h
  rw [hdn] at hs
  have hq := power_yes h hfz
  have hmany := h.ok.many
  have HD := hid h
  have hu := Try.underlying55
  obtain ⟨Z, hZ, hz57⟩ := zero57
  clear hdn
  go_enter Try.func8, Try.ntmps8
  go_wp2_with fail
  refine hs.mono ?_
  rintro e w' ⟨rfl, rfl⟩
  go_wp2_with fail
  refine hq.mono ?_
  rintro e w1 ⟨rfl, hd1, hc1⟩
  clear hs hq
  have hc2 : w1.cell? ⟨b, 2, none⟩ = some (.slice (some ⟨g, 0, none⟩) m.pend.length cap) := hd1.blk.cell 2
  have Hd1 := hid hd1
  have Hc1 := hid hc1
  clear hd1 hc1 h
  go_wp2_with fail
  go_loopw [19] (fun i wr => ∃ k : Nat, k ≤ m.pend.length ∧ i = .int .i64 k ∧ Hid (DiskAt wr B b bl bn (.slice (some ⟨g, 0, none⟩) m.pend.length cap) (m.burn.laid k)) ∧ Hid (Ch (Foot b bl bn (.slice (some ⟨g, 0, none⟩) m.pend.length cap)) w wr)) (fun i _ => m.pend.length - (intOf i).toNat)
  case atStart => exact ⟨0, Nat.zero_le _, rfl, Hd1, hid (Hc1.out.mono fun k _ e => .inl e)⟩
  case round =>
    obtain ⟨k, hk, rfl, Hd, Hc⟩ := hrel
    by_cases hlt : k < m.pend.length
    · obtain ⟨p, hp⟩ : ∃ p, m.pend[k]? = some p := ⟨_, List.getElem?_eq_getElem hlt⟩
      have hpk := hid hp
      have hp2 := HD.out.ok.secP p (List.mem_of_getElem? hp)
      have hi0 : (0 : Int) ≤ (k : Int) := Int.natCast_nonneg _
      have hi1 : (k : Int) < (m.pend.length : Int) := by omega
      have hl55 : (secC p.2).length = 64 := by rw [secC_length, hp2.2]
      have hl57 : (putC p).length = 65 := by simp [putC, hl55]
      have hi : (Try.prog.info? 55).map (·.size) = some (secC p.2).length := by rw [Try.size55, hl55]
      have hone := secC_one p.2
      have hLl : (m.burn.laid k).last.length = m.last.length := by simp [DM.laid, DM.burn, lay_length]
      have hj0 : (0 : Int) ≤ (p.1 : Int) := Int.natCast_nonneg _
      have hj1 : (p.1 : Int) < (m.last.length : Int) := by omega
      have hrp : wr.rangeAt g (k * 65) (putC p) := fun j v hv => by
        have := Hd.out.own.cells (g := g) rfl (k * 65 + j) v (pendC_at m.pend (fun q hq => (HD.out.ok.secP q hq).2) k p hp j v hv)
        rwa [Addr.add_mid, Nat.zero_add] at this
      have e57 := ld57 g (k * 65) _ hl57 _ hrp
      have hst := st57 (putC p) hl57 (putC_one p) Z hZ wr
      have hw2 : Below wr.heap.size wr (wr.alloc (.cells (putC p).toArray 57)) := (Below.refl _ _).alloc (Nat.le_refl _) _
      have hd2 := Hd.out.below hw2
      have bs2 : Blk (wr.alloc (.cells (putC p).toArray 57)) wr.heap.size 57 (putC p).toArray := heap_alloc_new wr _
      have c20 : (wr.alloc (.cells (putC p).toArray 57)).cell? ⟨b, 0, none⟩ = some (.slice (some ⟨bl, 0, none⟩) m.last.length m.last.length) := by have := hd2.blk.cell 0; rw [hLl] at this; exact this
      have c21 : (wr.alloc (.cells (putC p).toArray 57)).cell? ⟨wr.heap.size, 0, none⟩ = some (.int .i64 (p.1 : Int)) := bs2.cell 0
      have r22 : (wr.alloc (.cells (putC p).toArray 57)).rangeAt wr.heap.size 1 (secC p.2) := bs2.range 1 _ (fun j v hv => by simp only [putC]; rw [Nat.add_comm]; simpa using hv)
      have t23 : (wr.alloc (.cells (putC p).toArray 57)).there bl (p.1 * 64) 64 := hd2.blkL.there _ _ (by rw [flatC_length _ hd2.ok.secL, hLl]; omega)
      have hbb : b ≠ bl := hd2.ne1
      have hsb : wr.heap.size ≠ bl := by have := Hd.out.blkL.lt; omega
      have hLb : b < wr.heap.size := Hd.out.blk.lt
      have q1 : Hid (((wr.alloc (.cells (putC p).toArray 57)).drew.setCells bl (p.1 * 64) (secC p.2)).cell? ⟨b, 0, none⟩ = some (.slice (some ⟨bl, 0, none⟩) m.last.length m.last.length)) := hid (by rw [World.cell?_setCells_out _ _ _ _ _ (fun e => absurd e hbb)]; exact c20)
      have q2 : Hid (((wr.alloc (.cells (putC p).toArray 57)).drew.setCells bl (p.1 * 64) (secC p.2)).cell? ⟨wr.heap.size, 0, none⟩ = some (.int .i64 (p.1 : Int))) := hid (by rw [World.cell?_setCells_out _ _ _ _ _ (fun e => absurd e hsb)]; exact c21)
      have q3 : Hid (((wr.alloc (.cells (putC p).toArray 57)).drew.setCells bl (p.1 * 64) (secC p.2)).rangeAt wr.heap.size 1 (secC p.2)) := hid (World.rangeAt_setCells_apart (by simpa using r22) _ _ _ (.inl hsb))
      have q4 : Hid (((wr.alloc (.cells (putC p).toArray 57)).drew.setCells bl (p.1 * 64) (secC p.2)).there bl (p.1 * 64) 64) := hid (World.there_setCells (by simpa using t23) _ _ _)
      have hstep := hid (laid_step Hd.out HD.out.ok.burn hpk.out ⟨(wr.alloc (.cells (putC p).toArray 57)).drew, ((Below.refl _ _).alloc (Nat.le_refl _) _).drew, rfl⟩)
      clear hd2 bs2 hw2 hp hLl
      go_wp2
      go_region_held3 (fun w' => w'.cell? ⟨b, 0, none⟩ = some (.slice (some ⟨bl, 0, none⟩) m.last.length m.last.length) ∧ w'.cell? ⟨wr.heap.size, 0, none⟩ = some (.int .i64 (p.1 : Int)) ∧ w'.rangeAt wr.heap.size 1 (secC p.2) ∧ w'.there bl (p.1 * 64) 64) (first | go_keep_ranges | exact ⟨q1, q2, q3, q4⟩) (fail)
      go_wp2
      go_roundw
      case rel => exact ⟨k + 1, by omega, by go_num, hstep.out.1, Hc.out.trans hstep.out.2⟩
      case measure => simp [intOf]; omega
    · obtain rfl : k = m.pend.length := by omega
      have hb2 : wr.cell? ⟨b, 2, none⟩ = some (.slice (some ⟨g, 0, none⟩) m.pend.length cap) := Hd.out.blk.cell 2
      have hf2 : wr.frozen? ⟨b, 2, none⟩ = false := Hd.out.blk.frozen 2
      have hlast := hid (flush_last Hd.out Hc.out)
      go_wp2
      go_ret
      exact ⟨rfl, hlast.out.1, hlast.out.2⟩
end Go.Proofs.Ythflabmfieobdaa
