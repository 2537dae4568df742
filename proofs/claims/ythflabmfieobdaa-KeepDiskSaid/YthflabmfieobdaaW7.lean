/- The walk of Crash. -/
import Derived.Test.YthflabmfieobdaaW6
namespace Go.Proofs.Ythflabmfieobdaa
open Go.RowKit
attribute [local go_sem ↓] ld57_pre st57_pre

/-- A slice of ints that reads as xs. -/
def RdI (w : World) (A : Option Addr) (n : Nat) (xs : List Int) : Prop :=
  xs.length = n ∧ (0 < n → ∃ ad, A = some ad ∧ ad.block < w.heap.size ∧ ∀ j, j < n → w.cell? (ad.add j) = some (.int .i64 (xs.getD j 0)))
theorem RdI.ch {S : Nat → Prop} {w w' : World} {A : Option Addr} {n : Nat} {bs : List Int} (h : RdI w A n bs) (hc : Ch S w w') (hs : 0 < n → ∀ ad, A = some ad → ¬ S ad.block) : RdI w' A n bs :=
  ⟨h.1, fun hn => by
    obtain ⟨ad, rfl, hlt, hcell⟩ := h.2 hn
    refine ⟨ad, rfl, Nat.lt_of_lt_of_le hlt hc.size, fun j hj => ?_⟩
    rw [World.cell?_of_block (w := w) (a := ad.add j) (by rw [add_block]; exact hc.block _ hlt (hs hn ad rfl))]
    exact hcell j hj⟩
theorem keepAt_out (ks : List Int) (k : Nat) (h : ks.length ≤ k) : keepAt ks k = 0 := by
  have : ks.getD k 0 = 0 := by rw [List.getD_eq_getElem?_getD, List.getElem?_eq_none h]; rfl
  simp only [keepAt, this]; omega
theorem keepAt_in (ks : List Int) (k : Nat) : (keepAt ks k : Int) = max 0 (min (ks.getD k 0) 64) := by simp only [keepAt]; omega
theorem slice55 (n g o : Nat) (h : n ≤ 64) (W : World) : (Instr.sliceAt 55 (.pointer (some ⟨g, o, none⟩)) none (some (.int .i64 (n : Int))) none).run Try.prog W = .ok (.slice (some ⟨g, o, none⟩) n 64) W := by
  have e : Try.prog.arrayLen 55 = 64 := by simp [Program.arrayLen, Try.underlying55]
  have e2 : Try.prog.elem 55 = 5 := by simp [Program.elem, Try.underlying55]
  rw [run_sliceAt_array_h W 55 ⟨g, o, none⟩ (by rw [e, e2]; exact Try.underlying55) .i64 (n : Int) (by omega) (by rw [e]; omega), e, e2]
  cases hq : Try.prog.info? 5 with
  | none => have := Try.size5; rw [hq] at this; cases this
  | some i =>
    simp [sizeOf, typeInfo, hq, slicedAt]
    simp [Addr.add]
/-- The end of a crash. -/
theorem crash_last {w wr W : World} {B b bl bn : Nat} {pv : Value} {m : DM} {ks : List Int} (h : DiskAt wr B b bl bn pv (m.torn ks m.pend.length)) (hm : m.Ok)
    (hc : Ch (Foot b bl bn pv) w wr)
    (hW : W = (((wr.drew.setRow bn (splice (flatC m.now) 0 (flatC (m.torn ks m.pend.length).last)).toArray).setCell ⟨b, 2, none⟩ (.slice none 0 0)).setCell ⟨b, 3, none⟩ (.bool false)).setCell ⟨b, 4, none⟩ (.int .i64 (-1))) :
    DiskAt W B b bl bn (.slice none 0 0) (m.crash ks) ∧ Ch (Foot b bl bn pv) w W := by
  subst hW
  have e : (m.torn ks m.pend.length).last = (m.crash ks).last := by simp [DM.torn, DM.crash]
  have hl1 : (flatC m.now).length = m.last.length * 64 := by rw [flatC_length _ hm.secN, hm.len]
  have hl2 : (flatC (m.crash ks).last).length = m.last.length * 64 := by rw [flatC_length _ (hm.crash ks).secL]; simp [DM.crash, crashed_length]
  have es : splice (flatC m.now) 0 (flatC (m.torn ks m.pend.length).last) = flatC (m.crash ks).now := by
    rw [e]; simp only [splice, List.take_zero, List.nil_append, Nat.zero_add]
    rw [List.drop_of_length_le (by omega)]; simp [DM.crash]
  rw [es]
  have h0 : Ch (fun k => k = bn) wr (wr.drew.setRow bn (flatC (m.crash ks).now).toArray) := (Ch.refl _ wr).drew.trans (ch_setRow _ _ _)
  have hN : Blk (wr.drew.setRow bn (flatC (m.crash ks).now).toArray) bn 55 (flatC (m.crash ks).now).toArray := Blk.setRow (w := wr.drew) h.blkN
  have hb0 := h.blk.ch h0 h.ne2
  have hL0 := h.blkL.ch h0 h.ne
  generalize wr.drew.setRow bn (flatC (m.crash ks).now).toArray = W0 at *
  have hb1 := ((hb0.set_ 2 (.slice none 0 0)).set_ 3 (.bool false)).set_ 4 (.int .i64 (-1))
  have h3 : Ch (fun k => k = b) W0 (((W0.setCell ⟨b, 2, none⟩ (.slice none 0 0)).setCell ⟨b, 3, none⟩ (.bool false)).setCell ⟨b, 4, none⟩ (.int .i64 (-1))) :=
    ((ch_one _ _ _ _).trans (ch_one _ _ _ _)).trans (ch_one _ _ _ _)
  refine ⟨⟨?_, ?_, hN.ch h3 (Ne.symm h.ne2), World.ownsRow_nil _ _ _ _, hm.crash ks, h.ne, h.hb, h.hbl, h.hbn⟩, ?_⟩
  · rw [← e]; exact hb1
  · rw [← e]; exact hL0.ch h3 (Ne.symm h.ne1)
  · exact (hc.trans (h0.mono fun k _ e => .inr (.inr (.inl e)))).trans (h3.mono fun k _ e => .inl e)
theorem Try.size55s : (Try.prog.info? 55).map (·.size) = some 64 := by kernel_rfl

set_option maxRecDepth 100000 in
set_option maxHeartbeats 1000000 in
theorem crash_ok {w : World} {B b bl bn g cap kl kc : Nat} {KA : Option Addr} {ks : List Int} {m : DM} (h : DiskAt w B b bl bn (.slice (some ⟨g, 0, none⟩) m.pend.length cap) m)
    (hks : RdI w KA kl ks) (hkb : kl ≤ 9223372036854775807) (hsep : 0 < kl → ∀ ad, KA = some ad → ¬ Foot b bl bn (.slice (some ⟨g, 0, none⟩) m.pend.length cap) ad.block) :
    Calls Try.prog 9 #[.pointer (some ⟨b, 0, none⟩), .slice KA kl kc] w fun e w' => e = .returned (.tuple #[]) ∧ DiskAt w' B b bl bn (.slice none 0 0) (m.crash ks) ∧ Ch (Foot b bl bn (.slice (some ⟨g, 0, none⟩) m.pend.length cap)) w w' := by
  have hmany := h.ok.many
  have HD := hid h
  have HK := hid hks
  have hc2 : w.cell? ⟨b, 2, none⟩ = some (.slice (some ⟨g, 0, none⟩) m.pend.length cap) := h.blk.cell 2
  obtain ⟨Z, hZ, hz57⟩ := zero57
  clear h hks
  go_enter Try.func9, Try.ntmps9
  go_wp2_with fail
  go_loopw [14] (fun i wr => ∃ k : Nat, k ≤ m.pend.length ∧ i = .int .i64 k ∧ Hid (DiskAt wr B b bl bn (.slice (some ⟨g, 0, none⟩) m.pend.length cap) (m.torn ks k)) ∧ Hid (Ch (Foot b bl bn (.slice (some ⟨g, 0, none⟩) m.pend.length cap)) w wr)) (fun i _ => m.pend.length - (intOf i).toNat)
  case atStart => exact ⟨0, Nat.zero_le _, rfl, HD, hid (Ch.refl _ _)⟩
  case round =>
    obtain ⟨k, hk, rfl, Hd, Hc⟩ := hrel
    by_cases hlt : k < m.pend.length
    · obtain ⟨p, hp⟩ : ∃ p, m.pend[k]? = some p := ⟨_, List.getElem?_eq_getElem hlt⟩
      have hpk := hid hp
      have hp2 := HD.out.ok.secP p (List.mem_of_getElem? hp)
      have hi0 : (0 : Int) ≤ (k : Int) := Int.natCast_nonneg _
      have hi1 : (k : Int) < (m.pend.length : Int) := by omega
      have hl55 : (secC p.2).length = 64 := by rw [secC_length, hp2.2]
      have hl57 : (putC p).length = 65 := by simp [putC, hl55]
      have hone := secC_one p.2
      have hLl : (m.torn ks k).last.length = m.last.length := by simp [DM.torn, crashed_length]
      have hj0 : (0 : Int) ≤ (p.1 : Int) := Int.natCast_nonneg _
      have hj1 : (p.1 : Int) < (m.last.length : Int) := by omega
      have hrp : wr.rangeAt g (k * 65) (putC p) := fun j v hv => by
        have := Hd.out.own.cells (g := g) rfl (k * 65 + j) v (pendC_at m.pend (fun q hq => (HD.out.ok.secP q hq).2) k p hp j v hv)
        rwa [Addr.add_mid, Nat.zero_add] at this
      have e57 := ld57 g (k * 65) _ hl57 _ hrp
      have hst := st57 (putC p) hl57 (putC_one p) Z hZ wr
      have hw2 : Below wr.heap.size wr (wr.alloc (.cells (putC p).toArray 57)) := (Below.refl _ _).alloc (Nat.le_refl _) _
      have hd2 := Hd.out.below hw2
      have bs2 : Blk (wr.alloc (.cells (putC p).toArray 57)) wr.heap.size 57 (putC p).toArray := heap_alloc_new wr _
      have c20 : (wr.alloc (.cells (putC p).toArray 57)).cell? ⟨b, 0, none⟩ = some (.slice (some ⟨bl, 0, none⟩) m.last.length m.last.length) := by have := hd2.blk.cell 0; rw [hLl] at this; exact this
      have c21 : (wr.alloc (.cells (putC p).toArray 57)).cell? ⟨wr.heap.size, 0, none⟩ = some (.int .i64 (p.1 : Int)) := bs2.cell 0
      have hbb : b ≠ bl := hd2.ne1
      have hsb : wr.heap.size ≠ bl := by have := Hd.out.blkL.lt; omega
      have hLb : b < wr.heap.size := Hd.out.blk.lt
      have HL2 := hid hd2.blkL
      have hsrc : Hid (∀ n j v, (cutC n p.2)[j]? = some v → (wr.alloc (.cells (putC p).toArray 57)).drew.cell? ((⟨wr.heap.size, 1, none⟩ : Addr).add j) = some v) := hid fun n j v hv => by
        have hv' : (secC p.2)[j]? = some v := by
          rw [cutC, List.getElem?_take] at hv; split at hv
          · exact hv
          · cases hv
        rw [Addr.add_mid]
        have := bs2.cell (1 + j)
        rw [show (wr.alloc (.cells (putC p).toArray 57)).drew.cell? ⟨wr.heap.size, 1 + j, none⟩ = (wr.alloc (.cells (putC p).toArray 57)).cell? ⟨wr.heap.size, 1 + j, none⟩ from by simp, this]
        simp only [putC]; rw [Nat.add_comm]; simpa using hv'
      have hFl : Hid ((flatC (m.torn ks k).last).length = m.last.length * 64) := hid (by rw [flatC_length _ Hd.out.ok.secL, hLl])
      have hstep := fun n hn => hid (torn_step Hd.out HD.out.ok hpk.out (((Below.refl wr.heap.size wr).alloc (Nat.le_refl _) (.cells (putC p).toArray 57)).drew) n hn rfl)
      by_cases hkk : k < kl
      · have hn := keepAt_in ks k
        have hkr := (HK.out.ch Hc.out hsep)
        obtain ⟨ad, rfl, hadl, hcell⟩ := hkr.2 (by omega)
        have hck := (hw2.cell (p := ad.add k) (by rw [add_block]; exact hadl)).trans (hcell k hkk)
        have hkk0 : (k : Int) < (kl : Int) := by omega
        clear hd2 bs2 hw2 hp hLl hkr
        obtain ⟨x, hx⟩ : ∃ x, x = ks.getD k 0 := ⟨_, rfl⟩
        rw [← hx] at hck hn
        have Hx := hid hx
        have Hn := hid hn
        clear hx hn
        rcases (show x ≤ 0 ∨ (1 ≤ x ∧ x ≤ 63) ∨ x = 64 ∨ 65 ≤ x by omega) with hx | ⟨hx, hx2⟩ | hx | hx
        · have Hn0 : Hid ((0 : Nat) = keepAt ks k) := hid (by have := Hn.out; omega)
          have hch := ch_setRow (wr.alloc (.cells (putC p).toArray 57)).drew bl (splice (flatC (m.torn ks k).last) (p.1 * 64) (cutC 0 p.2)).toArray
          have q1 : Hid (((wr.alloc (.cells (putC p).toArray 57)).drew.setRow bl (splice (flatC (m.torn ks k).last) (p.1 * 64) (cutC 0 p.2)).toArray).cell? ⟨b, 0, none⟩ = some (.slice (some ⟨bl, 0, none⟩) m.last.length m.last.length)) := hid ((World.cell?_of_block (w := (wr.alloc (.cells (putC p).toArray 57)).drew) (a := ⟨b, 0, none⟩) (hch.block b (by simp; omega) hbb)).trans (by simpa using c20))
          have q2 : Hid (((wr.alloc (.cells (putC p).toArray 57)).drew.setRow bl (splice (flatC (m.torn ks k).last) (p.1 * 64) (cutC 0 p.2)).toArray).cell? ⟨wr.heap.size, 0, none⟩ = some (.int .i64 (p.1 : Int))) := hid ((World.cell?_of_block (w := (wr.alloc (.cells (putC p).toArray 57)).drew) (a := ⟨wr.heap.size, 0, none⟩) (hch.block wr.heap.size (by simp) hsb)).trans (by simpa using c21))
          have hlen : Hid ((cutC 0 p.2).length = 0 * 1) := hid (by rw [cutC, List.length_take, hl55]; omega)
          have hst7 := hstep 0 Hn0.out
          clear hch hstep
          go_wp2
          go_region_held3 (fun w' => w'.cell? ⟨b, 0, none⟩ = some (.slice (some ⟨bl, 0, none⟩) m.last.length m.last.length) ∧ w'.cell? ⟨wr.heap.size, 0, none⟩ = some (.int .i64 (p.1 : Int))) (first | exact ⟨by simpa using c20, by simpa using c21⟩ | exact ⟨q1, q2⟩) ((refine step_copy_rows (by rfl) (.tmp 37) (.tmp 40) 22 22 (by rfl) 5 1 Try.underlying22 Try.size5 bl (p.1 * 64) 0 64 ⟨wr.heap.size, 1, none⟩ 0 64 (by rfl) (by rfl) (flatC (m.torn ks k).last) 55 HL2.out 0 (Nat.min_self _).symm (cutC 0 p.2) hlen.out (hsrc.out 0) (by have h1 := hlen.out; have h2 := hFl.out; omega) (fun v hv => hone v (List.mem_of_mem_take hv)) ?_))
          go_wp2
          go_roundw
          case rel => exact ⟨k + 1, by omega, by go_num, hst7.out.1, Hc.out.trans hst7.out.2⟩
          case measure => simp [intOf]; omega
        · obtain ⟨n, rfl⟩ := Int.eq_ofNat_of_zero_le (show 0 ≤ x by omega)
          have hn0 : n = keepAt ks k := by have := Hn.out; omega
          have Hn0 := hid hn0
          have hn64 : n ≤ 64 := by omega
          have hsl := fun g o W => slice55 n g o hn64 W
          clear hn0
          have hch := ch_setRow (wr.alloc (.cells (putC p).toArray 57)).drew bl (splice (flatC (m.torn ks k).last) (p.1 * 64) (cutC n p.2)).toArray
          have q1 : Hid (((wr.alloc (.cells (putC p).toArray 57)).drew.setRow bl (splice (flatC (m.torn ks k).last) (p.1 * 64) (cutC n p.2)).toArray).cell? ⟨b, 0, none⟩ = some (.slice (some ⟨bl, 0, none⟩) m.last.length m.last.length)) := hid ((World.cell?_of_block (w := (wr.alloc (.cells (putC p).toArray 57)).drew) (a := ⟨b, 0, none⟩) (hch.block b (by simp; omega) hbb)).trans (by simpa using c20))
          have q2 : Hid (((wr.alloc (.cells (putC p).toArray 57)).drew.setRow bl (splice (flatC (m.torn ks k).last) (p.1 * 64) (cutC n p.2)).toArray).cell? ⟨wr.heap.size, 0, none⟩ = some (.int .i64 (p.1 : Int))) := hid ((World.cell?_of_block (w := (wr.alloc (.cells (putC p).toArray 57)).drew) (a := ⟨wr.heap.size, 0, none⟩) (hch.block wr.heap.size (by simp) hsb)).trans (by simpa using c21))
          have hlen : Hid ((cutC n p.2).length = n * 1) := hid (by rw [cutC, List.length_take, hl55]; omega)
          have hst7 := hstep n Hn0.out
          clear hch hstep
          go_wp2
          go_region_held3 (fun w' => w'.cell? ⟨b, 0, none⟩ = some (.slice (some ⟨bl, 0, none⟩) m.last.length m.last.length) ∧ w'.cell? ⟨wr.heap.size, 0, none⟩ = some (.int .i64 (p.1 : Int))) (first | exact ⟨by simpa using c20, by simpa using c21⟩ | exact ⟨q1, q2⟩) ((refine step_copy_rows (by rfl) (.tmp 37) (.tmp 40) 22 22 (by rfl) 5 1 Try.underlying22 Try.size5 bl (p.1 * 64) n 64 ⟨wr.heap.size, 1, none⟩ n 64 (by rfl) (by rfl) (flatC (m.torn ks k).last) 55 HL2.out n (Nat.min_self _).symm (cutC n p.2) hlen.out (hsrc.out n) (by have h1 := hlen.out; have h2 := hFl.out; omega) (fun v hv => hone v (List.mem_of_mem_take hv)) ?_))
          go_wp2
          go_roundw
          case rel => exact ⟨k + 1, by omega, by go_num, hst7.out.1, Hc.out.trans hst7.out.2⟩
          case measure => simp [intOf]; omega
        · have Hn0 : Hid ((64 : Nat) = keepAt ks k) := hid (by have := Hn.out; omega)
          subst hx
          have hch := ch_setRow (wr.alloc (.cells (putC p).toArray 57)).drew bl (splice (flatC (m.torn ks k).last) (p.1 * 64) (cutC 64 p.2)).toArray
          have q1 : Hid (((wr.alloc (.cells (putC p).toArray 57)).drew.setRow bl (splice (flatC (m.torn ks k).last) (p.1 * 64) (cutC 64 p.2)).toArray).cell? ⟨b, 0, none⟩ = some (.slice (some ⟨bl, 0, none⟩) m.last.length m.last.length)) := hid ((World.cell?_of_block (w := (wr.alloc (.cells (putC p).toArray 57)).drew) (a := ⟨b, 0, none⟩) (hch.block b (by simp; omega) hbb)).trans (by simpa using c20))
          have q2 : Hid (((wr.alloc (.cells (putC p).toArray 57)).drew.setRow bl (splice (flatC (m.torn ks k).last) (p.1 * 64) (cutC 64 p.2)).toArray).cell? ⟨wr.heap.size, 0, none⟩ = some (.int .i64 (p.1 : Int))) := hid ((World.cell?_of_block (w := (wr.alloc (.cells (putC p).toArray 57)).drew) (a := ⟨wr.heap.size, 0, none⟩) (hch.block wr.heap.size (by simp) hsb)).trans (by simpa using c21))
          have hlen : Hid ((cutC 64 p.2).length = 64 * 1) := hid (by rw [cutC, List.length_take, hl55]; omega)
          have hst7 := hstep 64 Hn0.out
          clear hch hstep
          go_wp2
          go_region_held3 (fun w' => w'.cell? ⟨b, 0, none⟩ = some (.slice (some ⟨bl, 0, none⟩) m.last.length m.last.length) ∧ w'.cell? ⟨wr.heap.size, 0, none⟩ = some (.int .i64 (p.1 : Int))) (first | exact ⟨by simpa using c20, by simpa using c21⟩ | exact ⟨q1, q2⟩) ((refine step_copy_rows (by rfl) (.tmp 37) (.tmp 40) 22 22 (by rfl) 5 1 Try.underlying22 Try.size5 bl (p.1 * 64) 64 64 ⟨wr.heap.size, 1, none⟩ 64 64 (by rfl) (by rfl) (flatC (m.torn ks k).last) 55 HL2.out 64 (Nat.min_self _).symm (cutC 64 p.2) hlen.out (hsrc.out 64) (by have h1 := hlen.out; have h2 := hFl.out; omega) (fun v hv => hone v (List.mem_of_mem_take hv)) ?_))
          go_wp2
          go_roundw
          case rel => exact ⟨k + 1, by omega, by go_num, hst7.out.1, Hc.out.trans hst7.out.2⟩
          case measure => simp [intOf]; omega
        · have Hn0 : Hid ((64 : Nat) = keepAt ks k) := hid (by have := Hn.out; omega)
          have hch := ch_setRow (wr.alloc (.cells (putC p).toArray 57)).drew bl (splice (flatC (m.torn ks k).last) (p.1 * 64) (cutC 64 p.2)).toArray
          have q1 : Hid (((wr.alloc (.cells (putC p).toArray 57)).drew.setRow bl (splice (flatC (m.torn ks k).last) (p.1 * 64) (cutC 64 p.2)).toArray).cell? ⟨b, 0, none⟩ = some (.slice (some ⟨bl, 0, none⟩) m.last.length m.last.length)) := hid ((World.cell?_of_block (w := (wr.alloc (.cells (putC p).toArray 57)).drew) (a := ⟨b, 0, none⟩) (hch.block b (by simp; omega) hbb)).trans (by simpa using c20))
          have q2 : Hid (((wr.alloc (.cells (putC p).toArray 57)).drew.setRow bl (splice (flatC (m.torn ks k).last) (p.1 * 64) (cutC 64 p.2)).toArray).cell? ⟨wr.heap.size, 0, none⟩ = some (.int .i64 (p.1 : Int))) := hid ((World.cell?_of_block (w := (wr.alloc (.cells (putC p).toArray 57)).drew) (a := ⟨wr.heap.size, 0, none⟩) (hch.block wr.heap.size (by simp) hsb)).trans (by simpa using c21))
          have hlen : Hid ((cutC 64 p.2).length = 64 * 1) := hid (by rw [cutC, List.length_take, hl55]; omega)
          have hst7 := hstep 64 Hn0.out
          clear hch hstep
          go_wp2
          go_region_held3 (fun w' => w'.cell? ⟨b, 0, none⟩ = some (.slice (some ⟨bl, 0, none⟩) m.last.length m.last.length) ∧ w'.cell? ⟨wr.heap.size, 0, none⟩ = some (.int .i64 (p.1 : Int))) (first | exact ⟨by simpa using c20, by simpa using c21⟩ | exact ⟨q1, q2⟩) ((refine step_copy_rows (by rfl) (.tmp 37) (.tmp 40) 22 22 (by rfl) 5 1 Try.underlying22 Try.size5 bl (p.1 * 64) 64 64 ⟨wr.heap.size, 1, none⟩ 64 64 (by rfl) (by rfl) (flatC (m.torn ks k).last) 55 HL2.out 64 (Nat.min_self _).symm (cutC 64 p.2) hlen.out (hsrc.out 64) (by have h1 := hlen.out; have h2 := hFl.out; omega) (fun v hv => hone v (List.mem_of_mem_take hv)) ?_))
          go_wp2
          go_roundw
          case rel => exact ⟨k + 1, by omega, by go_num, hst7.out.1, Hc.out.trans hst7.out.2⟩
          case measure => simp [intOf]; omega
      · have Hn0 : Hid ((0 : Nat) = keepAt ks k) := hid (by rw [keepAt_out ks k (by have := HK.out.1; omega)])
        have hkk0 : (kl : Int) ≤ (k : Int) := by omega
        clear hd2 bs2 hw2 hp hLl
        have hch := ch_setRow (wr.alloc (.cells (putC p).toArray 57)).drew bl (splice (flatC (m.torn ks k).last) (p.1 * 64) (cutC 0 p.2)).toArray
        have q1 : Hid (((wr.alloc (.cells (putC p).toArray 57)).drew.setRow bl (splice (flatC (m.torn ks k).last) (p.1 * 64) (cutC 0 p.2)).toArray).cell? ⟨b, 0, none⟩ = some (.slice (some ⟨bl, 0, none⟩) m.last.length m.last.length)) := hid ((World.cell?_of_block (w := (wr.alloc (.cells (putC p).toArray 57)).drew) (a := ⟨b, 0, none⟩) (hch.block b (by simp; omega) hbb)).trans (by simpa using c20))
        have q2 : Hid (((wr.alloc (.cells (putC p).toArray 57)).drew.setRow bl (splice (flatC (m.torn ks k).last) (p.1 * 64) (cutC 0 p.2)).toArray).cell? ⟨wr.heap.size, 0, none⟩ = some (.int .i64 (p.1 : Int))) := hid ((World.cell?_of_block (w := (wr.alloc (.cells (putC p).toArray 57)).drew) (a := ⟨wr.heap.size, 0, none⟩) (hch.block wr.heap.size (by simp) hsb)).trans (by simpa using c21))
        have hlen : Hid ((cutC 0 p.2).length = 0 * 1) := hid (by rw [cutC, List.length_take, hl55]; omega)
        have hst7 := hstep 0 Hn0.out
        clear hch hstep
        go_wp2
        go_region_held3 (fun w' => w'.cell? ⟨b, 0, none⟩ = some (.slice (some ⟨bl, 0, none⟩) m.last.length m.last.length) ∧ w'.cell? ⟨wr.heap.size, 0, none⟩ = some (.int .i64 (p.1 : Int))) (first | exact ⟨by simpa using c20, by simpa using c21⟩ | exact ⟨q1, q2⟩) ((refine step_copy_rows (by rfl) (.tmp 37) (.tmp 40) 22 22 (by rfl) 5 1 Try.underlying22 Try.size5 bl (p.1 * 64) 0 64 ⟨wr.heap.size, 1, none⟩ 0 64 (by rfl) (by rfl) (flatC (m.torn ks k).last) 55 HL2.out 0 (Nat.min_self _).symm (cutC 0 p.2) hlen.out (hsrc.out 0) (by have h1 := hlen.out; have h2 := hFl.out; omega) (fun v hv => hone v (List.mem_of_mem_take hv)) ?_))
        go_wp2
        go_roundw
        case rel => exact ⟨k + 1, by omega, by go_num, hst7.out.1, Hc.out.trans hst7.out.2⟩
        case measure => simp [intOf]; omega
    · obtain rfl : k = m.pend.length := by omega
      have hLl : (m.torn ks m.pend.length).last.length = m.last.length := by simp [DM.torn, crashed_length]
      have hc0 : wr.cell? ⟨b, 0, none⟩ = some (.slice (some ⟨bl, 0, none⟩) m.last.length m.last.length) := by have := Hd.out.blk.cell 0; rw [hLl] at this; exact this
      have hc1 : wr.cell? ⟨b, 1, none⟩ = some (.slice (some ⟨bn, 0, none⟩) m.last.length m.last.length) := by have := Hd.out.blk.cell 1; rw [hLl] at this; exact this
      have hbn : b ≠ bn := Hd.out.ne2
      have hblt : b < wr.heap.size := Hd.out.blk.lt
      have hch := ch_setRow wr.drew bn (splice (flatC m.now) 0 (flatC (m.torn ks m.pend.length).last)).toArray
      have q0 : Hid ((wr.drew.setRow bn (splice (flatC m.now) 0 (flatC (m.torn ks m.pend.length).last)).toArray).cell? ⟨b, 0, none⟩ = some (.slice (some ⟨bl, 0, none⟩) m.last.length m.last.length)) := hid ((World.cell?_of_block (w := wr.drew) (a := ⟨b, 0, none⟩) (hch.block b hblt hbn)).trans hc0)
      have q1 : Hid ((wr.drew.setRow bn (splice (flatC m.now) 0 (flatC (m.torn ks m.pend.length).last)).toArray).cell? ⟨b, 1, none⟩ = some (.slice (some ⟨bn, 0, none⟩) m.last.length m.last.length)) := hid ((World.cell?_of_block (w := wr.drew) (a := ⟨b, 1, none⟩) (hch.block b hblt hbn)).trans hc1)
      have hB : Blk (wr.drew.setRow bn (splice (flatC m.now) 0 (flatC (m.torn ks m.pend.length).last)).toArray) b 52 _ := Blk.ch (w := wr.drew) Hd.out.blk hch hbn
      have k2 := hB.cell 2
      have k3 := hB.cell 3
      have k4 := hB.cell 4
      have f2 := hB.frozen 2
      have f3 := hB.frozen 3
      have f4 := hB.frozen 4
      have hF1 : Hid ((flatC (m.torn ks m.pend.length).last).length = m.last.length * 64) := hid (by rw [flatC_length _ Hd.out.ok.secL, hLl])
      have hF2 : Hid ((flatC m.now).length = m.last.length * 64) := hid (by rw [flatC_length _ HD.out.ok.secN, HD.out.ok.len])
      have hsrc : Hid (∀ j v, (flatC (m.torn ks m.pend.length).last)[j]? = some v → wr.drew.cell? ((⟨bl, 0, none⟩ : Addr).add j) = some v) := hid fun j v hv => by
        rw [Addr.add_mid, Nat.zero_add]
        have := Hd.out.blkL.cell j
        rw [show wr.drew.cell? ⟨bl, j, none⟩ = wr.cell? ⟨bl, j, none⟩ from by simp, this]
        simpa using hv
      have hone : Hid (∀ v ∈ flatC (m.torn ks m.pend.length).last, v.oneCell' = true) := hid fun v hv => by
        simp only [flatC, List.mem_flatMap] at hv
        obtain ⟨s, _, hs⟩ := hv
        exact secC_one s v hs
      clear hB hch
      go_wp2
      go_region_held3 (fun w' => w'.cell? ⟨b, 0, none⟩ = some (.slice (some ⟨bl, 0, none⟩) m.last.length m.last.length) ∧ w'.cell? ⟨b, 1, none⟩ = some (.slice (some ⟨bn, 0, none⟩) m.last.length m.last.length)) (first | exact ⟨by simpa using hc0, by simpa using hc1⟩ | exact ⟨q0, q1⟩) ((refine step_copy_rows (by rfl) (.tmp 46) (.tmp 50) 49 49 (by rfl) 55 64 Try.underlying49 Try.size55 bn 0 m.last.length m.last.length ⟨bl, 0, none⟩ m.last.length m.last.length (by rfl) (by rfl) (flatC m.now) 55 Hd.out.blkN m.last.length (Nat.min_self _).symm (flatC (m.torn ks m.pend.length).last) hF1.out hsrc.out (by have h1 := hF1.out; have h2 := hF2.out; omega) hone.out ?_))
      have hlast := hid (crash_last Hd.out HD.out.ok Hc.out rfl)
      go_wp2
      go_end0
      exact ⟨rfl, hlast.out.1, hlast.out.2⟩
end Go.Proofs.Ythflabmfieobdaa
