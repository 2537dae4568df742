/- The walk of Write. -/
import Derived.Test.YthflabmfieobdaaW1
namespace Go.Proofs.Ythflabmfieobdaa
open Go.RowKit
attribute [local go_sem ↓] bld_pre bs_pre ld55_pre
theorem Try.info57 : ∃ i z, Try.prog.info? 57 = some i ∧ i.zero = some z ∧ i.size = 65 ∧ i.bytes = 72 ∧ z.cells.size = 65 := by
  have h : (Try.prog.info? 57).map (fun i => (i.zero.map (fun z => z.cells.size), i.size, i.bytes)) = some (some 65, 65, 72) := by kernel_rfl
  obtain ⟨i, hi, hh⟩ := Option.map_eq_some_iff.1 h
  simp only [Prod.mk.injEq] at hh
  obtain ⟨h1, h2, h3⟩ := hh
  obtain ⟨z, hz, hzs⟩ := Option.map_eq_some_iff.1 h1
  exact ⟨i, z, hi, hz, h2, h3, hzs⟩
theorem gr_frozen {w w' : World} {row : Option Nat} (hg : w.grownBy w' row) {b o : Nat} (h : w.frozen? ⟨b, o, none⟩ = false) (hne : some b ≠ row) (hlt : b < w.heap.size) : w'.frozen? ⟨b, o, none⟩ = false :=
  (World.frozen?_of_block (w := w) (a := ⟨b, o, none⟩) (hg.block b hlt hne)).trans h

/-- What a write makes of a disk. -/
def DM.put (m : DM) (k : Nat) (bs : List UInt8) : DM := { m.burn with now := m.now.set k (pad bs), pend := m.pend ++ [(k, pad bs)] }
theorem DM.Ok.put {m : DM} (h : m.Ok) {k : Nat} {bs : List UInt8} (hk : k < m.last.length) (hb : bs.length ≤ 64) (hm : m.pend.length < 1000000) : (m.put k bs).Ok :=
  ⟨by simp [DM.put, DM.burn, h.len], h.small, h.secL, fun s hs => by
    rcases List.mem_or_eq_of_mem_set hs with hs | rfl
    · exact h.secN s hs
    · exact pad_length bs hb, fun p hp => by
    simp only [DM.put, List.mem_append, List.mem_singleton] at hp
    rcases hp with hp | rfl
    · exact h.secP p hp
    · exact ⟨hk, pad_length bs hb⟩, h.burn.fuseLo, h.burn.fuseHi, by simp [DM.put]; omega⟩

/-- The end of a write: the row of the sectors is written, the change is appended, its row stored. -/
theorem write_close {w w2 w3 w4 W : World} {B b bl bn k gg cap : Nat} {pv : Value} {m : DM} {bs : List UInt8} (h : DiskAt w B b bl bn pv m) (hk : k < m.last.length) (hb : bs.length ≤ 64) (hmany : m.pend.length < 1000000)
    (hd : DiskAt w2 B b bl bn pv m.burn) (hc : Ch (fun k => k = b) w w2)
    (hw3 : w3 = w2.drew.setCells bn (k * 64) (secC (pad bs)))
    (h4 : w4.ownsRow B 57 65 (.slice (some ⟨gg, 0, none⟩) (m.pend.length + 1) cap) (m.pend.length + 1) (pendC m.pend ++ (.int .i64 (k : Int) :: secC (pad bs))))
    (hg : (w3.alloc (.cells (Value.int .i64 (k : Int) :: secC (pad bs)).toArray 57)).drew.grownBy w4 pv.ownBlock)
    (hat : pv.ownBlock = some gg ∨ gg = w3.heap.size + 1)
    (hW : W = w4.setCell ⟨b, 2, none⟩ (.slice (some ⟨gg, 0, none⟩) (m.pend.length + 1) cap)) :
    ∃ pv', DiskAt W B b bl bn pv' (m.put k bs) ∧ Ch (Foot b bl bn pv) w W ∧ Moved w pv pv' := by
  have hs3 : Ch (fun k => k = bn) w2 w3 := by rw [hw3]; exact (Ch.refl _ w2).drew.trans (ch_setCells _ _ _ _)
  have b3N : Blk w3 bn 55 (flatC (m.now.set k (pad bs))).toArray := by
    have hN : Blk w2.drew bn 55 (flatC m.now).toArray := hd.blkN
    have hl := flatC_length m.now h.ok.secN
    have hlen := h.ok.len
    have := Blk.setCells (secC (pad bs)) (k * 64) (flatC m.now) w2.drew hN (by rw [secC_length, pad_length bs hb]; omega)
    rw [secC_length, pad_length bs hb] at this
    rw [flatC_set m.now h.ok.secN k (pad bs) (by omega) (pad_length bs hb), hw3]
    exact this
  have lt3 : ∀ {i}, i < w2.heap.size → i < w3.heap.size := fun hi => Nat.lt_of_lt_of_le hi hs3.size
  have hgc : Ch (fun k => pv.ownBlock = some k) w3 w4 := ((Ch.refl (fun k => pv.ownBlock = some k) w3).alloc _).drew.grown hg fun k hk => .inl hk
  have b4 : Blk w4 b 52 #[.slice (some ⟨bl, 0, none⟩) m.last.length m.last.length, .slice (some ⟨bn, 0, none⟩) m.last.length m.last.length, pv, .bool m.down, .int .i64 m.burn.fuse] :=
    (hd.blk.ch hs3 hd.ne2).ch hgc hd.pb
  have b4L : Blk w4 bl 55 (flatC m.last).toArray := (hd.blkL.ch hs3 hd.ne).ch hgc hd.pl
  have b4N : Blk w4 bn 55 (flatC (m.now.set k (pad bs))).toArray := b3N.ch hgc hd.pn
  have hone : Ch (fun k => k = b) w4 W := by rw [hW]; exact ch_one _ _ _ _
  have hgb : gg ≠ b := by
    rcases hat with e | e
    · intro e'; exact hd.pb (by rw [e, e'])
    · have := hd.blk.lt; have := lt3 this; omega
  have hsz : w.heap.size ≤ w3.heap.size := Nat.le_trans hc.size hs3.size
  have own4 : W.ownsRow B 57 65 (.slice (some ⟨gg, 0, none⟩) (m.pend.length + 1) cap) (m.pend.length + 1) (pendC m.pend ++ (.int .i64 (k : Int) :: secC (pad bs))) :=
    own_ch h4 hone fun j hj => by
      have : gg = j := by simpa [Value.ownBlock] using hj
      rintro rfl; exact hgb this
  refine ⟨.slice (some ⟨gg, 0, none⟩) (m.pend.length + 1) cap, ⟨?_, b4L.ch hone (Ne.symm hd.ne1), b4N.ch hone (Ne.symm hd.ne2), ?_, h.ok.put hk hb hmany, h.ne, h.hb, h.hbl, h.hbn⟩, ?_, ?_⟩
  · rw [hW]; exact b4.set_ 2 _
  · have e1 : (m.put k bs).pend.length = m.pend.length + 1 := by simp [DM.put]
    have e2 : pendC (m.put k bs).pend = pendC m.pend ++ (.int .i64 (k : Int) :: secC (pad bs)) := by simp only [DM.put]; rw [pendC_snoc]; rfl
    rw [e1, e2]; exact own4
  · exact (((hc.mono fun k _ e => Or.inl e).trans (hs3.mono fun k _ e => Or.inr (.inr (.inl e)))).trans (hgc.mono fun k _ e => Or.inr (.inr (.inr e)))).trans (hone.mono fun k _ e => Or.inl e)
  · intro j hj
    have : gg = j := by simpa [Value.ownBlock] using hj
    subst this
    rcases hat with e | e
    · exact .inl e
    · right; omega

set_option maxRecDepth 100000 in
set_option maxHeartbeats 1000000 in
theorem write_ok {w : World} {B b bl bn : Nat} {pv : Value} {m : DM} (h : DiskAt w B b bl bn pv m) (hdn : m.down = false) (hfz : m.fuse ≠ 0) (k : Nat) (hk : k < m.last.length)
    (A : Option Addr) (len cap : Nat) (bs : List UInt8) (hr : RdB w A len bs) (hl : len ≤ 64) (hA : 0 < len → ∀ ad, A = some ad → ad.block ≠ b) (hmany : m.pend.length < 1000000) :
    Calls Try.prog 7 #[.pointer (some ⟨b, 0, none⟩), .int .i64 (k : Int), .slice A len cap] w fun e w' => e = .returned (.int .i64 0) ∧ ∃ pv', DiskAt w' B b bl bn pv' (m.put k bs) ∧ Ch (Foot b bl bn pv) w w' ∧ Moved w pv pv' := by
  have hbl : bs.length ≤ 64 := by have := hr.1; omega
  have hl' : decide ((64 : Int) < len) = false := by simp; omega
  have hk0 : (0 : Int) ≤ (k : Int) := Int.natCast_nonneg _
  have hk1 : (k : Int) < (m.last.length : Int) := by omega
  have hcs : (secC (pad bs)).length = 64 := by rw [secC_length, pad_length bs hbl]
  have hone := secC_one (pad bs)
  have hu := Try.underlying55
  have hi : (Try.prog.info? 55).map (·.size) = some (secC (pad bs)).length := by rw [Try.size55, hcs]
  have hbld := fun w => bld57 (k : Int) _ hcs w
  have hbs := fun w => bs50 (.int .i64 (k : Int) :: secC (pad bs)) (by simp [hcs]) w
  obtain ⟨i0, z0, hi0, hz0, hz1, hz2, hz3⟩ := Try.info57
  have hp := place_ok h (k : Int)
  have hpe : placeE m.down (k : Int) m.last.length = 0 := by simp [placeE, hdn]; omega
  rw [hpe] at hp
  have hq := power_yes h hfz
  have hsplice := hid (pad_splice bs hbl)
  have hr' := hid hr
  have hcsH := hid hcs
  have HD := hid h
  clear hr hpe hdn
  go_enter Try.func7, Try.ntmps7
  go_wp2_with fail
  refine hp.mono ?_
  rintro e w' ⟨rfl, rfl⟩
  go_wp2_with fail
  refine hq.mono ?_
  rintro e w1 ⟨rfl, hd1, hc1⟩
  clear hp hq
  have hrw : RdB w1 A len bs := hr'.out.ch hc1 hA
  have Hd1 := hid hd1
  have Hc1 := hid hc1
  clear hd1 hc1 h
  go_wp2_with (with_reducible refine wpList_copy_splice rfl (.tmp 21) (.tmp 22) 22 22 rfl 5 Try.underlying22 Try.size5 _ _ _ _ _ _ rfl rfl w1.heap.size 0 zero64 55 ?hg (secC bs) ?hn ?hpos ?hfit (secC_one bs) w1.heap.size w1 ?hb (Nat.le_refl _) ?hrest)
  case hg => exact (heap_alloc_new w1 _).trans rfl
  case hn => rw [secC_length, hrw.1]; exact (Nat.min_eq_left hl).symm
  case hpos =>
    intro h0
    obtain ⟨ad, rfl, hlt, hcell⟩ := hrw.2 (by rw [secC_length, hrw.1] at h0; exact h0)
    refine ⟨ad, rfl, fun j v hv => ?_⟩
    rw [World.cell?_of_block (w := w1) (a := ad.add j) (by rw [add_block]; exact Below.heap_alloc _ _ _ hlt)]
    exact hcell j v hv
  case hfit => simp only [secC_length, zero64_length]; omega
  case hb => exact (Below.refl _ _).alloc (Nat.le_refl _) _
  case hrest =>
    intro w2 hg2 hb2
    rw [hsplice.out] at hg2
    have Hb2 := hid hb2
    have hd2 := Hd1.out.below hb2
    have bs2 : Blk w2 w1.heap.size 55 (secC (pad bs)).toArray := hg2.out
    have hcell1 : w2.cell? ⟨b, 1, none⟩ = some (.slice (some ⟨bn, 0, none⟩) m.last.length m.last.length) := hd2.blk.cell 1
    have hcell2 : w2.cell? ⟨b, 2, none⟩ = some pv := hd2.blk.cell 2
    have hfro2 : w2.frozen? ⟨b, 2, none⟩ = false := hd2.blk.frozen 2
    have hr : w2.rangeAt w1.heap.size 0 (secC (pad bs)) := bs2.range 0 _ (fun j v hv => by simpa using hv)
    have hNl : k * 64 + 64 ≤ (flatC m.now).length := by rw [flatC_length _ HD.out.ok.secN, HD.out.ok.len]; omega
    have ht : w2.there bn (k * 64) 64 := hd2.blkN.there _ _ hNl
    have hbb : b ≠ bn := hd2.ne2
    have hbs1 : bn ≠ w1.heap.size := by have := Hd1.out.blkN.lt; omega
    have hb1 : b < w1.heap.size := Hd1.out.blk.lt
    have hpb := hd2.pb
    have hps : pv.ownBlock ≠ some w1.heap.size := by intro e; have := (Hd1.out.own.lt _ e).2; omega
    have q1 : Hid ((w2.drew.setCells bn (k * 64) (secC (pad bs))).cell? ⟨b, 1, none⟩ = some (.slice (some ⟨bn, 0, none⟩) m.last.length m.last.length)) := hid (by rw [World.cell?_setCells_out _ _ _ _ _ (fun e => absurd e hbb)]; exact hcell1)
    have q2 : Hid ((w2.drew.setCells bn (k * 64) (secC (pad bs))).rangeAt w1.heap.size 0 (secC (pad bs))) := hid (World.rangeAt_setCells_apart (by simpa using hr) _ _ _ (.inl (Ne.symm hbs1)))
    have q3 : Hid ((w2.drew.setCells bn (k * 64) (secC (pad bs))).there bn (k * 64) 64) := hid (World.there_setCells (by simpa using ht) _ _ _)
    have q4 : Hid ((w2.drew.setCells bn (k * 64) (secC (pad bs))).cell? ⟨b, 2, none⟩ = some pv) := hid (by rw [World.cell?_setCells_out _ _ _ _ _ (fun e => absurd e hbb)]; exact hcell2)
    have q5 : Hid ((w2.drew.setCells bn (k * 64) (secC (pad bs))).frozen? ⟨b, 2, none⟩ = false) := hid (by rw [World.frozen?_setCells]; exact hfro2)
    have hch : Ch (fun k => k = bn) w2 (w2.drew.setCells bn (k * 64) (secC (pad bs))) := (Ch.refl _ w2).drew.trans (ch_setCells _ _ _ _)
    have q6 : Hid ((w2.drew.setCells bn (k * 64) (secC (pad bs))).ownsRow B 57 65 pv m.pend.length (pendC m.pend)) := hid (own_ch hd2.own hch fun j hj e => hd2.pn (by rw [hj, e]))
    have lb : b < (w2.drew.setCells bn (k * 64) (secC (pad bs))).heap.size := Nat.lt_of_lt_of_le hd2.blk.lt hch.size
    have Hd2 := hid hd2
    clear hg2 hb2 bs2 hcell2 hfro2 hNl hrw hd2 hch
    go_wp2
    go_region_held3 (fun w' => w'.cell? ⟨b, 1, none⟩ = some (.slice (some ⟨bn, 0, none⟩) m.last.length m.last.length) ∧ w'.rangeAt w1.heap.size 0 (secC (pad bs)) ∧ w'.there bn (k * 64) 64) (first | go_keep_ranges | exact ⟨q1, q2, q3⟩) (fail)
    go_wp2_with fail
    generalize hw3 : w2.drew.setCells bn (k * 64) (secC (pad bs)) = w3 at *
    have Hw3 := hid hw3.symm
    have c2 : w3.cell? ⟨b, 2, none⟩ = some pv := q4
    have r2 : w3.rangeAt w1.heap.size 0 (secC (pad bs)) := q2
    have f2 : w3.frozen? ⟨b, 2, none⟩ = false := q5
    have hown := q6.out
    have p1 : (w3.alloc (.cells (Value.int .i64 (k : Int) :: secC (pad bs)).toArray 57)).drew.cell? ⟨b, 2, none⟩ = some pv := (World.cell?_alloc_lt w3 _ _ lb).trans c2
    have p2 : (w3.alloc (.cells (Value.int .i64 (k : Int) :: secC (pad bs)).toArray 57)).drew.frozen? ⟨b, 2, none⟩ = false := (World.frozen?_of_block (w := w3) (a := ⟨b, 2, none⟩) (Below.heap_alloc _ _ _ lb)).trans f2
    have r3 : w3.drew.rangeAt w1.heap.size 0 (secC (pad bs)) := by simpa using r2
    have r4 : (w3.alloc (.cells (Value.int .i64 (k : Int) :: secC (pad bs)).toArray 57)).drew.rangeAt w1.heap.size 0 (secC (pad bs)) := World.rangeAt_alloc r2 _
    have e3 := ld55 _ _ _ hcs _ r3
    have e4 := ld55 _ _ _ hcs _ r4
    have hj : (secC (pad bs)).length = 64 := hcs
    clear r3 r4 r2 hcell1 hr ht q1 q2 q3 q4 q5 q6 hw3 hsplice hr' hl'
    go_region_law ((refine step_append_lies _ (by rfl) _ _ _ (by rfl) B 57 i0 _ 65 72 Try.underlying50 hi0 hz0 hz1 hz2 hz3 (by omega) pv m.pend.length (pendC m.pend) (by rfl) ((hown.alloc _).drew) ⟨w3.heap.size, 0, none⟩ 1 1 (.int .i64 (k : Int) :: secC (pad bs)) (by rfl) (by simp [hj]) (World.news_of_block (cs := (.int .i64 (k : Int) :: secC (pad bs)).toArray) (t := 57) (fr := (0, 0)) (heap_alloc_new w3 _)) (by intro u hu; simp only [List.mem_cons] at hu; rcases hu with rfl | hu; exact rfl; exact hone _ hu) (by omega) (by unfold maxLen; omega) (by omega) (by have := HD.out.hb; simp; omega) (w3.heap.size + 1) (by simp) ?_; intro gg cap w4 hown1 hgrow hat hlt; have c4 := hgrow.cell p1 (Ne.symm hpb); have f4 := gr_frozen hgrow p2 (Ne.symm hpb) (by simp; omega)))
    all_goals
      have Hown1 := hid hown1
      have Hgrow := hid hgrow
      have Hat := hid hat
      clear hown1 hgrow hat e3 e4 p1 p2 hown hbld hbs
      go_wp2
      go_ret
      exact ⟨rfl, write_close HD.out hk hbl hmany Hd2.out (Hc1.out.below Hb2.out) Hw3.out Hown1.out Hgrow.out Hat.out rfl⟩
end Go.Proofs.Ythflabmfieobdaa
