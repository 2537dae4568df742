/- The reference's disk: Write, Flush. -/
import Derived.Test.YthflabmfieobdaaWd
namespace Go.Proofs.Ythflabmfieobdaa
open Go.RowKit
set_option linter.unusedVariables false
set_option linter.unusedSimpArgs false

theorem Try.info66 : (Try.prog.info? 66).map (fun i => (i.zero, i.size, i.bytes)) = some (some (.agg #[.int .i64 0, .string ⟨#[]⟩]), 2, 24) := by kernel_rfl
set_option maxHeartbeats 400000 in
theorem rwrite_down {w : World} {B r : Nat} {dv pv : Value} {m : DM} (h : RefAt w B r dv pv m) (n : Int) (s : ByteArray) (hdn : m.down = true) :
    Calls Try.prog 21 #[.pointer (some ⟨r, 0, none⟩), .int .i64 n, .string s] w fun e w' => e = .returned (.int .i64 90) ∧ w = w' := by
  have h3 : w.cell? ⟨r, 3, none⟩ = some (.bool true) := by have := h.blk.cell 3; rw [hdn] at this; exact this
  clear h hdn
  go_enter Try.func21, Try.ntmps21
  go_wp2
  go_ret
  exact ⟨rfl, rfl⟩
set_option maxHeartbeats 400000 in
theorem rwrite_arg {w : World} {B r : Nat} {dv pv : Value} {m : DM} (h : RefAt w B r dv pv m) (n : Int) (s : ByteArray) (hdn : m.down = false) (hn : n < 0 ∨ (m.last.length : Int) ≤ n) :
    Calls Try.prog 21 #[.pointer (some ⟨r, 0, none⟩), .int .i64 n, .string s] w fun e w' => e = .returned (.int .i64 1) ∧ w = w' := by
  have h3 : w.cell? ⟨r, 3, none⟩ = some (.bool false) := by have := h.blk.cell 3; rw [hdn] at this; exact this
  obtain ⟨A, c, rfl⟩ := own_slice h.ownD
  have h0 : w.cell? ⟨r, 0, none⟩ = some (.slice A m.last.length c) := h.blk.cell 0
  clear h hdn
  by_cases h1 : n < 0
  · clear hn
    go_enter Try.func21, Try.ntmps21
    go_wp2
    go_ret
    exact ⟨rfl, rfl⟩
  · have hn : (m.last.length : Int) ≤ n := by omega
    have h1' : decide (n < 0) = false := by simp; omega
    go_enter Try.func21, Try.ntmps21
    go_wp2
    go_ret
    exact ⟨rfl, rfl⟩
set_option maxHeartbeats 400000 in
theorem rwrite_long {w : World} {B r : Nat} {dv pv : Value} {m : DM} (h : RefAt w B r dv pv m) (k : Nat) (s : ByteArray) (hdn : m.down = false) (hk : k < m.last.length) (hs : 64 < s.size) :
    Calls Try.prog 21 #[.pointer (some ⟨r, 0, none⟩), .int .i64 (k : Int), .string s] w fun e w' => e = .returned (.int .i64 2) ∧ w = w' := by
  have h3 : w.cell? ⟨r, 3, none⟩ = some (.bool false) := by have := h.blk.cell 3; rw [hdn] at this; exact this
  obtain ⟨A, c, rfl⟩ := own_slice h.ownD
  have h0 : w.cell? ⟨r, 0, none⟩ = some (.slice A m.last.length c) := h.blk.cell 0
  have hkb : (k : Int) < (m.last.length : Int) := by omega
  have hk0 : decide ((k : Int) < 0) = false := by simp
  have hs' : (64 : Int) < (s.size : Int) := by omega
  clear h hdn
  go_enter Try.func21, Try.ntmps21
  go_wp2
  go_ret
  exact ⟨rfl, rfl⟩
set_option maxHeartbeats 400000 in
theorem rwrite_fails {w : World} {B r : Nat} {dv pv : Value} {m : DM} (h : RefAt w B r dv pv m) (k : Nat) (s : ByteArray) (hdn : m.down = false) (hk : k < m.last.length) (hs : s.size ≤ 64) (hfz : m.fuse = 0) :
    Calls Try.prog 21 #[.pointer (some ⟨r, 0, none⟩), .int .i64 (k : Int), .string s] w fun e w' => e = .returned (.int .i64 90) ∧ RefAt w' B r dv pv m.fails ∧ Ch (fun k => k = r) w w' := by
  have h3 : w.cell? ⟨r, 3, none⟩ = some (.bool false) := by have := h.blk.cell 3; rw [hdn] at this; exact this
  have hq := hid (rcall_no h hfz)
  obtain ⟨A, c, rfl⟩ := own_slice h.ownD
  have h0 : w.cell? ⟨r, 0, none⟩ = some (.slice A m.last.length c) := h.blk.cell 0
  have hkb : (k : Int) < (m.last.length : Int) := by omega
  have hk0 : decide ((k : Int) < 0) = false := by simp
  have hs' : (s.size : Int) ≤ 64 := by omega
  clear h hdn hfz
  go_enter Try.func21, Try.ntmps21
  go_wp2_with fail
  refine hq.out.mono ?_
  rintro e w1 ⟨rfl, hd1, hc1⟩
  have HR := hid (And.intro hd1 hc1)
  clear hd1 hc1 hq
  go_wp2
  go_ret
  exact ⟨rfl, HR.out.1, HR.out.2⟩

theorem rwrite_close {w w2 w4 : World} {B r k gg cap : Nat} {dv pv : Value} {m : DM} {bs : List UInt8} (h : RefAt w B r dv pv m) (hk : k < m.last.length) (hb : bs.length ≤ 64) (hmany : m.pend.length < 1000000)
    (hd : RefAt w2 B r dv pv m.burn) (hc : Ch (fun k => k = r) w w2)
    (h4 : w4.ownsRow B 66 2 (.slice (some ⟨gg, 0, none⟩) (m.pend.length + 1) cap) (m.pend.length + 1) (rpendC m.pend ++ [.int .i64 (k : Int), .string (strS (pad bs))]))
    (w3 : World) (hw3 : Below w2.heap.size w2 w3) (hg : w3.grownBy w4 pv.ownBlock) (hat : pv.ownBlock = some gg ∨ w2.heap.size ≤ gg) :
    ∃ pv', RefAt (w4.setCell ⟨r, 1, none⟩ (.slice (some ⟨gg, 0, none⟩) (m.pend.length + 1) cap)) B r dv pv' (m.put k bs) ∧ Ch (RFoot r dv pv) w (w4.setCell ⟨r, 1, none⟩ (.slice (some ⟨gg, 0, none⟩) (m.pend.length + 1) cap)) ∧ Moved w pv pv' := by
  have h3 := hd.below hw3
  have hgc : Ch (fun j => pv.ownBlock = some j) w3 w4 := (Ch.refl _ w3).grown hg fun j hj => .inl hj
  have b4 := h3.blk.ch hgc h3.pp
  have d4 := own_ch h3.ownD hgc fun j hj => h3.dp j hj
  have h1 := ch_one w4 r 1 (.slice (some ⟨gg, 0, none⟩) (m.pend.length + 1) cap)
  have hgr : gg ≠ r := by
    rcases hat with e | e
    · intro e'; exact hd.pp (by rw [e, e'])
    · have := hd.blk.lt; omega
  refine ⟨.slice (some ⟨gg, 0, none⟩) (m.pend.length + 1) cap, ⟨b4.set_ 1 _, own_ch d4 h1 fun j hj e => hd.pd (by rw [hj, e]), ?_, h.ok.put hk hb hmany, h.hb⟩, ?_, ?_⟩
  · have e1 : (m.put k bs).pend.length = m.pend.length + 1 := by simp [DM.put]
    have e2 : rpendC (m.put k bs).pend = rpendC m.pend ++ [.int .i64 (k : Int), .string (strS (pad bs))] := by simp only [DM.put]; rw [rpendC_snoc]; rfl
    rw [e1, e2]
    exact own_ch h4 h1 fun j hj => by
      have : gg = j := by simpa [Value.ownBlock] using hj
      rintro rfl; exact hgr this
  · exact (((hc.mono fun k _ e => Or.inl e).below hw3).trans (hgc.mono fun k _ e => Or.inr (.inr e))).trans (h1.mono fun k _ e => Or.inl e)
  · intro j hj
    have : gg = j := by simpa [Value.ownBlock] using hj
    subst this
    rcases hat with e | e
    · exact .inl e
    · right; have := hc.size; omega

set_option maxRecDepth 100000 in
set_option maxHeartbeats 1000000 in
theorem rwrite_ok {w : World} {B r : Nat} {dv pv : Value} {m : DM} (h : RefAt w B r dv pv m) (k : Nat) (bs : List UInt8) (hdn : m.down = false) (hk : k < m.last.length) (hs : bs.length ≤ 64) (hfz : m.fuse ≠ 0) (hmany : m.pend.length < 1000000) :
    Calls Try.prog 21 #[.pointer (some ⟨r, 0, none⟩), .int .i64 (k : Int), .string (strS bs)] w fun e w' => e = .returned (.int .i64 0) ∧ ∃ pv', RefAt w' B r dv pv' (m.put k bs) ∧ Ch (RFoot r dv pv) w w' ∧ Moved w pv pv' := by
  have h3 : w.cell? ⟨r, 3, none⟩ = some (.bool false) := by have := h.blk.cell 3; rw [hdn] at this; exact this
  have hq := hid (rcall_yes h hfz)
  have hpad := hid (fun w => padded_ok bs w hs)
  obtain ⟨i0, hi0, hz0, hz1, hz2⟩ := info_parts Try.info66
  obtain ⟨A, c, hdv⟩ := own_slice h.ownD
  have h0 : w.cell? ⟨r, 0, none⟩ = some (.slice A m.last.length c) := by rw [← hdv]; exact h.blk.cell 0
  have hkb : (k : Int) < (m.last.length : Int) := by omega
  have hk0 : decide ((k : Int) < 0) = false := by simp
  have hsz : (strS bs).size = bs.length := strS_size bs
  have hs' : (bs.length : Int) ≤ 64 := by omega
  have H := hid h
  clear h hdn hfz hdv
  go_enter Try.func21, Try.ntmps21
  go_wp2_with fail
  refine hq.out.mono ?_
  rintro e w2 ⟨rfl, hd1, hc1⟩
  have HR := hid (And.intro hd1 hc1)
  have c1 : w2.cell? ⟨r, 1, none⟩ = some pv := hd1.blk.cell 1
  have f1 : w2.frozen? ⟨r, 1, none⟩ = false := hd1.blk.frozen 1
  have hown : w2.ownsRow B 66 2 pv m.pend.length (rpendC m.pend) := hd1.ownP
  have hpp := hd1.pp
  have hr0 : r < w2.heap.size := hd1.blk.lt
  have p1 : (w2.alloc (.cells #[.int .i64 (k : Int), .string (strS (pad bs))] 66)).drew.cell? ⟨r, 1, none⟩ = some pv := (World.cell?_alloc_lt w2 _ _ hr0).trans c1
  have p2 : (w2.alloc (.cells #[.int .i64 (k : Int), .string (strS (pad bs))] 66)).drew.frozen? ⟨r, 1, none⟩ = false := (World.frozen?_of_block (w := w2) (a := ⟨r, 1, none⟩) (Below.heap_alloc _ _ _ hr0)).trans f1
  have hBw : B ≤ w2.heap.size := by have := hd1.hb; omega
  clear hd1 hc1 hq
  go_wp2
  go_region_law (first | (refine step_append_lies _ (by rfl) _ _ _ (by rfl) B 66 i0 _ 2 24 Try.underlying45 hi0 hz0 hz1 hz2 rfl (by omega) pv m.pend.length (rpendC m.pend) (by rfl) ((hown.alloc _).drew) ⟨w2.heap.size, 0, none⟩ 1 1 [.int .i64 (k : Int), .string (strS (pad bs))] (by rfl) (by rfl) (World.news_of_block (cs := #[.int .i64 (k : Int), .string (strS (pad bs))]) (t := 66) (fr := (0, 0)) (heap_alloc_new w2 _)) (by intro u hu; simp only [List.mem_cons, List.mem_nil_iff, or_false] at hu; rcases hu with rfl | rfl <;> rfl) (by omega) (by unfold maxLen; omega) (by omega) (by simp; omega) (w2.heap.size + 1) (by simp) ?_; intro gg cap w4 hown1 hgrow hat hlt; have c4 := hgrow.cell p1 (Ne.symm hpp); have f4 := gr_frozen hgrow p2 (Ne.symm hpp) (by simp; omega)) | (go_simp; go_at_call 26; refine (hpad.out _).mono ?_; rintro e w' ⟨rfl, rfl⟩))
  all_goals
    have HS := hid (rwrite_close H.out hk hs hmany HR.out.1 HR.out.2 hown1 _ (((Below.refl w2.heap.size w2).alloc (Nat.le_refl _) (.cells #[.int .i64 (k : Int), .string (strS (pad bs))] 66)).drew) hgrow (hat.elim .inl (fun e => .inr (by omega))))
    clear hown1 hgrow hat hown p1 p2 c1 f1
    go_wp2
    go_ret
    exact ⟨rfl, HS.out⟩
end Go.Proofs.Ythflabmfieobdaa
