/- The reference's disk: new, written, read. -/
import Derived.Test.YthflabmfieobdaaWb
namespace Go.Proofs.Ythflabmfieobdaa
open Go.RowKit
set_option linter.unusedVariables false
set_option linter.unusedSimpArgs false

theorem Try.info9 : (Try.prog.info? 9).map (fun i => (i.zero, i.size, i.bytes)) = some (some (.string ⟨#[]⟩), 1, 16) := by kernel_rfl
theorem pad_nil : pad [] = zsec := rfl
theorem rnew_step {w wr w3 w4 : World} {B r k gg cap : Nat} {dv : Value} (hB : B ≤ w.heap.size) (hk : k < 65536) (h : RefAt wr B r dv (.slice none 0 0) (DM.new k)) (hb : Below w.heap.size w wr) (hrw : w.heap.size ≤ r) (hdw : ∀ j, dv.ownBlock = some j → w.heap.size ≤ j)
    (hw3 : Below wr.heap.size wr w3)
    (h4 : w4.ownsRow B 9 1 (.slice (some ⟨gg, 0, none⟩) (k + 1) cap) (k + 1) (strC (List.replicate k zsec) ++ [.string (strS zsec)])) (hg : w3.grownBy w4 dv.ownBlock) (hat : dv.ownBlock = some gg ∨ wr.heap.size ≤ gg) :
    RefAt (w4.setCell ⟨r, 0, none⟩ (.slice (some ⟨gg, 0, none⟩) (k + 1) cap)) B r (.slice (some ⟨gg, 0, none⟩) (k + 1) cap) (.slice none 0 0) (DM.new (k + 1)) ∧ Below w.heap.size w (w4.setCell ⟨r, 0, none⟩ (.slice (some ⟨gg, 0, none⟩) (k + 1) cap)) ∧ w.heap.size ≤ gg := by
  have h3 := h.below hw3
  have hgc : Ch (fun j => dv.ownBlock = some j) w3 w4 := (Ch.refl _ w3).grown hg fun j hj => .inl hj
  have b4 := h3.blk.ch hgc h3.pd
  have h1 := ch_one w4 r 0 (.slice (some ⟨gg, 0, none⟩) (k + 1) cap)
  have hgr : gg ≠ r := by
    rcases hat with e | e
    · intro e'; exact h.pd (by rw [e, e'])
    · have := h.blk.lt; omega
  have hgg : w.heap.size ≤ gg := by
    rcases hat with e | e
    · exact hdw gg e
    · have := hb.size; omega
  have e1 : strC (List.replicate k zsec) ++ [.string (strS zsec)] = strC (DM.new (k + 1)).last := by simp [strC, DM.new, List.replicate_succ']
  have e2 : (DM.new (k + 1)).last.length = k + 1 := by simp [DM.new]
  refine ⟨⟨?_, ?_, World.ownsRow_nil _ _ _ _, DM.Ok.new (by omega), h.hb⟩, ?_, hgg⟩
  · exact b4.set_ 0 _
  · rw [e2, ← e1]
    exact own_ch h4 h1 fun j hj => by
      have : gg = j := by simpa [Value.ownBlock] using hj
      rintro rfl; exact hgr this
  · have hb3 := hb.trans (hw3.mono hb.size)
    have hb4 := hb3.grown hg hb3.size fun j hj => hdw j hj
    exact hb4.setCell (by simpa using hrw) _

set_option maxRecDepth 100000 in
set_option maxHeartbeats 1000000 in
theorem rnew_ok (n B : Nat) (w : World) (h0 : 16 ≤ n) (h1 : n ≤ 65536) (hB : B ≤ w.heap.size) :
    Calls Try.prog 19 #[.int .i64 (n : Int)] w fun e w' => ∃ r dv, e = .returned (.tuple #[.pointer (some ⟨r, 0, none⟩), .int .i64 0]) ∧ RefAt w' B r dv (.slice none 0 0) (DM.new n) ∧ Below w.heap.size w w' ∧ w.heap.size ≤ r ∧ (∀ j, dv.ownBlock = some j → w.heap.size ≤ j) := by
  have t1 : decide ((n : Int) < 16) = false := by simp; omega
  have t2 : decide (65536 < (n : Int)) = false := by simp; omega
  obtain ⟨i0, hi0, hz0, hz1, hz2⟩ := info_parts Try.info9
  have hpad : ∀ w, Calls Try.prog 26 #[.string ⟨#[]⟩] w fun e w' => e = .returned (.string (strS zsec)) ∧ w = w' := fun w => padded_ok [] w (by simp)
  have Hpad := hid hpad
  clear hpad
  go_enter Try.func19, Try.ntmps19
  go_wp2_with fail
  have hR0 : RefAt (w.alloc (.cells #[.slice none 0 0, .slice none 0 0, .int .i64 (-1), .bool false] 47)) B w.heap.size (.slice none 0 0) (.slice none 0 0) (DM.new 0) :=
    ⟨heap_alloc_new w _, World.ownsRow_nil _ _ _ _, World.ownsRow_nil _ _ _ _, DM.Ok.new (by omega), hB⟩
  have HR0 := hid hR0
  clear hR0
  go_loopw [5] (fun i wr => ∃ k : Nat, k ≤ n ∧ i = .int .i64 k ∧ ∃ dv, Hid (RefAt wr B w.heap.size dv (.slice none 0 0) (DM.new k)) ∧ Hid (Below w.heap.size w wr) ∧ Hid (∀ j, dv.ownBlock = some j → w.heap.size ≤ j)) (fun i _ => n - (intOf i).toNat)
  case atStart => exact ⟨0, Nat.zero_le _, rfl, _, HR0, hid ((Below.refl _ _).alloc (Nat.le_refl _) _), hid (fun j hj => by simp [Value.ownBlock] at hj)⟩
  case round =>
    obtain ⟨k, hk, rfl, dv, HR, Hb, Hd⟩ := hrel
    by_cases hlt : k < n
    · have hklt : (k : Int) < (n : Int) := by omega
      have hc0 : wr.cell? ⟨w.heap.size, 0, none⟩ = some dv := HR.out.blk.cell 0
      have hf0 : wr.frozen? ⟨w.heap.size, 0, none⟩ = false := HR.out.blk.frozen 0
      have hown := HR.out.ownD
      rw [show (DM.new k).last.length = k from by simp [DM.new]] at hown
      have hr0 : w.heap.size < wr.heap.size := HR.out.blk.lt
      have hpd := HR.out.pd
      have p1 : (wr.alloc (.cells #[.string (strS zsec)] 9)).drew.cell? ⟨w.heap.size, 0, none⟩ = some dv := (World.cell?_alloc_lt wr _ _ hr0).trans hc0
      have p2 : (wr.alloc (.cells #[.string (strS zsec)] 9)).drew.frozen? ⟨w.heap.size, 0, none⟩ = false := (World.frozen?_of_block (w := wr) (a := ⟨w.heap.size, 0, none⟩) (Below.heap_alloc _ _ _ hr0)).trans hf0
      go_wp2
      go_region_law (first | (refine step_append_lies _ (by rfl) _ _ _ (by rfl) B 9 i0 _ 1 16 Try.underlying44 hi0 hz0 hz1 hz2 rfl (by omega) dv k (strC (DM.new k).last) (by rfl) ((hown.alloc _).drew) ⟨wr.heap.size, 0, none⟩ 1 1 [.string (strS zsec)] (by rfl) (by rfl) (World.news_of_block (cs := #[.string (strS zsec)]) (t := 9) (fr := (0, 0)) (heap_alloc_new wr _)) (by intro u hu; simp only [List.mem_singleton] at hu; subst hu; rfl) (by omega) (by unfold maxLen; omega) (by omega) (by have := HR.out.hb; simp; omega) (wr.heap.size + 1) (by simp) ?_; intro gg cap w4 hown1 hgrow hat hlt; have c4 := hgrow.cell p1 (Ne.symm hpd); have f4 := gr_frozen hgrow p2 (Ne.symm hpd) (by simp; omega)) | (go_simp; go_at_call 26; refine (Hpad.out _).mono ?_; rintro e w' ⟨rfl, rfl⟩))
      all_goals
        have HS := hid (rnew_step hB (by omega) HR.out Hb.out (Nat.le_refl _) Hd.out (((Below.refl wr.heap.size wr).alloc (Nat.le_refl _) (.cells #[.string (strS zsec)] 9)).drew) hown1 hgrow (hat.elim .inl (fun e => .inr (by omega))))
        clear hown1 hgrow hat hown p1 p2 hc0 hf0
        go_wp2
        go_roundw
        case rel => exact ⟨k + 1, by omega, by go_num, _, HS.out.1, HS.out.2.1, fun j hj => by (have e : gg = j := by simpa [Value.ownBlock] using hj); (have h2 := HS.out.2.2); omega⟩
        case measure => simp [intOf]; omega
    · obtain rfl : k = n := by omega
      go_wp2
      go_ret2
      exact ⟨_, dv, rfl, HR.out, Hb.out, Nat.le_refl _, Hd.out⟩
theorem rnew_no (n : Int) (w : World) (h0 : n < 16 ∨ 65536 < n) :
    Calls Try.prog 19 #[.int .i64 n] w fun e w' => e = .returned (.tuple #[.pointer none, .int .i64 1]) ∧ w = w' := by
  rcases h0 with h | h
  all_goals
    go_enter Try.func19, Try.ntmps19
    go_wp2
    go_ret2
    exact ⟨rfl, rfl⟩
end Go.Proofs.Ythflabmfieobdaa
