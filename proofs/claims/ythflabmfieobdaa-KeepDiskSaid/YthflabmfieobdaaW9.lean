/- A new disk; reading. -/
import Derived.Test.YthflabmfieobdaaW8
namespace Go.Proofs.Ythflabmfieobdaa
open Go.RowKit
attribute [local go_sem ↓] bld_pre

/-- A sector of zero bytes: a word that the walk leaves alone. -/
def zsec : List UInt8 := List.replicate 64 0
theorem zsec_length : zsec.length = 64 := List.length_replicate ..
def DM.new (n : Nat) : DM := { last := List.replicate n zsec, now := List.replicate n zsec, pend := [], down := false, fuse := -1 }
theorem DM.Ok.new {n : Nat} (h : n ≤ 65536) : (DM.new n).Ok :=
  ⟨by simp [DM.new], by simpa [DM.new] using h, fun s hs => by simp only [DM.new, List.mem_replicate] at hs; rw [hs.2]; exact zsec_length, fun s hs => by simp only [DM.new, List.mem_replicate] at hs; rw [hs.2]; exact zsec_length, fun p hp => by simp [DM.new] at hp, by simp [DM.new], by simp [DM.new], by simp [DM.new]⟩
/-- The cells of new sectors: a word that the walk leaves alone. -/
def zeroRow (n : Nat) : Array Value := (flatC (List.replicate n zsec)).toArray
theorem flatC_zero' (n k : Nat) : flatC (List.replicate n (List.replicate k 0)) = List.replicate (n * k) (bC 0) := by
  induction n with
  | zero => simp [flatC]
  | succ n ih =>
    simp only [flatC, List.replicate_succ, List.flatMap_cons] at ih ⊢
    rw [ih]
    simp [secC, Nat.add_mul, Nat.add_comm]
theorem flatC_zero (n : Nat) : flatC (List.replicate n zsec) = List.replicate (n * 64) (bC 0) := flatC_zero' n 64
theorem Try.zero55 : (Try.prog.info? 55).map (fun i => (i.zero, i.size, i.bytes)) = some (some (.agg (Array.replicate 64 (.int .u8 0))), 64, 64) := by kernel_rfl
theorem make49 (n : Nat) (h : n ≤ 65536) (W : World) : (Instr.makeSlice 49 (.int .i64 (n : Int)) (.int .i64 (n : Int))).run Try.prog W = .ok (.slice (some ⟨W.heap.size, 0, none⟩) n n) (W.alloc (.cells (zeroRow n) 55)) := by
  obtain ⟨i, hi, hh⟩ := Option.map_eq_some_iff.1 Try.zero55
  simp only [Prod.mk.injEq] at hh
  obtain ⟨h1, h2, h3⟩ := hh
  rw [run_make (P := Try.prog) W 49 55 i _ Try.underlying49 hi h1 .i64 .i64 (n : Int) (n : Int) (by omega) (by omega) (by rw [h3]; omega) (by omega)]
  have e : madeCells (Value.agg (Array.replicate 64 (Value.int .u8 0))).cells (n * 64) = zeroRow n := by
    apply Array.ext
    · rw [size_madeCells, zeroRow, flatC_zero]; simp
    · intro j h1 h2
      have e1 : ∀ (k : Nat) (hk : j < (zeroRow n).size), (zeroRow n)[j] = bC 0 := by intro k hk; simp [zeroRow, flatC_zero]
      rw [e1 0 h2]
      simp [madeCells, Value.cells, bC, Nat.mod_lt]
  simp only [Int.toNat_natCast, h2]
  rw [e]
theorem bld52 (a c : Option Addr) (n1 n2 n3 n4 : Nat) (w : World) : bldRun Try.prog 52 #[(0, .slice a n1 n2), (1, .slice c n3 n4), (4, .int .i64 (-1))] w = .ok (.value (.agg #[.slice a n1 n2, .slice c n3 n4, .slice none 0 0, .bool false, .int .i64 (-1)])) w := by kernel_rfl

theorem new_close {w : World} {B bl bn : Nat} {n : Nat} (hB : B ≤ w.heap.size) (hn : n ≤ 65536) (h : (bl = w.heap.size ∧ bn = w.heap.size + 1) ∨ (bn = w.heap.size ∧ bl = w.heap.size + 1)) :
    DiskAt (((w.alloc (.cells (zeroRow n) 55)).alloc (.cells (zeroRow n) 55)).alloc (.cells #[.slice (some ⟨bl, 0, none⟩) n n, .slice (some ⟨bn, 0, none⟩) n n, .slice none 0 0, .bool false, .int .i64 (-1)] 52)) B (w.heap.size + 2) bl bn (.slice none 0 0) (DM.new n) := by
  have h1 : Blk (w.alloc (.cells (zeroRow n) 55)) w.heap.size 55 (zeroRow n) := heap_alloc_new w _
  have h2 : Blk ((w.alloc (.cells (zeroRow n) 55)).alloc (.cells (zeroRow n) 55)) (w.heap.size + 1) 55 (zeroRow n) := by have := heap_alloc_new (w.alloc (.cells (zeroRow n) 55)) (.cells (zeroRow n) 55); simpa [Blk] using this
  have h3 := h1.alloc (.cells (zeroRow n) 55)
  generalize hX : (Obj.cells #[.slice (some ⟨bl, 0, none⟩) n n, .slice (some ⟨bn, 0, none⟩) n n, .slice none 0 0, .bool false, .int .i64 (-1)] 52) = X
  have h4 := h2.alloc X
  have h5 := h3.alloc X
  have h6 := heap_alloc_new ((w.alloc (.cells (zeroRow n) 55)).alloc (.cells (zeroRow n) 55)) X
  have e6 : ((w.alloc (.cells (zeroRow n) 55)).alloc (.cells (zeroRow n) 55)).heap.size = w.heap.size + 2 := by simp
  rw [e6, ← hX] at h6
  have el : (DM.new n).last.length = n := by simp [DM.new]
  refine ⟨?_, ?_, ?_, World.ownsRow_nil _ _ _ _, DM.Ok.new hn, ?_, by omega, by omega, by omega⟩
  · rw [el, ← hX]; exact h6
  · rcases h with ⟨rfl, rfl⟩ | ⟨rfl, rfl⟩
    · exact h5
    · exact h4
  · rcases h with ⟨rfl, rfl⟩ | ⟨rfl, rfl⟩
    · exact h4
    · exact h5
  · omega

set_option maxRecDepth 100000 in
set_option maxHeartbeats 400000 in
theorem newdisk_ok (n B : Nat) (w : World) (h0 : 16 ≤ n) (h1 : n ≤ 65536) (hB : B ≤ w.heap.size) :
    Calls Try.prog 6 #[.int .i64 (n : Int)] w fun e w' => ∃ b bl bn, e = .returned (.tuple #[.pointer (some ⟨b, 0, none⟩), .int .i64 0]) ∧ DiskAt w' B b bl bn (.slice none 0 0) (DM.new n) ∧ Below w.heap.size w w' := by
  have t1 : decide ((n : Int) < 16) = false := by simp; omega
  have t2 : decide (65536 < (n : Int)) = false := by simp; omega
  have hm := fun W => make49 n h1 W
  have hb := bld52
  have c1 := hid (new_close (w := w.drew) (B := B) hB h1 (.inl ⟨rfl, rfl⟩))
  have c2 := hid (new_close (w := w.drew) (B := B) hB h1 (.inr ⟨rfl, rfl⟩))
  go_enter Try.func6, Try.ntmps6
  go_wp2_with fail
  go_region_law (fail)
  all_goals go_wp2
  all_goals go_ret2
  all_goals first
    | exact ⟨_, _, _, rfl, c1.out, ((((Below.refl _ _).drew).alloc (Nat.le_refl _) _).alloc (by simp) _).alloc (by simp; omega) _⟩
    | exact ⟨_, _, _, rfl, c2.out, ((((Below.refl _ _).drew).alloc (Nat.le_refl _) _).alloc (by simp) _).alloc (by simp; omega) _⟩
theorem newdisk_no (n : Int) (w : World) (h0 : n < 16 ∨ 65536 < n) :
    Calls Try.prog 6 #[.int .i64 n] w fun e w' => e = .returned (.tuple #[.pointer none, .int .i64 1]) ∧ w = w' := by
  rcases h0 with h | h
  all_goals
    go_enter Try.func6, Try.ntmps6
    go_wp2
    go_ret2
    exact ⟨rfl, rfl⟩

theorem Try.info5 : (Try.prog.info? 5).map (fun i => (i.zero, i.size, i.bytes)) = some (some (.int .u8 0), 1, 1) := by kernel_rfl
set_option maxRecDepth 100000 in
set_option maxHeartbeats 400000 in
theorem clone_ok {w : World} {ad : Addr} {n c : Nat} {bs : List UInt8} (hr : RdB w (some ad) n bs) (hn : 0 < n) (hm : n ≤ 1000000) :
    Calls Try.prog 18 #[.slice (some ad) n c] w fun e w' => ∃ v, e = .returned v ∧ w'.ownsRow w.heap.size 5 1 v n (secC bs) ∧ Below w.heap.size w w' := by
  obtain ⟨i0, hi0, hz0, hz1, hz2⟩ := info_parts Try.info5
  obtain ⟨ad', hA, hlt, hcell⟩ := hr.2 hn
  obtain rfl : ad = ad' := by injection hA
  have hlen : Hid ((secC bs).length = n * 1) := hid (by rw [secC_length, hr.1]; omega)
  have hnews : Hid (∀ j u, (secC bs)[j]? = some u → (w.alloc (.cells #[] 5)).cell? (ad.add j) = some u) := hid fun j u hu => by
    rw [World.cell?_of_block (w := w) (a := ad.add j) (by rw [add_block]; exact Below.heap_alloc _ _ _ hlt)]
    exact hcell j u hu
  clear hcell hA hr
  have hnil := fun (w : World) => Lib.run_eql_slice_nil (P := Try.prog) w 22 5 (some ad) n c 0 0 Try.underlying22
  go_enter Try.func18, Try.ntmps18
  go_wp2_with (at_builtin; refine wpList_append_own _ rfl _ _ 22 rfl w.heap.size 5 i0 (.int .u8 0) 1 1 Try.underlying22 hi0 hz0 hz1 hz2 rfl (by decide) _ _ [] rfl (World.ownsRow_made w #[] 0 (Nat.le_refl _) (by unfold maxLen; omega) rfl) ad n c (secC bs) rfl hlen.out hnews.out (secC_one bs) (by unfold maxLen; omega) (by omega) (by simp) ?_)
  intro v1 w1 hown hg _
  have hb := hid (((Below.refl w.heap.size w).alloc (Nat.le_refl _) (.cells #[] 5)).grown hg (by simp) (fun k hk => by have : w.heap.size = k := by simpa [Value.ownBlock] using hk
                                                                                                                       omega))
  have ho : Hid (w1.ownsRow w.heap.size 5 1 v1 n (secC bs)) := hid (by simpa using hown)
  clear hown hg
  go_wp2
  go_ret
  exact ⟨_, rfl, ho.out, hb.out⟩
set_option maxHeartbeats 400000 in
theorem read_no {w : World} {B b bl bn : Nat} {pv : Value} {m : DM} (h : DiskAt w B b bl bn pv m) (at_ : Int) (h0 : placeE m.down at_ m.last.length ≠ 0) :
    Calls Try.prog 10 #[.pointer (some ⟨b, 0, none⟩), .int .i64 at_] w fun e w' => e = .returned (.tuple #[.slice none 0 0, .int .i64 (placeE m.down at_ m.last.length)]) ∧ w = w' := by
  have hp := place_ok h at_
  have hne : (placeE m.down at_ m.last.length != 0) = true := by simpa using h0
  generalize placeE m.down at_ m.last.length = x at *
  clear h h0
  go_enter Try.func10, Try.ntmps10
  go_wp2_with fail
  refine hp.mono ?_
  rintro e w' ⟨rfl, rfl⟩
  go_wp2
  go_ret2
  exact ⟨rfl, rfl⟩
set_option maxRecDepth 100000 in
set_option maxHeartbeats 400000 in
theorem read_ok {w : World} {B b bl bn : Nat} {pv : Value} {m : DM} (h : DiskAt w B b bl bn pv m) (hdn : m.down = false) (k : Nat) (s : List UInt8) (hs : m.now[k]? = some s) :
    Calls Try.prog 10 #[.pointer (some ⟨b, 0, none⟩), .int .i64 (k : Int)] w fun e w' => ∃ v, e = .returned (.tuple #[v, .int .i64 0]) ∧ w'.ownsRow w.heap.size 5 1 v 64 (secC s) ∧ Below w.heap.size w w' := by
  have hp := place_ok h (k : Int)
  have hk : k < m.last.length := by have := (List.getElem?_eq_some_iff.1 hs).1; rw [h.ok.len] at this; exact this
  rw [show placeE m.down (k : Int) m.last.length = 0 from by simp [placeE, hdn]; omega] at hp
  have hc1 := h.blk.cell 1
  have hk0 : (0 : Int) ≤ (k : Int) := by omega
  have hk1 : (k : Int) < (m.last.length : Int) := by omega
  have hsl := h.ok.secN s (List.mem_of_getElem? hs)
  have hrd : Hid (RdB w (some ⟨bn, k * 64, none⟩) 64 s) := hid ⟨hsl, fun _ => ⟨_, rfl, h.blkN.lt, fun j v hv => by
    rw [Addr.add_mid, h.blkN.cell]
    simpa using flatC_at m.now h.ok.secN k s hs j v hv⟩⟩
  clear h hdn hs
  go_enter Try.func10, Try.ntmps10
  go_wp2_with fail
  refine hp.mono ?_
  rintro e w' ⟨rfl, rfl⟩
  go_wp2_with fail
  refine (clone_ok hrd.out (by omega) (by omega)).mono ?_
  rintro e w1 ⟨v, rfl, ho, hb⟩
  have HR := hid (And.intro ho hb)
  clear ho hb hp
  go_wp2
  go_ret2
  exact ⟨v, rfl, HR.out.1, HR.out.2⟩
end Go.Proofs.Ythflabmfieobdaa
