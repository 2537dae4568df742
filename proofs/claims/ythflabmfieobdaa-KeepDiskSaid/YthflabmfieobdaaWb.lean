/- The reference's disk. -/
import Derived.Test.YthflabmfieobdaaWa
namespace Go.Proofs.Ythflabmfieobdaa
open Go.RowKit
set_option linter.unusedVariables false
set_option linter.unusedSimpArgs false

def strS (s : List UInt8) : ByteArray := ⟨s.toArray⟩
theorem strS_size (s : List UInt8) : (strS s).size = s.length := by simp [strS, ByteArray.size]
theorem strS_list (s : List UInt8) : (strS s).data.toList = s := by simp [strS]
theorem strS_of (b : ByteArray) : strS b.data.toList = b := by cases b; simp [strS]
def grow (s : List UInt8) (j : Nat) : List UInt8 := s ++ List.replicate j 0
theorem grow_length (s : List UInt8) (j : Nat) : (grow s j).length = s.length + j := by simp [grow]
theorem grow_snoc (s : List UInt8) (j : Nat) : grow s j ++ [0] = grow s (j + 1) := by simp [grow, List.replicate_succ']
theorem grow_pad (s : List UInt8) : grow s (64 - s.length) = pad s := rfl

theorem strS_add (s : List UInt8) (j : Nat) : strS (grow s j) ++ (⟨#[0]⟩ : ByteArray) = strS (grow s (j + 1)) := by
  rw [← grow_snoc]
  apply ByteArray.ext
  simp [strS]
def strLen : Value → Nat
  | .string b => b.size
  | _ => 0
set_option maxHeartbeats 400000 in
theorem padded_ok (s : List UInt8) (w : World) (h : s.length ≤ 64) :
    Calls Try.prog 26 #[.string (strS s)] w fun e w' => e = .returned (.string (strS (pad s))) ∧ w = w' := by
  go_enter Try.func26, Try.ntmps26
  go_wp2_with fail
  go_loop [0] (fun v => ∃ j : Nat, s.length + j ≤ 64 ∧ v = .string (strS (grow s j))) (fun v => 64 - strLen v)
  case atStart => exact ⟨0, by omega, by simp [grow]⟩
  case round =>
    obtain ⟨j, hj, rfl⟩ := hrel
    have hsz : (strS (grow s j)).size = s.length + j := by rw [strS_size, grow_length]
    by_cases hlt : s.length + j < 64
    · go_wp2
      exact ⟨⟨j + 1, by omega, by rw [strS_add]⟩, by rw [strS_add]; simp only [strLen, strS_size, grow_length]; omega⟩
    · obtain rfl : j = 64 - s.length := by omega
      go_wp2
      go_ret
      exact ⟨rfl, rfl⟩

/-- The reference's cells: durable sectors as strings; pending writes. -/
def strC (xs : List (List UInt8)) : List Value := xs.map fun s => .string (strS s)
def rputC (p : Nat × List UInt8) : List Value := [.int .i64 (p.1 : Int), .string (strS p.2)]
def rpendC (ps : List (Nat × List UInt8)) : List Value := ps.flatMap rputC
theorem strC_length (xs : List (List UInt8)) : (strC xs).length = xs.length := by simp [strC]
theorem strC_set (xs : List (List UInt8)) (k : Nat) (s : List UInt8) : strC (xs.set k s) = (strC xs).set k (.string (strS s)) := by simp [strC]
theorem strC_at (xs : List (List UInt8)) (k : Nat) (s : List UInt8) (h : xs[k]? = some s) : (strC xs)[k]? = some (.string (strS s)) := by simp [strC, h]
theorem rpendC_at : ∀ (ps : List (Nat × List UInt8)) (k : Nat) (p : Nat × List UInt8), ps[k]? = some p → (rpendC ps)[k * 2]? = some (.int .i64 (p.1 : Int)) ∧ (rpendC ps)[k * 2 + 1]? = some (.string (strS p.2))
  | [], k, p, hk => by simp at hk
  | x :: xs, 0, p, hk => by
    simp only [List.getElem?_cons_zero, Option.some.injEq] at hk
    subst hk
    simp [rpendC, rputC]
  | x :: xs, k + 1, p, hk => by
    simp only [List.getElem?_cons_succ] at hk
    have := rpendC_at xs k p hk
    simp only [rpendC, List.flatMap_cons, rputC] at this ⊢
    rw [show (k + 1) * 2 = k * 2 + 2 from by omega]
    simpa using this
theorem rpendC_snoc (ps : List (Nat × List UInt8)) (p : Nat × List UInt8) : rpendC (ps ++ [p]) = rpendC ps ++ rputC p := by simp [rpendC]

/-- The reference's disk in memory; 'now' is not kept. -/
structure RefAt (w : World) (B r : Nat) (dv pv : Value) (m : DM) : Prop where
  blk : Blk w r 47 #[dv, pv, .int .i64 m.fuse, .bool m.down]
  ownD : w.ownsRow B 9 1 dv m.last.length (strC m.last)
  ownP : w.ownsRow B 66 2 pv m.pend.length (rpendC m.pend)
  ok : m.Ok
  hb : B ≤ r
def RFoot (r : Nat) (dv pv : Value) (k : Nat) : Prop := k = r ∨ dv.ownBlock = some k ∨ pv.ownBlock = some k
section
variable {w w' : World} {B r : Nat} {dv pv : Value} {m : DM}
theorem RefAt.pd (h : RefAt w B r dv pv m) : dv.ownBlock ≠ some r := own_blk_ne h.ownD h.blk (by decide)
theorem RefAt.pp (h : RefAt w B r dv pv m) : pv.ownBlock ≠ some r := own_blk_ne h.ownP h.blk (by decide)
theorem RefAt.dp (h : RefAt w B r dv pv m) (k : Nat) (h1 : dv.ownBlock = some k) : pv.ownBlock ≠ some k := by
  intro h2
  rcases h.ownD.2 with ⟨rfl, _⟩ | ⟨g, cap, cur, rfl, _, hh, _⟩
  · simp [Value.ownBlock] at h1
  · rcases h.ownP.2 with ⟨rfl, _⟩ | ⟨g', cap', cur', rfl, _, hh', _⟩
    · simp [Value.ownBlock] at h2
    · have e1 : g = k := by simpa [Value.ownBlock] using h1
      have e2 : g' = k := by simpa [Value.ownBlock] using h2
      subst e1
      rw [e2, hh] at hh'
      simp at hh'
theorem RefAt.ch {S : Nat → Prop} (h : RefAt w B r dv pv m) (hc : Ch S w w') (hs : ∀ k, RFoot r dv pv k → ¬ S k) : RefAt w' B r dv pv m :=
  ⟨h.blk.ch hc (hs r (.inl rfl)), own_ch h.ownD hc fun k hk => hs k (.inr (.inl hk)), own_ch h.ownP hc fun k hk => hs k (.inr (.inr hk)), h.ok, h.hb⟩
theorem RefAt.foot (h : RefAt w B r dv pv m) (k : Nat) (hk : RFoot r dv pv k) : B ≤ k ∧ k < w.heap.size := by
  rcases hk with rfl | hk | hk
  · exact ⟨h.hb, h.blk.lt⟩
  · exact h.ownD.lt k hk
  · exact h.ownP.lt k hk
theorem RefAt.below {w' : World} (h : RefAt w B r dv pv m) (hc : Below w.heap.size w w') : RefAt w' B r dv pv m :=
  h.ch (Ch.of_below hc (fun k => w.heap.size ≤ k)) fun k hk => by have := (h.foot k hk).2; omega
/-- One cell of the reference's own block set. -/
theorem refAt_set (h : RefAt w B r dv pv m) (i : Nat) (u pv' : Value) (m' : DM) (hl : m'.last = m.last) (hp : (pv' = pv ∧ m'.pend = m.pend) ∨ (pv' = .slice none 0 0 ∧ m'.pend = [])) (hok : m'.Ok)
    (hc : (#[dv, pv, .int .i64 m.fuse, .bool m.down] : Array Value).setIfInBounds i u = #[dv, pv', .int .i64 m'.fuse, .bool m'.down]) : RefAt (w.setCell ⟨r, i, none⟩ u) B r dv pv' m' := by
  have h1 := ch_one w r i u
  refine ⟨?_, ?_, ?_, hok, h.hb⟩
  · have := h.blk.set_ i u; rw [hc] at this; exact this
  · rw [hl]; exact own_ch h.ownD h1 fun k hk e => h.pd (by rw [hk, e])
  · rcases hp with ⟨rfl, hp⟩ | ⟨rfl, hp⟩
    · rw [hp]; exact own_ch h.ownP h1 fun k hk e => h.pp (by rw [hk, e])
    · rw [hp]; exact World.ownsRow_nil _ _ _ _
end

set_option maxHeartbeats 400000 in
theorem rcall_no {w : World} {B r : Nat} {dv pv : Value} {m : DM} (h : RefAt w B r dv pv m) (h0 : m.fuse = 0) :
    Calls Try.prog 27 #[.pointer (some ⟨r, 0, none⟩)] w fun e w' => e = .returned (.bool false) ∧ RefAt w' B r dv pv m.fails ∧ Ch (fun k => k = r) w w' := by
  have h4 : w.cell? ⟨r, 2, none⟩ = some (.int .i64 0) := by have := h.blk.cell 2; rw [h0] at this; exact this
  have h3 : w.cell? ⟨r, 3, none⟩ = some (.bool m.down) := h.blk.cell 3
  have f3 := h.blk.frozen 3
  have hfin : Hid (RefAt (w.setCell ⟨r, 3, none⟩ (.bool true)) B r dv pv m.fails) := refAt_set h 3 _ pv m.fails rfl (.inl ⟨rfl, rfl⟩) h.ok.fails rfl
  clear h h0
  go_enter Try.func27, Try.ntmps27
  go_wp2
  go_ret
  exact ⟨rfl, hfin, ch_one _ _ _ _⟩
set_option maxHeartbeats 400000 in
theorem rcall_yes {w : World} {B r : Nat} {dv pv : Value} {m : DM} (h : RefAt w B r dv pv m) (h0 : m.fuse ≠ 0) :
    Calls Try.prog 27 #[.pointer (some ⟨r, 0, none⟩)] w fun e w' => e = .returned (.bool true) ∧ RefAt w' B r dv pv m.burn ∧ Ch (fun k => k = r) w w' := by
  have h4 : w.cell? ⟨r, 2, none⟩ = some (.int .i64 m.fuse) := h.blk.cell 2
  have f4 := h.blk.frozen 2
  have hi := h.ok.fuseHi
  have lo := h.ok.fuseLo
  by_cases hp : 0 < m.fuse
  · have hfin : Hid (RefAt (w.setCell ⟨r, 2, none⟩ (.int .i64 (m.fuse - 1))) B r dv pv m.burn) := refAt_set h 2 _ pv m.burn rfl (.inl ⟨rfl, rfl⟩) h.ok.burn (by simp [DM.burn, hp])
    clear h
    generalize m.fuse = fz at *
    go_enter Try.func27, Try.ntmps27
    go_wp2
    go_ret
    exact ⟨rfl, hfin, ch_one _ _ _ _⟩
  · have hfin : Hid (RefAt w B r dv pv m.burn) := by
      have : m.burn = m := by simp [DM.burn, hp]
      rw [this]; exact h
    have hn : m.fuse < 0 := by omega
    clear h
    generalize m.fuse = fz at *
    go_enter Try.func27, Try.ntmps27
    go_wp2
    go_ret
    exact ⟨rfl, hfin, Ch.refl _ _⟩

set_option maxHeartbeats 400000 in
theorem rstop_down {w : World} {B r : Nat} {dv pv : Value} {m : DM} (h : RefAt w B r dv pv m) (n : Int) (hdn : m.down = true) :
    Calls Try.prog 24 #[.pointer (some ⟨r, 0, none⟩), .int .i64 n] w fun e w' => e = .returned (.int .i64 90) ∧ w = w' := by
  have h3 : w.cell? ⟨r, 3, none⟩ = some (.bool true) := by have := h.blk.cell 3; rw [hdn] at this; exact this
  clear h hdn
  go_enter Try.func24, Try.ntmps24
  go_wp2
  go_ret
  exact ⟨rfl, rfl⟩
set_option maxHeartbeats 400000 in
theorem rstop_neg {w : World} {B r : Nat} {dv pv : Value} {m : DM} (h : RefAt w B r dv pv m) (n : Int) (hdn : m.down = false) (hn : n < 0) :
    Calls Try.prog 24 #[.pointer (some ⟨r, 0, none⟩), .int .i64 n] w fun e w' => e = .returned (.int .i64 1) ∧ w = w' := by
  have h3 : w.cell? ⟨r, 3, none⟩ = some (.bool false) := by have := h.blk.cell 3; rw [hdn] at this; exact this
  clear h hdn
  go_enter Try.func24, Try.ntmps24
  go_wp2
  go_ret
  exact ⟨rfl, rfl⟩
set_option maxHeartbeats 400000 in
theorem rstop_ok {w : World} {B r : Nat} {dv pv : Value} {m : DM} (h : RefAt w B r dv pv m) (n : Int) (hdn : m.down = false) (hn : 0 ≤ n) (h1 : n ≤ 9223372036854775807) :
    Calls Try.prog 24 #[.pointer (some ⟨r, 0, none⟩), .int .i64 n] w fun e w' => e = .returned (.int .i64 0) ∧ RefAt w' B r dv pv (m.stop n) ∧ Ch (fun k => k = r) w w' := by
  have h3 : w.cell? ⟨r, 3, none⟩ = some (.bool false) := by have := h.blk.cell 3; rw [hdn] at this; exact this
  have c4 := h.blk.cell 2
  have f4 := h.blk.frozen 2
  have hfin : Hid (RefAt (w.setCell ⟨r, 2, none⟩ (.int .i64 n)) B r dv pv (m.stop n)) := hid (refAt_set h 2 _ _ (m.stop n) rfl (.inl ⟨rfl, rfl⟩) (h.ok.stop hn h1) rfl)
  clear hdn h
  go_enter Try.func24, Try.ntmps24
  go_wp2
  go_ret
  exact ⟨rfl, hfin.out, ch_one _ _ _ _⟩
end Go.Proofs.Ythflabmfieobdaa
