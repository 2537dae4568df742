/- The disk's own words: what it contains, where it lies; the small functions. -/
import Derived.Test.YthflabmfieobdaaW3
namespace Go.Proofs.Ythflabmfieobdaa
open Go.RowKit

/-- What a disk contains. -/
structure DM where
  last : List (List UInt8)
  now : List (List UInt8)
  pend : List (Nat × List UInt8)
  down : Bool
  fuse : Int

structure DM.Ok (m : DM) : Prop where
  len : m.now.length = m.last.length
  small : m.last.length ≤ 65536
  secL : ∀ s ∈ m.last, s.length = 64
  secN : ∀ s ∈ m.now, s.length = 64
  secP : ∀ p ∈ m.pend, p.1 < m.last.length ∧ p.2.length = 64
  fuseLo : -1 ≤ m.fuse
  fuseHi : m.fuse ≤ 9223372036854775807
  many : m.pend.length ≤ 1000000

/-- The disk's blocks: b its struct, bl and bn its rows of sectors, pv its pending writes; from B on. -/
structure DiskAt (w : World) (B b bl bn : Nat) (pv : Value) (m : DM) : Prop where
  blk : Blk w b 52 #[.slice (some ⟨bl, 0, none⟩) m.last.length m.last.length, .slice (some ⟨bn, 0, none⟩) m.last.length m.last.length, pv, .bool m.down, .int .i64 m.fuse]
  blkL : Blk w bl 55 (flatC m.last).toArray
  blkN : Blk w bn 55 (flatC m.now).toArray
  own : w.ownsRow B 57 65 pv m.pend.length (pendC m.pend)
  ok : m.Ok
  ne : bl ≠ bn
  hb : B ≤ b
  hbl : B ≤ bl
  hbn : B ≤ bn

/-- The blocks that a disk's operations may write. -/
def Foot (b bl bn : Nat) (pv : Value) (k : Nat) : Prop := k = b ∨ k = bl ∨ k = bn ∨ pv.ownBlock = some k
/-- The pending writes' row is the elder one, none or a new one. -/
def Moved (w : World) (pv pv' : Value) : Prop := ∀ k, pv'.ownBlock = some k → pv.ownBlock = some k ∨ w.heap.size ≤ k

section
variable {w w' : World} {B b bl bn : Nat} {pv : Value} {m : DM}
theorem DiskAt.ne1 (h : DiskAt w B b bl bn pv m) : b ≠ bl := h.blk.ne_ h.blkL (by decide)
theorem DiskAt.ne2 (h : DiskAt w B b bl bn pv m) : b ≠ bn := h.blk.ne_ h.blkN (by decide)
theorem DiskAt.pb (h : DiskAt w B b bl bn pv m) : pv.ownBlock ≠ some b := own_blk_ne h.own h.blk (by decide)
theorem DiskAt.pl (h : DiskAt w B b bl bn pv m) : pv.ownBlock ≠ some bl := own_blk_ne h.own h.blkL (by decide)
theorem DiskAt.pn (h : DiskAt w B b bl bn pv m) : pv.ownBlock ≠ some bn := own_blk_ne h.own h.blkN (by decide)
/-- What leaves the disk's blocks alone leaves the disk. -/
theorem DiskAt.ch {S : Nat → Prop} (h : DiskAt w B b bl bn pv m) (hc : Ch S w w') (hs : ∀ k, Foot b bl bn pv k → ¬ S k) : DiskAt w' B b bl bn pv m :=
  ⟨h.blk.ch hc (hs b (.inl rfl)), h.blkL.ch hc (hs bl (.inr (.inl rfl))), h.blkN.ch hc (hs bn (.inr (.inr (.inl rfl)))), own_ch h.own hc fun k hk => hs k (.inr (.inr (.inr hk))), h.ok, h.ne, h.hb, h.hbl, h.hbn⟩
theorem DiskAt.foot (h : DiskAt w B b bl bn pv m) (k : Nat) (hk : Foot b bl bn pv k) : B ≤ k ∧ k < w.heap.size := by
  rcases hk with rfl | rfl | rfl | hk
  · exact ⟨h.hb, h.blk.lt⟩
  · exact ⟨h.hbl, h.blkL.lt⟩
  · exact ⟨h.hbn, h.blkN.lt⟩
  · exact h.own.lt k hk
theorem DiskAt.below {w' : World} (h : DiskAt w B b bl bn pv m) (hc : Below w.heap.size w w') : DiskAt w' B b bl bn pv m :=
  h.ch (Ch.of_below hc (fun k => w.heap.size ≤ k)) fun k hk => by have := (h.foot k hk).2; omega
end

def downE (dn : Bool) : Int := if dn then 90 else 0
def placeE (dn : Bool) (at_ : Int) (n : Nat) : Int := if dn then 90 else if at_ < 0 ∨ (n : Int) ≤ at_ then 1 else 0

set_option maxHeartbeats 400000 in
theorem state_nil (w : World) : Calls Try.prog 17 #[.pointer none] w fun e w' => e = .returned (.int .i64 3) ∧ w = w' := by
  go_enter Try.func17, Try.ntmps17
  go_wp2
  go_ret
  exact ⟨rfl, rfl⟩
set_option maxHeartbeats 400000 in
theorem state_ok {w : World} {B b bl bn : Nat} {pv : Value} {m : DM} (h : DiskAt w B b bl bn pv m) :
    Calls Try.prog 17 #[.pointer (some ⟨b, 0, none⟩)] w fun e w' => e = .returned (.int .i64 (downE m.down)) ∧ w = w' := by
  have h3 : w.cell? ⟨b, 3, none⟩ = some (.bool m.down) := h.blk.cell 3
  clear h
  unfold downE
  generalize m.down = dn at *
  cases dn
  all_goals
    go_enter Try.func17, Try.ntmps17
    go_wp2
    go_ret
    exact ⟨rfl, rfl⟩
set_option maxHeartbeats 400000 in
theorem down_ok {w : World} {B b bl bn : Nat} {pv : Value} {m : DM} (h : DiskAt w B b bl bn pv m) :
    Calls Try.prog 11 #[.pointer (some ⟨b, 0, none⟩)] w fun e w' => e = .returned (.bool m.down) ∧ w = w' := by
  have h3 : w.cell? ⟨b, 3, none⟩ = some (.bool m.down) := h.blk.cell 3
  clear h
  generalize m.down = dn at *
  go_enter Try.func11, Try.ntmps11
  go_wp2
  go_ret
  exact ⟨rfl, rfl⟩

set_option maxHeartbeats 400000 in
theorem place_ok {w : World} {B b bl bn : Nat} {pv : Value} {m : DM} (h : DiskAt w B b bl bn pv m) (at_ : Int) :
    Calls Try.prog 15 #[.pointer (some ⟨b, 0, none⟩), .int .i64 at_] w fun e w' => e = .returned (.int .i64 (placeE m.down at_ m.last.length)) ∧ w = w' := by
  have h1 : w.cell? ⟨b, 1, none⟩ = some (.slice (some ⟨bn, 0, none⟩) m.last.length m.last.length) := h.blk.cell 1
  have hs := state_ok h
  clear h
  unfold downE at hs
  generalize m.down = dn at *
  generalize m.last.length = n at *
  cases dn
  · by_cases ha : at_ < 0
    · have hb : placeE false at_ n = 1 := by simp [placeE, ha]
      rw [hb]; clear hb
      go_enter Try.func15, Try.ntmps15
      go_wp2_with (go_at_call 17; refine hs.mono ?_; rintro e w' ⟨rfl, rfl⟩)
      go_ret
      exact ⟨rfl, rfl⟩
    · by_cases hb : at_ < n
      · have hq : placeE false at_ n = 0 := by simp [placeE]; omega
        rw [hq]; clear hq
        go_enter Try.func15, Try.ntmps15
        go_wp2_with (go_at_call 17; refine hs.mono ?_; rintro e w' ⟨rfl, rfl⟩)
        go_ret
        exact ⟨rfl, rfl⟩
      · have hq : placeE false at_ n = 1 := by simp [placeE]; omega
        rw [hq]; clear hq
        go_enter Try.func15, Try.ntmps15
        go_wp2_with (go_at_call 17; refine hs.mono ?_; rintro e w' ⟨rfl, rfl⟩)
        go_ret
        exact ⟨rfl, rfl⟩
  · go_enter Try.func15, Try.ntmps15
    go_wp2_with (go_at_call 17; refine hs.mono ?_; rintro e w' ⟨rfl, rfl⟩)
    go_ret
    exact ⟨rfl, rfl⟩

/-- The power fails: nothing else happens. -/
def DM.fails (m : DM) : DM := { m with down := true }
def DM.burn (m : DM) : DM := { m with fuse := if 0 < m.fuse then m.fuse - 1 else m.fuse }
theorem DM.Ok.fails {m : DM} (h : m.Ok) : m.fails.Ok := ⟨h.len, h.small, h.secL, h.secN, h.secP, h.fuseLo, h.fuseHi, h.many⟩
theorem DM.Ok.burn {m : DM} (h : m.Ok) : m.burn.Ok := ⟨h.len, h.small, h.secL, h.secN, h.secP, by have := h.fuseLo; show -1 ≤ ite _ _ _; split <;> omega, by have := h.fuseHi; show ite _ _ _ ≤ _; split <;> omega, h.many⟩

theorem diskAt_set {w : World} {B b bl bn : Nat} {pv : Value} {m : DM} (h : DiskAt w B b bl bn pv m) (i : Nat) (u pv' : Value) (m' : DM) (hl : m'.last = m.last) (hn : m'.now = m.now) (hp : m'.pend = m.pend) (hpv : pv' = pv) (hok : m'.Ok)
    (hc : (#[.slice (some ⟨bl, 0, none⟩) m.last.length m.last.length, .slice (some ⟨bn, 0, none⟩) m.last.length m.last.length, pv, .bool m.down, .int .i64 m.fuse] : Array Value).setIfInBounds i u =
      #[.slice (some ⟨bl, 0, none⟩) m'.last.length m'.last.length, .slice (some ⟨bn, 0, none⟩) m'.last.length m'.last.length, pv', .bool m'.down, .int .i64 m'.fuse]) :
    DiskAt (w.setCell ⟨b, i, none⟩ u) B b bl bn pv' m' := by
  subst hpv
  refine ⟨?_, ?_, ?_, ?_, hok, h.ne, h.hb, h.hbl, h.hbn⟩
  · have := h.blk.set_ i u; rw [hc] at this; exact this
  · rw [hl]; exact h.blkL.far (Ne.symm h.ne1) _
  · rw [hn]; exact h.blkN.far (Ne.symm h.ne2) _
  · rw [hp]; exact own_ch h.own ((Ch.refl (· = b) w).setCell (.inl rfl) u) fun k hk e => h.pb (by rw [hk, e])

theorem ch_one (w : World) (b i : Nat) (u : Value) : Ch (fun k => k = b) w (w.setCell ⟨b, i, none⟩ u) := ⟨rfl, rfl, rfl, by simp [World.setCell], fun k _ hs => Below.heap_setCell w ⟨b, i, none⟩ u k hs⟩

set_option maxHeartbeats 400000 in
theorem power_no {w : World} {B b bl bn : Nat} {pv : Value} {m : DM} (h : DiskAt w B b bl bn pv m) (h0 : m.fuse = 0) :
    Calls Try.prog 16 #[.pointer (some ⟨b, 0, none⟩)] w fun e w' => e = .returned (.bool false) ∧ DiskAt w' B b bl bn pv m.fails ∧ Ch (· = b) w w' := by
  have h3 : w.cell? ⟨b, 3, none⟩ = some (.bool m.down) := h.blk.cell 3
  have h4 : w.cell? ⟨b, 4, none⟩ = some (.int .i64 0) := by have := h.blk.cell 4; rw [h0] at this; exact this
  have f3 := h.blk.frozen 3
  have hfin : Hid (DiskAt (w.setCell ⟨b, 3, none⟩ (.bool true)) B b bl bn pv m.fails) := diskAt_set h 3 _ pv m.fails rfl rfl rfl rfl h.ok.fails rfl
  clear h h0
  go_enter Try.func16, Try.ntmps16
  go_wp2
  go_ret
  exact ⟨rfl, hfin, ch_one _ _ _ _⟩
set_option maxHeartbeats 400000 in
theorem power_yes {w : World} {B b bl bn : Nat} {pv : Value} {m : DM} (h : DiskAt w B b bl bn pv m) (h0 : m.fuse ≠ 0) :
    Calls Try.prog 16 #[.pointer (some ⟨b, 0, none⟩)] w fun e w' => e = .returned (.bool true) ∧ DiskAt w' B b bl bn pv m.burn ∧ Ch (· = b) w w' := by
  have h4 : w.cell? ⟨b, 4, none⟩ = some (.int .i64 m.fuse) := h.blk.cell 4
  have f4 := h.blk.frozen 4
  have hi := h.ok.fuseHi
  have lo := h.ok.fuseLo
  by_cases hp : 0 < m.fuse
  · have hfin : Hid (DiskAt (w.setCell ⟨b, 4, none⟩ (.int .i64 (m.fuse - 1))) B b bl bn pv m.burn) := diskAt_set h 4 _ pv m.burn rfl rfl rfl rfl h.ok.burn (by simp [DM.burn, hp])
    clear h
    generalize m.fuse = fz at *
    go_enter Try.func16, Try.ntmps16
    go_wp2
    go_ret
    exact ⟨rfl, hfin, ch_one _ _ _ _⟩
  · have hfin : Hid (DiskAt w B b bl bn pv m.burn) := by
      have : m.burn = m := by simp [DM.burn, hp]
      rw [this]; exact h
    have hn : m.fuse < 0 := by omega
    clear h
    generalize m.fuse = fz at *
    go_enter Try.func16, Try.ntmps16
    go_wp2
    go_ret
    exact ⟨rfl, hfin, Ch.refl _ _⟩

/-- A byte slice that reads as bs. -/
def RdB (w : World) (A : Option Addr) (n : Nat) (bs : List UInt8) : Prop :=
  bs.length = n ∧ (0 < n → ∃ ad, A = some ad ∧ ad.block < w.heap.size ∧ ∀ j v, (secC bs)[j]? = some v → w.cell? (ad.add j) = some v)
def pad (bs : List UInt8) : List UInt8 := bs ++ List.replicate (64 - bs.length) 0
theorem pad_length (bs : List UInt8) (h : bs.length ≤ 64) : (pad bs).length = 64 := by simp [pad]; omega
def zero64 : List Value := List.replicate 64 (bC 0)
theorem zero64_length : zero64.length = 64 := by simp [zero64]
theorem pad_splice (bs : List UInt8) (h : bs.length ≤ 64) : splice zero64 0 (secC bs) = secC (pad bs) := by
  have e : ∀ n, n = 64 → splice (List.replicate n (bC 0)) 0 (secC bs) = secC (bs ++ List.replicate (n - bs.length) 0) := by
    intro n _
    simp [splice, secC, List.drop_replicate]
  exact e 64 rfl
theorem add_block (a : Addr) (n : Nat) : (a.add n).block = a.block := by unfold Addr.add; split <;> rfl
theorem RdB.ch {S : Nat → Prop} {w w' : World} {A : Option Addr} {n : Nat} {bs : List UInt8} (h : RdB w A n bs) (hc : Ch S w w') (hs : 0 < n → ∀ ad, A = some ad → ¬ S ad.block) : RdB w' A n bs :=
  ⟨h.1, fun hn => by
    obtain ⟨ad, rfl, hlt, hcell⟩ := h.2 hn
    refine ⟨ad, rfl, Nat.lt_of_lt_of_le hlt hc.size, fun j v hv => ?_⟩
    rw [World.cell?_of_block (w := w) (a := ad.add j) (by rw [add_block]; exact hc.block _ hlt (hs hn ad rfl))]
    exact hcell j v hv⟩
theorem RdB.below {w w' : World} {A : Option Addr} {n : Nat} {bs : List UInt8} (h : RdB w A n bs) (hc : Below w.heap.size w w') : RdB w' A n bs :=
  ⟨h.1, fun hn => by
    obtain ⟨ad, rfl, hlt, hcell⟩ := h.2 hn
    refine ⟨ad, rfl, Nat.lt_of_lt_of_le hlt hc.size, fun j v hv => ?_⟩
    rw [World.cell?_of_block (w := w) (a := ad.add j) (by rw [add_block]; exact hc.block _ hlt)]
    exact hcell j v hv⟩
theorem Blk.setCells {g : Nat} {t : TypeId} : ∀ (vs : List Value) (o : Nat) (xs : List Value) (w : World), Blk w g t xs.toArray → o + vs.length ≤ xs.length → Blk (w.setCells g o vs) g t (xs.take o ++ (vs ++ xs.drop (o + vs.length))).toArray
  | [], o, xs, w, h, _ => by simpa [World.setCells] using h
  | v :: vs, o, xs, w, h, hl => by
    have h1 := h.set_ o v
    simp only [List.setIfInBounds_toArray] at h1
    have h2 := Blk.setCells vs (o + 1) (xs.set o v) _ h1 (by simp at hl ⊢; omega)
    have e := list_seg_step xs o v vs (by simpa using hl)
    simp only [World.setCells]
    have e' : (xs.set o v).take (o + 1) ++ (vs ++ (xs.set o v).drop (o + 1 + vs.length)) = xs.take o ++ (v :: vs ++ xs.drop (o + (v :: vs).length)) := by simpa [Nat.add_assoc, Nat.add_comm, Nat.add_left_comm] using e
    rw [← e']; exact h2
theorem ch_setCells (g : Nat) : ∀ (vs : List Value) (o : Nat) (w : World), Ch (fun k => k = g) w (w.setCells g o vs)
  | [], o, w => by simpa [World.setCells] using Ch.refl _ w
  | v :: vs, o, w => by
    simp only [World.setCells]
    exact (ch_one w g o v).trans (ch_setCells g vs (o + 1) _)
theorem Blk.range {w : World} {g : Nat} {t : TypeId} {xs : List Value} (h : Blk w g t xs.toArray) (o : Nat) (cs : List Value) (hc : ∀ j v, cs[j]? = some v → xs[o + j]? = some v) : w.rangeAt g o cs := fun j v hv => by
  rw [h.cell]; simpa using hc j v hv
theorem Blk.there {w : World} {g : Nat} {t : TypeId} {xs : List Value} (h : Blk w g t xs.toArray) (o n : Nat) (hl : o + n ≤ xs.length) : w.there g o n := fun j hj =>
  ⟨by rw [h.cell]; simp; omega, h.frozen _⟩
end Go.Proofs.Ythflabmfieobdaa
