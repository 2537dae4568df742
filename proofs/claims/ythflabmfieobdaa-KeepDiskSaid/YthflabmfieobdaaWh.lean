/- The disk and its reference side by side: one operation on either. -/
import Derived.Test.YthflabmfieobdaaWg
namespace Go.Proofs.Ythflabmfieobdaa
open Go.RowKit
set_option linter.unusedVariables false
set_option linter.unusedSimpArgs false

/-- The blocks from B on that are no operation's box. -/
def Mine (w : World) (B k : Nat) : Prop := B ≤ k ∧ ¬ ∃ cs, Blk w k 43 cs
def Pair (w : World) (B b bl bn r : Nat) (md mr : DM) : Prop := ∃ pv dv rpv, DiskAt w B b bl bn pv md ∧ RefAt w B r dv rpv mr

theorem own_blk {w : World} {base : Nat} {e : TypeId} {size n : Nat} {v : Value} {xs : List Value} (h : w.ownsRow base e size v n xs) (k : Nat) (hk : v.ownBlock = some k) : ∃ cs, Blk w k e cs := by
  rcases h.2 with ⟨rfl, _⟩ | ⟨g', cap, cur, rfl, _, hh, _⟩
  · simp [Value.ownBlock] at hk
  · have : g' = k := by simpa [Value.ownBlock] using hk
    subst this
    exact ⟨_, hh⟩
section
variable {w w' : World} {B b bl bn r : Nat} {pv dv rpv : Value} {m md mr : DM}
theorem foot_ty (h : DiskAt w B b bl bn pv m) (k : Nat) (hk : Foot b bl bn pv k) : ∃ t cs, (t = 52 ∨ t = 55 ∨ t = 57) ∧ Blk w k t cs := by
  rcases hk with rfl | rfl | rfl | hk
  · exact ⟨_, _, .inl rfl, h.blk⟩
  · exact ⟨_, _, .inr (.inl rfl), h.blkL⟩
  · exact ⟨_, _, .inr (.inl rfl), h.blkN⟩
  · obtain ⟨cs, h1⟩ := own_blk h.own k hk
    exact ⟨_, _, .inr (.inr rfl), h1⟩
theorem rfoot_ty (h : RefAt w B r dv rpv m) (k : Nat) (hk : RFoot r dv rpv k) : ∃ t cs, (t = 47 ∨ t = 9 ∨ t = 66) ∧ Blk w k t cs := by
  rcases hk with rfl | hk | hk
  · exact ⟨_, _, .inl rfl, h.blk⟩
  · obtain ⟨cs, h1⟩ := own_blk h.ownD k hk
    exact ⟨_, _, .inr (.inl rfl), h1⟩
  · obtain ⟨cs, h1⟩ := own_blk h.ownP k hk
    exact ⟨_, _, .inr (.inr rfl), h1⟩
theorem feet (hd : DiskAt w B b bl bn pv md) (hr : RefAt w B r dv rpv mr) (k : Nat) (h1 : Foot b bl bn pv k) (h2 : RFoot r dv rpv k) : False := by
  obtain ⟨t, cs, ht, hb⟩ := foot_ty hd k h1
  obtain ⟨t', cs', ht', hb'⟩ := rfoot_ty hr k h2
  refine Blk.ne_ hb hb' ?_ rfl
  rcases ht with rfl | rfl | rfl <;> rcases ht' with rfl | rfl | rfl <;> decide
theorem foot_mine (hd : DiskAt w B b bl bn pv md) (k : Nat) (h1 : Foot b bl bn pv k) : Mine w B k := by
  refine ⟨(hd.foot k h1).1, fun ⟨cs', hb'⟩ => ?_⟩
  obtain ⟨t, cs, ht, hb⟩ := foot_ty hd k h1
  refine Blk.ne_ hb hb' ?_ rfl
  rcases ht with rfl | rfl | rfl <;> decide
theorem rfoot_mine (hd : RefAt w B r dv rpv mr) (k : Nat) (h1 : RFoot r dv rpv k) : Mine w B k := by
  refine ⟨(hd.foot k h1).1, fun ⟨cs', hb'⟩ => ?_⟩
  obtain ⟨t, cs, ht, hb⟩ := rfoot_ty hd k h1
  refine Blk.ne_ hb hb' ?_ rfl
  rcases ht with rfl | rfl | rfl <;> decide
theorem pair_d {pv' : Value} {m' : DM} (hd : DiskAt w B b bl bn pv md) (hr : RefAt w B r dv rpv mr) (hd' : DiskAt w' B b bl bn pv' m') (hc : Ch (Foot b bl bn pv) w w') : Pair w' B b bl bn r m' mr ∧ Ch (Mine w B) w w' :=
  ⟨⟨pv', dv, rpv, hd', hr.ch hc fun k h2 h1 => feet hd hr k h1 h2⟩, hc.mono fun k _ h1 => foot_mine hd k h1⟩
theorem pair_r {rpv' : Value} {m' : DM} (hd : DiskAt w B b bl bn pv md) (hr : RefAt w B r dv rpv mr) (hr' : RefAt w' B r dv rpv' m') (hc : Ch (RFoot r dv rpv) w w') : Pair w' B b bl bn r md m' ∧ Ch (Mine w B) w w' :=
  ⟨⟨pv, dv, rpv', hd.ch hc fun k h1 h2 => feet hd hr k h1 h2, hr'⟩, hc.mono fun k _ h1 => rfoot_mine hr k h1⟩
theorem Pair.below (h : Pair w B b bl bn r md mr) (hb : Below w.heap.size w w') : Pair w' B b bl bn r md mr := by
  obtain ⟨pv, dv, rpv, hd, hr⟩ := h
  exact ⟨pv, dv, rpv, hd.below hb, hr.below hb⟩
theorem Pair.le (h : Pair w B b bl bn r md mr) : B ≤ w.heap.size := by
  obtain ⟨pv, dv, rpv, hd, hr⟩ := h
  have := hd.blk.lt; have := hd.hb; omega
end

/-- What an operation answers, and what it leaves. -/
inductive WCase (m : DM) (at_ : Int) (bs : List UInt8) : Int → DM → Prop
  | down (h : m.down = true) : WCase m at_ bs 90 m
  | arg (h : m.down = false) (ha : at_ < 0 ∨ (m.last.length : Int) ≤ at_) : WCase m at_ bs 1 m
  | long (h : m.down = false) (k : Nat) (ha : at_ = (k : Int)) (hk : k < m.last.length) (hl : 64 < bs.length) : WCase m at_ bs 2 m
  | fails (h : m.down = false) (k : Nat) (ha : at_ = (k : Int)) (hk : k < m.last.length) (hl : bs.length ≤ 64) (hf : m.fuse = 0) : WCase m at_ bs 90 m.fails
  | ok (h : m.down = false) (k : Nat) (ha : at_ = (k : Int)) (hk : k < m.last.length) (hl : bs.length ≤ 64) (hf : m.fuse ≠ 0) : WCase m at_ bs 0 (m.put k bs)
theorem wcase (m : DM) (at_ : Int) (bs : List UInt8) : ∃ e m', WCase m at_ bs e m' := by
  cases hd : m.down
  · by_cases ha : at_ < 0 ∨ (m.last.length : Int) ≤ at_
    · exact ⟨_, _, .arg hd ha⟩
    · obtain ⟨k, rfl⟩ := Int.eq_ofNat_of_zero_le (show 0 ≤ at_ by omega)
      have hk : k < m.last.length := by omega
      rcases Nat.lt_or_ge 64 bs.length with hl | hl
      · exact ⟨_, _, .long hd k rfl hk hl⟩
      · by_cases hf : m.fuse = 0
        · exact ⟨_, _, .fails hd k rfl hk hl hf⟩
        · exact ⟨_, _, .ok hd k rfl hk hl hf⟩
  · exact ⟨_, _, .down hd⟩
inductive FCase (m : DM) : Int → DM → Prop
  | down (h : m.down = true) : FCase m 90 m
  | fails (h : m.down = false) (hf : m.fuse = 0) : FCase m 90 m.fails
  | ok (h : m.down = false) (hf : m.fuse ≠ 0) : FCase m 0 m.burn.flush
theorem fcase (m : DM) : ∃ e m', FCase m e m' := by
  cases hd : m.down
  · by_cases hf : m.fuse = 0
    · exact ⟨_, _, .fails hd hf⟩
    · exact ⟨_, _, .ok hd hf⟩
  · exact ⟨_, _, .down hd⟩
inductive SCase (m : DM) (n : Int) : Int → DM → Prop
  | down (h : m.down = true) : SCase m n 90 m
  | neg (h : m.down = false) (hn : n < 0) : SCase m n 1 m
  | ok (h : m.down = false) (hn : 0 ≤ n) : SCase m n 0 (m.stop n)
theorem scase (m : DM) (n : Int) : ∃ e m', SCase m n e m' := by
  cases hd : m.down
  · by_cases hf : n < 0
    · exact ⟨_, _, .neg hd hf⟩
    · exact ⟨_, _, .ok hd (by omega)⟩
  · exact ⟨_, _, .down hd⟩

section
variable {w : World} {B b bl bn r : Nat} {md mr m' : DM}
theorem pair_write {at_ e : Int} {A : Option Addr} {len cap : Nat} {bs : List UInt8} (h : Pair w B b bl bn r md mr) (hw : WCase md at_ bs e m') (hr : RdB w A len bs) (near : 0 < len → ∀ ad, A = some ad → ad.block < B) (hmany : md.pend.length < 1000000) :
    Calls Try.prog 7 #[.pointer (some ⟨b, 0, none⟩), .int .i64 at_, .slice A len cap] w fun x w' => x = .returned (.int .i64 e) ∧ Pair w' B b bl bn r m' mr ∧ Ch (Mine w B) w w' := by
  obtain ⟨pv, dv, rpv, hd, hf⟩ := h
  have hlen := hr.1
  cases hw with
  | down hdn =>
    have := write_no hd at_ A len cap (by simp [placeE, hdn])
    rw [show placeE md.down at_ md.last.length = 90 from by simp [placeE, hdn]] at this
    refine this.mono ?_
    rintro x w' ⟨rfl, rfl⟩
    exact ⟨rfl, ⟨pv, dv, rpv, hd, hf⟩, Ch.refl _ _⟩
  | arg hdn ha =>
    have e1 : placeE md.down at_ md.last.length = 1 := by simp [placeE, hdn, ha]
    have := write_no hd at_ A len cap (by rw [e1]; decide)
    rw [e1] at this
    refine this.mono ?_
    rintro x w' ⟨rfl, rfl⟩
    exact ⟨rfl, ⟨pv, dv, rpv, hd, hf⟩, Ch.refl _ _⟩
  | long hdn k ha hk hl =>
    subst ha
    refine (write_long hd (k : Int) A len cap (by simp [placeE, hdn]; omega) (by omega)).mono ?_
    rintro x w' ⟨rfl, rfl⟩
    exact ⟨rfl, ⟨pv, dv, rpv, hd, hf⟩, Ch.refl _ _⟩
  | fails hdn k ha hk hl hfz =>
    subst ha
    refine (write_fails hd (k : Int) A len cap (by simp [placeE, hdn]; omega) (by omega) hfz).mono ?_
    rintro x w' ⟨rfl, hd', hc⟩
    exact ⟨rfl, pair_d hd hf hd' (hc.mono fun k _ e => .inl e)⟩
  | ok hdn k ha hk hl hfz =>
    subst ha
    refine (write_ok hd hdn hfz k hk A len cap bs hr (by omega) (fun h0 ad e => by have := near h0 ad e; have := hd.hb; omega) hmany).mono ?_
    rintro x w' ⟨rfl, pv', hd', hc, _⟩
    exact ⟨rfl, pair_d hd hf hd' hc⟩
theorem pair_rwrite {at_ e : Int} {bs : List UInt8} (h : Pair w B b bl bn r md mr) (hw : WCase mr at_ bs e m') (hmany : mr.pend.length < 1000000) :
    Calls Try.prog 21 #[.pointer (some ⟨r, 0, none⟩), .int .i64 at_, .string (strS bs)] w fun x w' => x = .returned (.int .i64 e) ∧ Pair w' B b bl bn r md m' ∧ Ch (Mine w B) w w' := by
  obtain ⟨pv, dv, rpv, hd, hf⟩ := h
  have hsz := strS_size bs
  cases hw with
  | down hdn =>
    refine (rwrite_down hf at_ _ hdn).mono ?_
    rintro x w' ⟨rfl, rfl⟩
    exact ⟨rfl, ⟨pv, dv, rpv, hd, hf⟩, Ch.refl _ _⟩
  | arg hdn ha =>
    refine (rwrite_arg hf at_ _ hdn ha).mono ?_
    rintro x w' ⟨rfl, rfl⟩
    exact ⟨rfl, ⟨pv, dv, rpv, hd, hf⟩, Ch.refl _ _⟩
  | long hdn k ha hk hl =>
    subst ha
    refine (rwrite_long hf k _ hdn hk (by omega)).mono ?_
    rintro x w' ⟨rfl, rfl⟩
    exact ⟨rfl, ⟨pv, dv, rpv, hd, hf⟩, Ch.refl _ _⟩
  | fails hdn k ha hk hl hfz =>
    subst ha
    refine (rwrite_fails hf k _ hdn hk (by omega) hfz).mono ?_
    rintro x w' ⟨rfl, hd', hc⟩
    exact ⟨rfl, pair_r hd hf hd' (hc.mono fun k _ e => .inl e)⟩
  | ok hdn k ha hk hl hfz =>
    subst ha
    refine (rwrite_ok hf k bs hdn hk hl hfz hmany).mono ?_
    rintro x w' ⟨rfl, pv', hd', hc, _⟩
    exact ⟨rfl, pair_r hd hf hd' hc⟩
theorem pair_flush {e : Int} (h : Pair w B b bl bn r md mr) (hw : FCase md e m') :
    Calls Try.prog 8 #[.pointer (some ⟨b, 0, none⟩)] w fun x w' => x = .returned (.int .i64 e) ∧ Pair w' B b bl bn r m' mr ∧ Ch (Mine w B) w w' := by
  obtain ⟨pv, dv, rpv, hd, hf⟩ := h
  cases hw with
  | down hdn =>
    refine (flush_down hd hdn).mono ?_
    rintro x w' ⟨rfl, rfl⟩
    exact ⟨rfl, ⟨pv, dv, rpv, hd, hf⟩, Ch.refl _ _⟩
  | fails hdn hfz =>
    refine (flush_fails hd hdn hfz).mono ?_
    rintro x w' ⟨rfl, hd', hc⟩
    exact ⟨rfl, pair_d hd hf hd' (hc.mono fun k _ e => .inl e)⟩
  | ok hdn hfz =>
    refine (flush_any hd hdn hfz).mono ?_
    rintro x w' ⟨rfl, hd', hc⟩
    exact ⟨rfl, pair_d hd hf hd' hc⟩
theorem pair_rflush {e : Int} (h : Pair w B b bl bn r md mr) (hw : FCase mr e m') (hpos : 0 < mr.last.length) :
    Calls Try.prog 22 #[.pointer (some ⟨r, 0, none⟩)] w fun x w' => x = .returned (.int .i64 e) ∧ Pair w' B b bl bn r md m' ∧ Ch (Mine w B) w w' := by
  obtain ⟨pv, dv, rpv, hd, hf⟩ := h
  cases hw with
  | down hdn =>
    refine (rflush_down hf hdn).mono ?_
    rintro x w' ⟨rfl, rfl⟩
    exact ⟨rfl, ⟨pv, dv, rpv, hd, hf⟩, Ch.refl _ _⟩
  | fails hdn hfz =>
    refine (rflush_fails hf hdn hfz).mono ?_
    rintro x w' ⟨rfl, hd', hc⟩
    exact ⟨rfl, pair_r hd hf hd' (hc.mono fun k _ e => .inl e)⟩
  | ok hdn hfz =>
    refine (rflush_ok hf hdn hfz hpos).mono ?_
    rintro x w' ⟨rfl, hd', hc⟩
    exact ⟨rfl, pair_r hd hf hd' hc⟩
theorem pair_stop {n e : Int} (h : Pair w B b bl bn r md mr) (hw : SCase md n e m') (h1 : n ≤ 9223372036854775807) :
    Calls Try.prog 23 #[.pointer (some ⟨b, 0, none⟩), .int .i64 n] w fun x w' => x = .returned (.int .i64 e) ∧ Pair w' B b bl bn r m' mr ∧ Ch (Mine w B) w w' := by
  obtain ⟨pv, dv, rpv, hd, hf⟩ := h
  cases hw with
  | down hdn =>
    refine (stop_down hd n hdn).mono ?_
    rintro x w' ⟨rfl, rfl⟩
    exact ⟨rfl, ⟨pv, dv, rpv, hd, hf⟩, Ch.refl _ _⟩
  | neg hdn hn =>
    refine (stop_neg hd n hdn hn).mono ?_
    rintro x w' ⟨rfl, rfl⟩
    exact ⟨rfl, ⟨pv, dv, rpv, hd, hf⟩, Ch.refl _ _⟩
  | ok hdn hn =>
    refine (stop_ok hd n hdn hn h1).mono ?_
    rintro x w' ⟨rfl, hd', hc⟩
    exact ⟨rfl, pair_d hd hf hd' (hc.mono fun k _ e => .inl e)⟩
theorem pair_rstop {n e : Int} (h : Pair w B b bl bn r md mr) (hw : SCase mr n e m') (h1 : n ≤ 9223372036854775807) :
    Calls Try.prog 24 #[.pointer (some ⟨r, 0, none⟩), .int .i64 n] w fun x w' => x = .returned (.int .i64 e) ∧ Pair w' B b bl bn r md m' ∧ Ch (Mine w B) w w' := by
  obtain ⟨pv, dv, rpv, hd, hf⟩ := h
  cases hw with
  | down hdn =>
    refine (rstop_down hf n hdn).mono ?_
    rintro x w' ⟨rfl, rfl⟩
    exact ⟨rfl, ⟨pv, dv, rpv, hd, hf⟩, Ch.refl _ _⟩
  | neg hdn hn =>
    refine (rstop_neg hf n hdn hn).mono ?_
    rintro x w' ⟨rfl, rfl⟩
    exact ⟨rfl, ⟨pv, dv, rpv, hd, hf⟩, Ch.refl _ _⟩
  | ok hdn hn =>
    refine (rstop_ok hf n hdn hn h1).mono ?_
    rintro x w' ⟨rfl, hd', hc⟩
    exact ⟨rfl, pair_r hd hf hd' (hc.mono fun k _ e => .inl e)⟩
theorem pair_crash {KA : Option Addr} {kl kc : Nat} {ks : List Int} (h : Pair w B b bl bn r md mr) (hks : RdI w KA kl ks) (hkb : kl ≤ 9223372036854775807) (near : 0 < kl → ∀ ad, KA = some ad → ad.block < B) :
    Calls Try.prog 9 #[.pointer (some ⟨b, 0, none⟩), .slice KA kl kc] w fun x w' => x = .returned (.tuple #[]) ∧ Pair w' B b bl bn r (md.crash ks) mr ∧ Ch (Mine w B) w w' := by
  obtain ⟨pv, dv, rpv, hd, hf⟩ := h
  refine (crash_any hd hks hkb fun h0 ad e hk => by have := near h0 ad e; have := (hd.foot _ hk).1; omega).mono ?_
  rintro x w' ⟨rfl, hd', hc⟩
  exact ⟨rfl, pair_d hd hf hd' hc⟩
theorem pair_rcrash {KA : Option Addr} {kl kc : Nat} {ks : List Int} (h : Pair w B b bl bn r md mr) (hpos : 0 < mr.last.length) (hks : RdI w KA kl ks) (hkb : kl ≤ 9223372036854775807) (near : 0 < kl → ∀ ad, KA = some ad → ad.block < B) :
    Calls Try.prog 25 #[.pointer (some ⟨r, 0, none⟩), .slice KA kl kc] w fun x w' => x = .returned (.tuple #[]) ∧ Pair w' B b bl bn r md (mr.crash ks) ∧ Ch (Mine w B) w w' := by
  obtain ⟨pv, dv, rpv, hd, hf⟩ := h
  refine (rcrash_ok hf hpos hks hkb fun h0 ad e hk => by have := near h0 ad e; have := (hf.foot _ hk).1; omega).mono ?_
  rintro x w' ⟨rfl, hd', hc⟩
  exact ⟨rfl, pair_r hd hf hd' hc⟩
end

/-- The invariant: what is seen is what lies, with the pending writes laid over it. -/
structure DM.Sound (m : DM) : Prop where
  lays : m.now = lay m.last m.pend
  pos : 0 < m.last.length
theorem WCase.sound {m m' : DM} {a e : Int} {bs : List UInt8} (h : WCase m a bs e m') (hs : m.Sound) : m'.Sound ∧ m'.pend.length ≤ m.pend.length + 1 ∧ m'.last.length = m.last.length := by
  cases h with
  | down => exact ⟨hs, by omega, rfl⟩
  | arg => exact ⟨hs, by omega, rfl⟩
  | long => exact ⟨hs, by omega, rfl⟩
  | fails => exact ⟨⟨hs.lays, hs.pos⟩, by simp [DM.fails], rfl⟩
  | ok h k ha hk hl hf =>
    refine ⟨⟨?_, hs.pos⟩, by simp [DM.put], rfl⟩
    show m.now.set k (pad bs) = lay m.last (m.pend ++ [(k, pad bs)])
    rw [lay_snoc, hs.lays]
theorem FCase.sound {m m' : DM} {e : Int} (h : FCase m e m') (hs : m.Sound) : m'.Sound ∧ m'.pend.length ≤ m.pend.length + 1 ∧ m'.last.length = m.last.length := by
  cases h with
  | down => exact ⟨hs, by omega, rfl⟩
  | fails => exact ⟨⟨hs.lays, hs.pos⟩, by simp [DM.fails], rfl⟩
  | ok h hf => exact ⟨⟨hs.lays, by simp [DM.flush, DM.burn, lay_length]; exact hs.pos⟩, by simp [DM.flush], by simp [DM.flush, DM.burn, lay_length]⟩
theorem SCase.sound {m m' : DM} {n e : Int} (h : SCase m n e m') (hs : m.Sound) : m'.Sound ∧ m'.pend.length ≤ m.pend.length + 1 ∧ m'.last.length = m.last.length := by
  cases h with
  | down => exact ⟨hs, by omega, rfl⟩
  | neg => exact ⟨hs, by omega, rfl⟩
  | ok => exact ⟨⟨hs.lays, hs.pos⟩, by simp [DM.stop], rfl⟩
theorem DM.Sound.crash {m : DM} (ks : List Int) (hs : m.Sound) : (m.crash ks).Sound ∧ (m.crash ks).pend.length ≤ m.pend.length + 1 ∧ (m.crash ks).last.length = m.last.length :=
  ⟨⟨rfl, by simp [DM.crash, crashed_length]; exact hs.pos⟩, by simp [DM.crash], by simp [DM.crash, crashed_length]⟩
theorem DM.Sound.new {n : Nat} (h : 16 ≤ n) : (DM.new n).Sound := ⟨rfl, by simp [DM.new]; omega⟩

/-- string(b) of a byte slice that reads as bs. -/
theorem conv_rd {w : World} {A : Option Addr} {n c : Nat} {bs : List UInt8} (h : RdB w A n bs) : (convert 22 9 (.slice A n c)).run Try.prog w = .ok (.string (strS bs)) w := by
  rw [run_convert_bytes_string w 22 9 5 _ n c Try.underlying22 Try.underlying5 Try.underlying9]
  have hl := h.1
  rcases A with _ | ad
  · have : bs = [] := List.eq_nil_of_length_eq_zero (by
      rcases Nat.eq_zero_or_pos n with h0 | h0
      · omega
      · obtain ⟨ad, h1, _⟩ := h.2 h0; cases h1)
    subst this
    simp [Conv.bytesToString, strS]
    rfl
  · have hx : (loadCells ad n).run Try.prog w = .ok ((bs.map fun c => (c.toNat : Int)).map (Value.int .u8)).toArray w := by
      have := run_loadCells_list (P := Try.prog) w ad (secC bs) (fun j v hj => by
        obtain ⟨ad', h1, _, h2⟩ := h.2 (by have := (List.getElem?_eq_some_iff.1 hj).1; rw [secC_length] at this; omega)
        injection h1 with h1; subst h1
        exact h2 j v hj)
      rw [secC_length, hl] at this
      rw [this]
      simp [secC, bC, Function.comp_def]
    rw [run_bytesToString w _ n c _ hx, foldl_push_bytes]
    congr 2
    apply ByteArray.ext
    simp [strS, ByteArray.empty, ByteArray.emptyWithCapacity, Function.comp_def]
    rfl
end Go.Proofs.Ythflabmfieobdaa
