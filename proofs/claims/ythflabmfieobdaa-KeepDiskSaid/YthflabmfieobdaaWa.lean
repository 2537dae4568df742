/- The non-vacuity check of the disks. -/
import Derived.Test.YthflabmfieobdaaW9
import Derived.Laws.BytesArg
import Derived.Lib.SlBytesConst
namespace Go.Proofs.Ythflabmfieobdaa
open Go.RowKit

theorem DiskAt.form {w : World} {B b bl bn : Nat} {pv : Value} {m : DM} (h : DiskAt w B b bl bn pv m) : (pv = .slice none 0 0 ∧ m.pend = []) ∨ ∃ g cap, pv = .slice (some ⟨g, 0, none⟩) m.pend.length cap := by
  rcases h.own.2 with ⟨h1, h2⟩ | ⟨g, cap, cur, h1, _⟩
  · exact .inl ⟨h1, List.eq_nil_of_length_eq_zero h2⟩
  · exact .inr ⟨g, cap, h1⟩
theorem flush_any {w : World} {B b bl bn : Nat} {pv : Value} {m : DM} (h : DiskAt w B b bl bn pv m) (hdn : m.down = false) (hfz : m.fuse ≠ 0) :
    Calls Try.prog 8 #[.pointer (some ⟨b, 0, none⟩)] w fun e w' => e = .returned (.int .i64 0) ∧ DiskAt w' B b bl bn (.slice none 0 0) m.burn.flush ∧ Ch (Foot b bl bn pv) w w' := by
  rcases h.form with ⟨rfl, hp⟩ | ⟨g, cap, rfl⟩
  · exact flush_nil h hp hdn hfz
  · exact flush_ok h hdn hfz
theorem crash_any {w : World} {B b bl bn kl kc : Nat} {pv : Value} {KA : Option Addr} {ks : List Int} {m : DM} (h : DiskAt w B b bl bn pv m)
    (hks : RdI w KA kl ks) (hkb : kl ≤ 9223372036854775807) (hsep : 0 < kl → ∀ ad, KA = some ad → ¬ Foot b bl bn pv ad.block) :
    Calls Try.prog 9 #[.pointer (some ⟨b, 0, none⟩), .slice KA kl kc] w fun e w' => e = .returned (.tuple #[]) ∧ DiskAt w' B b bl bn (.slice none 0 0) (m.crash ks) ∧ Ch (Foot b bl bn pv) w w' := by
  rcases h.form with ⟨rfl, hp⟩ | ⟨g, cap, rfl⟩
  · exact crash_nil h hp
  · exact crash_ok h hks hkb hsep

theorem foot_below {w w' : World} {B b bl bn : Nat} {pv : Value} {m : DM} (h : DiskAt w B b bl bn pv m) (hc : Ch (Foot b bl bn pv) w w') (hB : B ≤ w.heap.size) : Below B w w' :=
  hc.toBelow hB fun k hk => (h.foot k hk).1
/-- A literal of bytes. -/
theorem rdB_lit (w : World) (bs : List UInt8) (C : Array Value) (hC : C = (secC bs).toArray) (fr : Nat × Nat) (n : Nat) (hn : n = bs.length) : RdB (w.alloc (.cells C 5 fr)) (some ⟨w.heap.size, 0, none⟩) n bs := by
  subst hC hn
  refine ⟨rfl, fun _ => ⟨_, rfl, by simp, fun j v hv => ?_⟩⟩
  have hb : (w.alloc (.cells (secC bs).toArray 5 fr)).heap[w.heap.size]? = some (.cells (secC bs).toArray 5 fr) := heap_alloc_new w _
  rw [Addr.add_mid, cell_of_row _ _ _ _ _ _ hb]; simpa using hv
theorem rdI_one (w : World) (x : Int) : RdI (w.alloc (.cells #[.int .i64 x] 3)) (some ⟨w.heap.size, 0, none⟩) 1 [x] := by
  refine ⟨rfl, fun _ => ⟨_, rfl, by simp, fun j hj => ?_⟩⟩
  obtain rfl : j = 0 := by omega
  have hb : (w.alloc (.cells #[.int .i64 x] 3)).heap[w.heap.size]? = some (.cells #[.int .i64 x] 3) := heap_alloc_new w _
  rw [Addr.add_mid, cell_of_row _ _ _ _ _ _ hb]; rfl
theorem own_cap {w : World} {B e size g n cap : Nat} {xs : List Value} (h : w.ownsRow B e size (.slice (some ⟨g, 0, none⟩) n cap) n xs) : n ≤ cap := by
  rcases h.2 with ⟨h1, _⟩ | ⟨g', cap', cur, h1, _, _, hc, _⟩
  · cases h1
  · injection h1 with _ _ h3; omega
def abc : List UInt8 := [97, 98, 99]
def xyz : List UInt8 := [120, 121, 122]
def dm1 : DM := (DM.new 16).put 0 abc
def dm2 : DM := dm1.burn.flush
def dm3 : DM := dm2.put 0 xyz
def dm4 : DM := dm3.crash [1]
def xbc : List UInt8 := [120, 98, 99] ++ List.replicate 61 0
theorem dm4_now : dm4.now[0]? = some xbc := by rfl


theorem abc_ok : dm1.Ok := (DM.Ok.new (by omega)).put (by simp [DM.new]) (by simp [abc]) (by simp [DM.new])

set_option maxRecDepth 100000 in
set_option maxHeartbeats 1000000 in
theorem disks_ok (w : World) : Calls Try.prog 5 #[] w fun e w' => e = .returned (.bool true) ∧ Below w.heap.size w w' := by
  have kc := fun (w : World) (C : Array Value) (n c : Nat) => Lib.run_convert_bytes_const (P := Try.prog) w 22 5 C n c Try.underlying22 Try.underlying5
  go_enter Try.func5, Try.ntmps5
  go_wp2_with fail
  refine (newdisk_no 15 w (.inl (by omega))).mono ?_
  rintro e w' ⟨rfl, rfl⟩
  go_wp2_with fail
  refine (newdisk_ok 16 w.heap.size w (by omega) (by omega) (Nat.le_refl _)).mono ?_
  rintro e w1 ⟨b, bl, bn, rfl, hd1, hb1⟩
  have Hd1 := hid hd1
  have Hb1 := hid hb1
  clear hd1 hb1
  go_wp2_with fail
  have hd1 := Hd1.out.below ((Below.refl w1.heap.size w1).alloc (Nat.le_refl _) (.cells #[.int .u8 97, .int .u8 98, .int .u8 99] 5 (3, 4)))
  refine (write_ok (k := 0) hd1 rfl (by decide) (by decide) _ 3 _ abc (rdB_lit w1 abc _ rfl _ _ rfl) (by omega) (fun _ ad e => by injection e with e; subst e; have := Hd1.out.blk.lt; simp; omega) (by decide)).mono ?_
  rintro e w2 ⟨rfl, pv2, hd2, hc2, hm2⟩
  have hb2 := ((Below.refl w1.heap.size w1).alloc (Nat.le_refl _) (.cells #[.int .u8 97, .int .u8 98, .int .u8 99] 5 (3, 4)))
  have Hb2 : Hid (Below w.heap.size w w2) := hid ((Hb1.out.trans (hb2.mono Hb1.out.size)).trans (foot_below hd1 hc2 (by have := Hb1.out.size; simp; omega)))
  have Hd2 : Hid (DiskAt w2 w.heap.size b bl bn pv2 dm1) := hid hd2
  clear hd1 hd2 hc2 hm2 hb2
  go_wp2_with fail
  refine (flush_any Hd2.out rfl (by decide)).mono ?_
  rintro e w3 ⟨rfl, hd3, hc3⟩
  have Hb3 : Hid (Below w.heap.size w w3) := hid (Hb2.out.trans (foot_below Hd2.out hc3 Hb2.out.size))
  have Hd3 : Hid (DiskAt w3 w.heap.size b bl bn (.slice none 0 0) dm2) := hid hd3
  clear hd3 hc3
  go_wp2_with fail
  have hd4 := Hd3.out.below ((Below.refl w3.heap.size w3).alloc (Nat.le_refl _) (.cells #[.int .u8 120, .int .u8 121, .int .u8 122] 5 (3, 4)))
  refine (write_ok (k := 0) hd4 rfl (by decide) (by decide) _ 3 _ xyz (rdB_lit w3 xyz _ rfl _ _ rfl) (by omega) (fun _ ad e => by injection e with e; subst e; have := Hd3.out.blk.lt; simp; omega) (by decide)).mono ?_
  rintro e w4 ⟨rfl, pv4, hd5, hc4, hm4⟩
  have hb4 := ((Below.refl w3.heap.size w3).alloc (Nat.le_refl _) (.cells #[.int .u8 120, .int .u8 121, .int .u8 122] 5 (3, 4)))
  have Hb4 : Hid (Below w.heap.size w w4) := hid ((Hb3.out.trans (hb4.mono Hb3.out.size)).trans (foot_below hd4 hc4 (by have := Hb3.out.size; simp; omega)))
  have Hd4 : Hid (DiskAt w4 w.heap.size b bl bn pv4 dm3) := hid hd5
  clear hd4 hd5 hc4 hm4 hb4
  go_wp2_with fail
  have hb5 := (Below.refl w4.heap.size w4).alloc (Nat.le_refl _) (.cells #[.int .i64 1] 3)
  have hd5 := Hd4.out.below hb5
  refine (crash_any hd5 (rdI_one w4 1) (by omega) (fun _ ad e hf => by injection e with e; subst e; have := (Hd4.out.foot _ hf).2; simp at this)).mono ?_
  rintro e w5 ⟨rfl, hd6, hc5⟩
  have Hb5 : Hid (Below w.heap.size w w5) := hid ((Hb4.out.trans (hb5.mono Hb4.out.size)).trans (foot_below hd5 hc5 (by have := Hb4.out.size; simp; omega)))
  have Hd5 : Hid (DiskAt w5 w.heap.size b bl bn (.slice none 0 0) dm4) := hid hd6
  clear hd5 hd6 hc5 hb5
  go_wp2_with fail
  refine (read_ok Hd5.out rfl 0 xbc dm4_now).mono ?_
  rintro e w6 ⟨v, rfl, ho, hb6⟩
  obtain ⟨g, cap, rfl, _, _⟩ := ho.form (by omega)
  have Hb6 : Hid (Below w.heap.size w w6) := hid (Hb5.out.trans (hb6.mono Hb5.out.size))
  have hstr := run_convert_bytes_arg (P := Try.prog) w6 22 5 Try.underlying22 Try.underlying5 g 0 4 cap [120, 98, 99, 0] rfl (fun i hi => by
    have := ho.cells (g := g) rfl i
    rw [Addr.add_mid] at this
    match i, hi with
    | 0, _ => exact this _ rfl
    | 1, _ => exact this _ rfl
    | 2, _ => exact this _ rfl
    | 3, _ => exact this _ rfl) 9 Try.underlying9
  have hcap := own_cap ho
  have hcap4 : (4 : Int) ≤ (cap : Int) := by omega
  have hst2 : (convert 22 9 (Value.slice (some ⟨g, 0, none⟩) 4 cap)).run Try.prog w6 = .ok (.string ⟨#[120, 98, 99, 0]⟩) w6 := hstr
  clear ho hb6 hstr
  go_wp2
  go_ret
  exact ⟨rfl, Hb6.out⟩
end Go.Proofs.Ythflabmfieobdaa
