/- small, disk and step. -/
import Derived.Test.YthflabmfieobdaaWh
namespace Go.Proofs.Ythflabmfieobdaa
open Go.RowKit
set_option linter.unusedVariables false
set_option linter.unusedSimpArgs false

/-- One operation that came in. -/
structure DOp where
  kind : Int
  sec : Int
  da : Option Addr
  dl : Nat
  dc : Nat
  bs : List UInt8
  n : Int
  ka : Option Addr
  kl : Nat
  kc : Nat
  ks : List Int
def DOp.cells (o : DOp) : List Value := [.int .u8 o.kind, .int .i64 o.sec, .slice o.da o.dl o.dc, .int .i64 o.n, .slice o.ka o.kl o.kc]
structure DOp.Ok (w : World) (o : DOp) : Prop where
  k0 : 0 ≤ o.kind
  k1 : o.kind ≤ 255
  data : RdB w o.da o.dl o.bs
  keep : RdI w o.ka o.kl o.ks
  n1 : o.n ≤ 9223372036854775807
  kl1 : o.kl ≤ 9223372036854775807
  dl1 : o.dl ≤ 9223372036854775807
theorem RdI.below {w w' : World} {A : Option Addr} {n : Nat} {bs : List Int} (h : RdI w A n bs) (hc : Below w.heap.size w w') : RdI w' A n bs :=
  ⟨h.1, fun hn => by
    obtain ⟨ad, rfl, hlt, hcell⟩ := h.2 hn
    refine ⟨ad, rfl, Nat.lt_of_lt_of_le hlt hc.size, fun j hj => ?_⟩
    rw [World.cell?_of_block (w := w) (a := ad.add j) (by rw [add_block]; exact hc.block _ hlt)]
    exact hcell j hj⟩
theorem RdB.near {w : World} {A : Option Addr} {n : Nat} {bs : List UInt8} (h : RdB w A n bs) : 0 < n → ∀ ad, A = some ad → ad.block < w.heap.size := fun h0 ad e => by
  obtain ⟨ad', h1, h2, _⟩ := h.2 h0
  rw [e] at h1; injection h1 with h1; subst h1; exact h2
theorem RdI.near {w : World} {A : Option Addr} {n : Nat} {bs : List Int} (h : RdI w A n bs) : 0 < n → ∀ ad, A = some ad → ad.block < w.heap.size := fun h0 ad e => by
  obtain ⟨ad', h1, h2, _⟩ := h.2 h0
  rw [e] at h1; injection h1 with h1; subst h1; exact h2

/-- What a step leaves. -/
def Stepped (w0 w : World) (b bl bn r : Nat) (m : DM) (w' : World) : Prop :=
  ∃ m', Pair w' w0.heap.size b bl bn r m' m' ∧ m'.Sound ∧ m'.pend.length ≤ m.pend.length + 1 ∧ m'.last.length = m.last.length ∧ Below w0.heap.size w0 w'
theorem mine_below {w0 w w' : World} (hb : Below w0.heap.size w0 w) (hc : Ch (Mine w w0.heap.size) w w') : Below w0.heap.size w0 w' :=
  hb.trans (hc.toBelow hb.size fun k hk => hk.1)
theorem mine_box {w w' : World} {B o : Nat} {cs : Array Value} (hc : Ch (Mine w B) w w') (h : Blk w o 43 cs) : Blk w' o 43 cs := h.ch hc fun hk => hk.2 ⟨cs, h⟩

set_option maxRecDepth 100000 in
set_option maxHeartbeats 1000000 in
theorem step_flush {w0 w : World} {b bl bn r : Nat} {m : DM} {o : DOp} (h : Pair w w0.heap.size b bl bn r m m) (hs : m.Sound) (hb : Below w0.heap.size w0 w) (ho : o.Ok w0) (hk : o.kind.tmod 5 = 2) :
    Calls Try.prog 14 #[.pointer (some ⟨b, 0, none⟩), .pointer (some ⟨r, 0, none⟩), .agg o.cells.toArray] w fun e w' => e = .returned (.bool true) ∧ Stepped w0 w b bl bn r m w' := by
  obtain ⟨e1, m', hw⟩ := fcase m
  have hs' := hid (hw.sound hs)
  have hw := hid hw
  have H := hid (h.below ((Below.refl w.heap.size w).alloc (Nat.le_refl _) (.cells o.cells.toArray 43)))
  have Hb := hid (hb.alloc hb.size (.cells o.cells.toArray 43))
  have Hs := hid hs
  have k0 := ho.k0
  have k1 := ho.k1
  unfold DOp.cells at *
  clear h hb ho hs
  go_enter Try.func14, Try.ntmps14
  go_wp2_with fail
  refine (pair_flush H.out hw.out).mono ?_
  rintro x w1 ⟨rfl, h1, c1⟩
  have H1 := hid h1
  have Hb1 := hid (mine_below Hb.out c1)
  clear h1 c1
  go_wp2_with fail
  refine (pair_rflush H1.out hw.out Hs.out.pos).mono ?_
  rintro x w2 ⟨rfl, h2, c2⟩
  have H2 := hid h2
  have Hb2 := hid (mine_below Hb1.out c2)
  clear h2 c2
  go_wp2
  go_ret
  exact ⟨rfl, m', H2.out, hs'.out.1, hs'.out.2.1, hs'.out.2.2, Hb2.out⟩

set_option maxRecDepth 100000 in
set_option maxHeartbeats 1000000 in
theorem step_crash {w0 w : World} {b bl bn r : Nat} {m : DM} {o : DOp} (h : Pair w w0.heap.size b bl bn r m m) (hs : m.Sound) (hb : Below w0.heap.size w0 w) (ho : o.Ok w0) (hk : o.kind.tmod 5 = 4) :
    Calls Try.prog 14 #[.pointer (some ⟨b, 0, none⟩), .pointer (some ⟨r, 0, none⟩), .agg o.cells.toArray] w fun e w' => e = .returned (.bool true) ∧ Stepped w0 w b bl bn r m w' := by
  have hs' := hid (hs.crash o.ks)
  have H := hid (h.below ((Below.refl w.heap.size w).alloc (Nat.le_refl _) (.cells o.cells.toArray 43)))
  have Hb := hid (hb.alloc hb.size (.cells o.cells.toArray 43))
  have Hx : Hid (Blk (w.alloc (.cells o.cells.toArray 43)) w.heap.size 43 o.cells.toArray) := hid (Blk.new w 43 _)
  have Hs := hid hs
  have Ho := hid ho
  have k0 := ho.k0
  have k1 := ho.k1
  unfold DOp.cells at *
  clear h hb ho hs
  go_enter Try.func14, Try.ntmps14
  go_wp2_with fail
  refine (pair_crash H.out (Ho.out.keep.below Hb.out) Ho.out.kl1 Ho.out.keep.near).mono ?_
  rintro x w1 ⟨rfl, h1, c1⟩
  have H1 := hid h1
  have Hb1 := hid (mine_below Hb.out c1)
  have hx1 := (mine_box c1 Hx.out).cell 4
  clear h1 c1
  go_wp2_with fail
  refine (pair_rcrash H1.out Hs.out.pos (Ho.out.keep.below Hb1.out) Ho.out.kl1 Ho.out.keep.near).mono ?_
  rintro x w2 ⟨rfl, h2, c2⟩
  have H2 := hid h2
  have Hb2 := hid (mine_below Hb1.out c2)
  clear h2 c2
  go_wp2
  go_ret
  exact ⟨rfl, _, H2.out, hs'.out.1, hs'.out.2.1, hs'.out.2.2, Hb2.out⟩

set_option maxRecDepth 100000 in
set_option maxHeartbeats 1000000 in
theorem step_stop {w0 w : World} {b bl bn r : Nat} {m : DM} {o : DOp} (h : Pair w w0.heap.size b bl bn r m m) (hs : m.Sound) (hb : Below w0.heap.size w0 w) (ho : o.Ok w0) (hk : o.kind.tmod 5 = 3) :
    Calls Try.prog 14 #[.pointer (some ⟨b, 0, none⟩), .pointer (some ⟨r, 0, none⟩), .agg o.cells.toArray] w fun e w' => e = .returned (.bool true) ∧ Stepped w0 w b bl bn r m w' := by
  obtain ⟨e1, m', hw⟩ := scase m o.n
  have hs' := hid (hw.sound hs)
  have hw := hid hw
  have H := hid (h.below ((Below.refl w.heap.size w).alloc (Nat.le_refl _) (.cells o.cells.toArray 43)))
  have Hb := hid (hb.alloc hb.size (.cells o.cells.toArray 43))
  have Hx : Hid (Blk (w.alloc (.cells o.cells.toArray 43)) w.heap.size 43 o.cells.toArray) := hid (Blk.new w 43 _)
  have Hs := hid hs
  have Ho := hid ho
  have k0 := ho.k0
  have k1 := ho.k1
  unfold DOp.cells at *
  clear h hb ho hs
  go_enter Try.func14, Try.ntmps14
  go_wp2_with fail
  have q3 := Hx.out.cell 3
  go_region_held3 (fun w' => w'.cell? ⟨w.heap.size, 3, none⟩ = some (.int .i64 o.n)) (first | go_keep | exact q13 | exact q23) (first | (go_at_call 23; refine (pair_stop (H.out.below ((Below.refl _ _).drew)) hw.out Ho.out.n1).mono ?_; rintro x w1 ⟨rfl, h1, c1⟩; have q13 := (mine_box c1 Hx.out).cell 3) | (go_at_call 24; refine (pair_rstop h1 hw.out Ho.out.n1).mono ?_; rintro x w2 ⟨rfl, h2, c2⟩; have q23 := (mine_box c2 (mine_box c1 Hx.out)).cell 3))
  go_wp2
  go_ret
  exact ⟨rfl, m', h2, hs'.out.1, hs'.out.2.1, hs'.out.2.2, mine_below (mine_below (Hb.out.drew) c1) c2⟩

set_option maxRecDepth 100000 in
set_option maxHeartbeats 1000000 in
theorem step_write {w0 w : World} {b bl bn r : Nat} {m : DM} {o : DOp} (h : Pair w w0.heap.size b bl bn r m m) (hs : m.Sound) (hb : Below w0.heap.size w0 w) (ho : o.Ok w0) (hmany : m.pend.length < 1000000) (hk : o.kind.tmod 5 = 1) :
    Calls Try.prog 14 #[.pointer (some ⟨b, 0, none⟩), .pointer (some ⟨r, 0, none⟩), .agg o.cells.toArray] w fun e w' => e = .returned (.bool true) ∧ Stepped w0 w b bl bn r m w' := by
  obtain ⟨e1, m', hw⟩ := wcase m o.sec o.bs
  have hs' := hid (hw.sound hs)
  have hw := hid hw
  have H := hid (h.below ((Below.refl w.heap.size w).alloc (Nat.le_refl _) (.cells o.cells.toArray 43)))
  have Hb := hid (hb.alloc hb.size (.cells o.cells.toArray 43))
  have Hx : Hid (Blk (w.alloc (.cells o.cells.toArray 43)) w.heap.size 43 o.cells.toArray) := hid (Blk.new w 43 _)
  have Hs := hid hs
  have Ho := hid ho
  have k0 := ho.k0
  have k1 := ho.k1
  unfold DOp.cells at *
  clear h hb ho hs
  go_enter Try.func14, Try.ntmps14
  go_wp2_with fail
  have q1 := Hx.out.cell 1
  have q2 := Hx.out.cell 2
  have q3 := conv_rd (c := o.dc) (Ho.out.data.below Hb.out.drew)
  have q01 := And.intro q1 (And.intro q2 q3)
  go_region_held3 (fun w' => w'.cell? ⟨w.heap.size, 1, none⟩ = some (.int .i64 o.sec) ∧ w'.cell? ⟨w.heap.size, 2, none⟩ = some (.slice o.da o.dl o.dc) ∧ (convert 22 9 (.slice o.da o.dl o.dc)).run Try.prog w' = .ok (.string (strS o.bs)) w') (first | exact q01 | exact q11 | exact q21) (first | (go_at_call 7; refine (pair_write (H.out.below ((Below.refl _ _).drew)) hw.out (Ho.out.data.below Hb.out.drew) Ho.out.data.near hmany).mono ?_; rintro x w1 ⟨rfl, h1, c1⟩; have q11 := And.intro ((mine_box c1 Hx.out).cell 1) (And.intro ((mine_box c1 Hx.out).cell 2) (conv_rd (c := o.dc) (Ho.out.data.below (mine_below Hb.out.drew c1))))) | (go_at_call 21; refine (pair_rwrite h1 hw.out hmany).mono ?_; rintro x w2 ⟨rfl, h2, c2⟩; have q21 := And.intro ((mine_box c2 (mine_box c1 Hx.out)).cell 1) (And.intro ((mine_box c2 (mine_box c1 Hx.out)).cell 2) (conv_rd (c := o.dc) (Ho.out.data.below (mine_below (mine_below Hb.out.drew c1) c2))))))
  all_goals
    go_wp2
    go_ret
    exact ⟨rfl, m', h2, hs'.out.1, hs'.out.2.1, hs'.out.2.2, mine_below (mine_below (Hb.out.drew) c1) c2⟩

theorem own_rd {w : World} {B n : Nat} {v : Value} {bs : List UInt8} (h : w.ownsRow B 5 1 v n (secC bs)) (hn : 0 < n) : ∃ g cap, v = .slice (some ⟨g, 0, none⟩) n cap ∧ RdB w (some ⟨g, 0, none⟩) n bs := by
  obtain ⟨g, cap, rfl, _, _⟩ := h.form (by omega)
  refine ⟨g, cap, rfl, ?_, fun _ => ⟨_, rfl, h.lt g rfl |>.2, fun j u hu => h.cells (g := g) rfl j u hu⟩⟩
  have := h.1
  rw [secC_length] at this
  omega

set_option maxRecDepth 100000 in
set_option maxHeartbeats 1000000 in
theorem step_read {w0 w : World} {b bl bn r : Nat} {m : DM} {o : DOp} (h : Pair w w0.heap.size b bl bn r m m) (hs : m.Sound) (hb : Below w0.heap.size w0 w) (k0 : 0 ≤ o.kind) (k1 : o.kind ≤ 255) (hk : o.kind.tmod 5 = 0) :
    Calls Try.prog 14 #[.pointer (some ⟨b, 0, none⟩), .pointer (some ⟨r, 0, none⟩), .agg o.cells.toArray] w fun e w' => e = .returned (.bool true) ∧ Stepped w0 w b bl bn r m w' := by
  have hst : ∀ w', Pair w' w0.heap.size b bl bn r m m → Below w0.heap.size w0 w' → Stepped w0 w b bl bn r m w' := fun w' h1 h2 => ⟨m, h1, hs, by omega, rfl, h2⟩
  have H := hid (h.below ((Below.refl w.heap.size w).alloc (Nat.le_refl _) (.cells o.cells.toArray 43)))
  have Hb := hid (hb.alloc hb.size (.cells o.cells.toArray 43))
  have Hx : Hid (Blk (w.alloc (.cells o.cells.toArray 43)) w.heap.size 43 o.cells.toArray) := hid (Blk.new w 43 _)
  have Hs := hid hs
  have Hst := hid hst
  unfold DOp.cells at *
  clear h hb hs hst
  obtain ⟨pv, dv, rpv, hd, hf⟩ := H.out
  cases hdn : m.down
  · by_cases ha : o.sec < 0 ∨ (m.last.length : Int) ≤ o.sec
    · have e1 : placeE m.down o.sec m.last.length = 1 := by simp [placeE, hdn, ha]
      have c1 := hid (read_no hd o.sec (by rw [e1]; decide))
      rw [e1] at c1
      have c2 := hid (rread_arg hf o.sec hdn ha)
      have c3 := fun w => run_convert_bytes_nil (P := Try.prog) w 22 5 Try.underlying22 Try.underlying5 0 0 9 Try.underlying9
      clear hd hf ha e1
      go_enter Try.func14, Try.ntmps14
      go_wp2_with fail
      refine c1.out.mono ?_
      rintro x w1 ⟨rfl, rfl⟩
      go_wp2_with fail
      refine c2.out.mono ?_
      rintro x w1 ⟨rfl, rfl⟩
      go_wp2
      go_ret
      exact ⟨rfl, Hst.out _ H.out Hb.out⟩
    · obtain ⟨k, hk'⟩ := Int.eq_ofNat_of_zero_le (show 0 ≤ o.sec by omega)
      rw [hk'] at ha Hx H Hb hd hf ⊢
      have hkl : k < m.last.length := by omega
      have hkn : k < m.now.length := by rw [hd.ok.len]; exact hkl
      have hsn : m.now[k]? = some (m.now.getD k []) := by rw [List.getD_eq_getElem?_getD, List.getElem?_eq_getElem hkn]; rfl
      have hss : seen m m.pend.length k = m.now.getD k [] := by rw [seen, List.take_length, ← Hs.out.lays]
      have c1 := hid (read_ok hd hdn k _ hsn)
      generalize m.now.getD k [] = s at *
      have c2 := hid (fun w1 (hb : Below (w.alloc (.cells #[.int .u8 o.kind, .int .i64 (k : Int), .slice o.da o.dl o.dc, .int .i64 o.n, .slice o.ka o.kl o.kc] 43)).heap.size (w.alloc (.cells #[.int .u8 o.kind, .int .i64 (k : Int), .slice o.da o.dl o.dc, .int .i64 o.n, .slice o.ka o.kl o.kc] 43)) w1) => rread_ok (hf.below hb) k hkl hdn)
      rw [hss] at c2
      clear hd hf ha hsn hss hkn hkl
      go_enter Try.func14, Try.ntmps14
      go_wp2_with fail
      refine c1.out.mono ?_
      rintro x w1 ⟨v, rfl, hv, hb1⟩
      obtain ⟨g, cap, rfl, hrd⟩ := own_rd hv (by omega)
      have Hb1 := hid hb1
      have hx1 := (Hx.out.below hb1 (by simp)).cell 1
      have c3 := conv_rd (c := cap) hrd
      have Hc3 := hid c3
      clear hv hb1 hrd c3
      go_wp2_with fail
      refine (c2.out w1 Hb1.out).mono ?_
      rintro x w2 ⟨rfl, rfl⟩
      have c3 := Hc3.out
      go_wp2
      go_ret
      exact ⟨rfl, Hst.out _ (H.out.below Hb1.out) (Hb.out.trans (Hb1.out.mono Hb.out.size))⟩
  · have e1 : placeE m.down o.sec m.last.length = 90 := by simp [placeE, hdn]
    have c1 := hid (read_no hd o.sec (by rw [e1]; decide))
    rw [e1] at c1
    have c2 := hid (rread_down hf o.sec hdn)
    have c3 := fun w => run_convert_bytes_nil (P := Try.prog) w 22 5 Try.underlying22 Try.underlying5 0 0 9 Try.underlying9
    clear hd hf e1
    go_enter Try.func14, Try.ntmps14
    go_wp2_with fail
    refine c1.out.mono ?_
    rintro x w1 ⟨rfl, rfl⟩
    go_wp2_with fail
    refine c2.out.mono ?_
    rintro x w1 ⟨rfl, rfl⟩
    go_wp2
    go_ret
    exact ⟨rfl, Hst.out _ H.out Hb.out⟩

theorem step_ok {w0 w : World} {b bl bn r : Nat} {m : DM} {o : DOp} (h : Pair w w0.heap.size b bl bn r m m) (hs : m.Sound) (hb : Below w0.heap.size w0 w) (ho : o.Ok w0) (hmany : m.pend.length < 1000000) :
    Calls Try.prog 14 #[.pointer (some ⟨b, 0, none⟩), .pointer (some ⟨r, 0, none⟩), .agg o.cells.toArray] w fun e w' => e = .returned (.bool true) ∧ Stepped w0 w b bl bn r m w' := by
  have k0 := ho.k0
  have k1 := ho.k1
  rcases (show o.kind.tmod 5 = 0 ∨ o.kind.tmod 5 = 1 ∨ o.kind.tmod 5 = 2 ∨ o.kind.tmod 5 = 3 ∨ o.kind.tmod 5 = 4 by rw [Int.tmod_eq_emod_of_nonneg k0]; omega) with hk | hk | hk | hk | hk
  · exact step_read h hs hb k0 k1 hk
  · exact step_write h hs hb ho hmany hk
  · exact step_flush h hs hb ho hk
  · exact step_stop h hs hb ho hk
  · exact step_crash h hs hb ho hk
end Go.Proofs.Ythflabmfieobdaa
