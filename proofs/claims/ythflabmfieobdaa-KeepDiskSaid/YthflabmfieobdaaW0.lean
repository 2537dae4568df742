/- Words for a disk in memory. -/
import Derived.Test.YthflabmfieobdaaRows
import Derived.WalkKit
import Derived.WalkSpells
import Derived.WalkLawsBesides
import Derived.Laws.Rows
import Derived.Laws.CopyOwn
import Derived.Laws.CopyRow
import Derived.Deep.QuietTactic
import Derived.BigQuiet
import Derived.StillTailTactics
import Derived.Deep.RegionHeld3
import Derived.Deep.MidRow
import Derived.Deep.AppendLies
namespace Go.Proofs.Ythflabmfieobdaa
open Go.RowKit

/-- A fact that the walk does not look into. -/
theorem hid {p : Prop} (h : p) : Hid p := h

/-- The world is the old one but for blocks in S and new ones. -/
structure Ch (S : Nat → Prop) (w w' : World) : Prop where
  os : w'.os = w.os
  tape : w'.tape = w.tape
  output : w'.output = w.output
  size : w.heap.size ≤ w'.heap.size
  block : ∀ k, k < w.heap.size → ¬ S k → w'.heap[k]? = w.heap[k]?
theorem Ch.refl (S : Nat → Prop) (w : World) : Ch S w w := ⟨rfl, rfl, rfl, Nat.le_refl _, fun _ _ _ => rfl⟩
theorem Ch.trans {S : Nat → Prop} {a b c : World} (h : Ch S a b) (k : Ch S b c) : Ch S a c :=
  ⟨k.os.trans h.os, k.tape.trans h.tape, k.output.trans h.output, Nat.le_trans h.size k.size, fun i hi hs => (k.block i (Nat.lt_of_lt_of_le hi h.size) hs).trans (h.block i hi hs)⟩
theorem Ch.mono {S T : Nat → Prop} {w w' : World} (h : Ch S w w') (hs : ∀ k, k < w.heap.size → S k → T k) : Ch T w w' :=
  ⟨h.os, h.tape, h.output, h.size, fun i hi ht => h.block i hi fun hS => ht (hs i hi hS)⟩
theorem Ch.drew {S : Nat → Prop} {a w : World} (h : Ch S a w) : Ch S a w.drew := ⟨h.os, h.tape, h.output, h.size, h.block⟩
theorem Ch.alloc {S : Nat → Prop} {a w : World} (h : Ch S a w) (o : Obj) : Ch S a (w.alloc o) :=
  h.trans ⟨rfl, rfl, rfl, by simp, fun k hk _ => Below.heap_alloc _ _ _ hk⟩
theorem Ch.setCell {S : Nat → Prop} {a w : World} (h : Ch S a w) {p : Addr} (hp : S p.block ∨ a.heap.size ≤ p.block) (u : Value) : Ch S a (w.setCell p u) :=
  ⟨h.os, h.tape, h.output, by simpa [World.setCell] using h.size, fun k hk hs => by
    rw [Below.heap_setCell _ _ _ _ (by rintro rfl; rcases hp with hp | hp; exact hs hp; omega)]; exact h.block k hk hs⟩
theorem Ch.grown {S : Nat → Prop} {a w w' : World} {row : Option Nat} (h : Ch S a w) (hg : w.grownBy w' row) (hr : ∀ k, row = some k → S k ∨ a.heap.size ≤ k) : Ch S a w' :=
  ⟨hg.os.trans h.os, hg.tape.trans h.tape, hg.output.trans h.output, Nat.le_trans h.size hg.size, fun k hk hs => by
    rw [hg.block k (Nat.lt_of_lt_of_le hk h.size) (fun e => by rcases hr k e.symm with hp | hp; exact hs hp; omega)]; exact h.block k hk hs⟩
theorem Ch.below {S : Nat → Prop} {a w w' : World} (h : Ch S a w) (hb : Below w.heap.size w w') : Ch S a w' :=
  ⟨hb.os.trans h.os, hb.tape.trans h.tape, hb.output.trans h.output, Nat.le_trans h.size hb.size, fun k hk hs => by
    rw [hb.block k (Nat.lt_of_lt_of_le hk h.size)]; exact h.block k hk hs⟩
theorem Ch.of_below {w w' : World} (hb : Below w.heap.size w w') (S : Nat → Prop) : Ch S w w' := (Ch.refl S w).below hb
theorem Ch.toBelow {S : Nat → Prop} {B : Nat} {w w' : World} (h : Ch S w w') (hB : B ≤ w.heap.size) (hs : ∀ k, S k → B ≤ k) : Below B w w' :=
  ⟨h.os, h.tape, h.output, h.size, fun k hk => h.block k (by omega) fun hS => by have := hs k hS; omega⟩

/-- Block g is just these cells. -/
def Blk (w : World) (g : Nat) (t : TypeId) (cs : Array Value) : Prop := w.heap[g]? = some (.cells cs t (0, 0))
section
variable {w w' : World} {g : Nat} {t : TypeId} {cs : Array Value}
theorem Blk.lt (h : Blk w g t cs) : g < w.heap.size := by
  rcases Nat.lt_or_ge g w.heap.size with hlt | hge
  · exact hlt
  · unfold Blk at h; rw [Array.getElem?_eq_none hge] at h; cases h
theorem Blk.cell (h : Blk w g t cs) (i : Nat) : w.cell? ⟨g, i, none⟩ = cs[i]? := cell_of_row w g i cs t (0, 0) h
theorem Blk.frozen (h : Blk w g t cs) (i : Nat) : w.frozen? ⟨g, i, none⟩ = false := by
  unfold Blk at h
  simp [World.frozen?, h]
theorem Blk.new (w : World) (t : TypeId) (cs : Array Value) : Blk (w.alloc (.cells cs t)) w.heap.size t cs := heap_alloc_new w _
theorem Blk.drew (h : Blk w g t cs) : Blk w.drew g t cs := h
theorem Blk.alloc (h : Blk w g t cs) (o : Obj) : Blk (w.alloc o) g t cs := (Below.heap_alloc w o g h.lt).trans h
theorem Blk.set_ (h : Blk w g t cs) (i : Nat) (u : Value) : Blk (w.setCell ⟨g, i, none⟩ u) g t (cs.setIfInBounds i u) := by
  unfold Blk at h ⊢
  simp [World.setCell, Array.getElem?_modify, h]
theorem Blk.far (h : Blk w g t cs) {p : Addr} (hp : g ≠ p.block) (u : Value) : Blk (w.setCell p u) g t cs := (Below.heap_setCell w p u g hp).trans h
theorem Blk.below {B : Nat} (h : Blk w g t cs) (hb : Below B w w') (hg : g < B) : Blk w' g t cs := (hb.block g hg).trans h
theorem Blk.grown {row : Option Nat} (h : Blk w g t cs) (hb : w.grownBy w' row) (hg : some g ≠ row) : Blk w' g t cs := (hb.block g h.lt hg).trans h
theorem Blk.ch {S : Nat → Prop} (h : Blk w g t cs) (hb : Ch S w w') (hg : ¬ S g) : Blk w' g t cs := (hb.block g h.lt hg).trans h
theorem Blk.ne_ {g' : Nat} {t' : TypeId} {cs' : Array Value} (h : Blk w g t cs) (h' : Blk w g' t' cs') (hne : t ≠ t') : g ≠ g' := by
  rintro rfl
  unfold Blk at h h'
  rw [h] at h'
  injection h' with h'
  injection h' with _ ht
  exact hne ht
theorem own_blk_ne {base : Nat} {e : TypeId} {size n : Nat} {v : Value} {xs : List Value} (h : w.ownsRow base e size v n xs) (hg : Blk w g t cs) (hne : e ≠ t) : v.ownBlock ≠ some g := by
  rcases h.2 with ⟨rfl, _⟩ | ⟨g', cap, cur, rfl, _, hh, _⟩
  · simp [Value.ownBlock]
  · intro he
    have : g' = g := by simpa [Value.ownBlock] using he
    subst this
    exact Blk.ne_ (t := e) hh hg hne rfl
end
theorem own_ch {S : Nat → Prop} {w w' : World} {base : Nat} {e : TypeId} {size n : Nat} {v : Value} {xs : List Value} (h : w.ownsRow base e size v n xs) (hb : Ch S w w') (hs : ∀ k, v.ownBlock = some k → ¬ S k) : w'.ownsRow base e size v n xs := by
  obtain ⟨h1, h2⟩ := h
  refine ⟨h1, ?_⟩
  rcases h2 with h2 | ⟨g, cap, cur, rfl, hg, hh, r⟩
  · exact Or.inl h2
  · refine Or.inr ⟨g, cap, cur, rfl, hg, ?_, r⟩
    rw [hb.block g ?_ (hs g rfl)]
    · exact hh
    · rcases Nat.lt_or_ge g w.heap.size with hlt | hge
      · exact hlt
      · rw [Array.getElem?_eq_none hge] at hh; cases hh

/-- A byte's cell; a sector's cells; those of sectors one behind the other; of pending writes. -/
def bC (c : UInt8) : Value := .int .u8 (c.toNat : Int)
def secC (s : List UInt8) : List Value := s.map bC
def flatC (xs : List (List UInt8)) : List Value := xs.flatMap secC
def putC (p : Nat × List UInt8) : List Value := .int .i64 (p.1 : Int) :: secC p.2
def pendC (ps : List (Nat × List UInt8)) : List Value := ps.flatMap putC
theorem secC_length (s : List UInt8) : (secC s).length = s.length := by simp [secC]
theorem secC_one (s : List UInt8) : ∀ v ∈ secC s, v.oneCell' = true := by
  intro v hv; simp only [secC, List.mem_map] at hv; obtain ⟨c, _, rfl⟩ := hv; rfl
theorem flatC_length : ∀ (xs : List (List UInt8)), (∀ s ∈ xs, s.length = 64) → (flatC xs).length = xs.length * 64
  | [], _ => rfl
  | s :: xs, h => by
    have := flatC_length xs (fun t ht => h t (by simp [ht]))
    simp only [flatC, List.flatMap_cons, List.length_append, secC_length, List.length_cons] at this ⊢
    rw [this, h s (by simp)]; omega
theorem flatC_at : ∀ (xs : List (List UInt8)), (∀ s ∈ xs, s.length = 64) → ∀ (k : Nat) (s : List UInt8), xs[k]? = some s → ∀ j v, (secC s)[j]? = some v → (flatC xs)[k * 64 + j]? = some v
  | [], _, k, s, hk => by simp at hk
  | x :: xs, h, 0, s, hk => by
    intro j v hv
    simp only [List.getElem?_cons_zero, Option.some.injEq] at hk
    subst hk
    have hj : j < (secC x).length := (List.getElem?_eq_some_iff.1 hv).1
    simp only [flatC, List.flatMap_cons, Nat.zero_mul, Nat.zero_add]
    rw [List.getElem?_append_left hj]; exact hv
  | x :: xs, h, k + 1, s, hk => by
    intro j v hv
    simp only [List.getElem?_cons_succ] at hk
    have := flatC_at xs (fun t ht => h t (by simp [ht])) k s hk j v hv
    have hx : (secC x).length = 64 := by rw [secC_length, h x (by simp)]
    simp only [flatC, List.flatMap_cons]
    rw [List.getElem?_append_right (by omega), hx]
    have e : (k + 1) * 64 + j - 64 = k * 64 + j := by omega
    rw [e]; exact this
theorem flatC_set : ∀ (xs : List (List UInt8)), (∀ s ∈ xs, s.length = 64) → ∀ (k : Nat) (s : List UInt8), k < xs.length → s.length = 64 → flatC (xs.set k s) = (flatC xs).take (k * 64) ++ (secC s ++ (flatC xs).drop (k * 64 + 64))
  | [], _, k, s, hk, _ => by simp at hk
  | x :: xs, h, 0, s, _, hs => by
    have hx : (secC x).length = 64 := by rw [secC_length, h x (by simp)]
    simp only [flatC, List.set_cons_zero, List.flatMap_cons, Nat.zero_mul, List.take_zero, List.nil_append, Nat.zero_add]
    rw [List.drop_append_of_le_length (by omega), List.drop_of_length_le (by omega), List.nil_append]
  | x :: xs, h, k + 1, s, hk, hs => by
    have ih := flatC_set xs (fun t ht => h t (by simp [ht])) k s (by simpa using hk) hs
    have hx : (secC x).length = 64 := by rw [secC_length, h x (by simp)]
    simp only [flatC, List.set_cons_succ, List.flatMap_cons] at ih ⊢
    rw [ih, List.take_append, List.drop_append]
    have e1 : List.take ((k + 1) * 64) (secC x) = secC x := List.take_of_length_le (by omega)
    have e2 : List.drop ((k + 1) * 64 + 64) (secC x) = [] := List.drop_of_length_le (by omega)
    rw [e1, e2, hx, show (k + 1) * 64 - 64 = k * 64 from by omega, show (k + 1) * 64 + 64 - 64 = k * 64 + 64 from by omega]
    simp
theorem pendC_snoc (ps : List (Nat × List UInt8)) (p : Nat × List UInt8) : pendC (ps ++ [p]) = pendC ps ++ putC p := by simp [pendC]
/-- A build of a struct, kept from the walk's own unfolding. -/
def bldRun (P : Program) (t : TypeId) (parts : Array (Nat × Value)) (w : World) : Result Next :=
  (do let v ← Instr.build t parts; pure (.value v) : Sem Next).run P w
theorem bld_pre {P : Program} {ρ : Operand → Value} {w : World} {d : Option Tmp} {t ty : TypeId} {parts : Array (Nat × Operand)} {pos : String} {af : Array Edge} {g : Option (Nat × Bool)} :
    (execOp ρ ⟨d, .build t parts, ty, pos, af, g⟩).run P w = bldRun P t (parts.map fun p => (p.1, ρ p.2)) w := rfl
/-- A slice literal, kept from the walk's own unfolding. -/
def bsRun (P : Program) (t : TypeId) (n : Nat) (parts : Array (Nat × Value)) (w : World) : Result Next :=
  (do let v ← Instr.buildSlice t n parts; pure (.value v) : Sem Next).run P w
theorem bs_pre {P : Program} {ρ : Operand → Value} {w : World} {d : Option Tmp} {t ty : TypeId} {n : Nat} {parts : Array (Nat × Operand)} {pos : String} {af : Array Edge} {g : Option (Nat × Bool)} :
    (execOp ρ ⟨d, .buildSlice t n parts, ty, pos, af, g⟩).run P w = bsRun P t n (parts.map fun p => (p.1, ρ p.2)) w := rfl
theorem foldl_set (off : Nat) : ∀ (l : List Value) (s : Nat) (xs : List Value), off + s + l.length ≤ xs.length →
    (l.zipIdx s).foldl (fun cs (x : Value × Nat) => cs.setIfInBounds (off + x.2) x.1) xs.toArray = (xs.take (off + s) ++ (l ++ xs.drop (off + s + l.length))).toArray
  | [], s, xs, _ => by simp
  | v :: l, s, xs, h => by
    simp only [List.zipIdx_cons, List.foldl_cons, List.setIfInBounds_toArray]
    simp only [List.length_cons] at h
    rw [foldl_set off l (s + 1) (xs.set (off + s) v) (by simp; omega)]
    congr 1
    have e := list_seg_step xs (off + s) v l (by omega)
    simpa [Nat.add_assoc, Nat.add_comm, Nat.add_left_comm] using e
theorem zipIdx_eq (cs : List Value) : List.mapIdx (fun i a => (a, i)) cs = cs.zipIdx := by simp [List.mapIdx_eq_zipIdx_map]
/-- A slice literal of one struct. -/
theorem bs_one {P : Program} (t e : TypeId) (sz : Nat) (ht : P.underlying t = some (.slice e)) (hi : (P.info? e).map (fun i => (i.zero.map (fun z => z.cells.size), i.size)) = some (some sz, sz)) (h0 : 0 < sz) (h1 : sz ≤ 16777216)
    (cs : List Value) (h : cs.length = sz) (w : World) : bsRun P t 1 #[(0, .agg cs.toArray)] w = .ok (.value (.slice (some ⟨w.heap.size, 0, none⟩) 1 1)) (w.alloc (.cells cs.toArray e)) := by
  obtain ⟨i, hi, hh⟩ := Option.map_eq_some_iff.1 hi
  simp only [Prod.mk.injEq] at hh
  obtain ⟨h2, h3⟩ := hh
  obtain ⟨z, hz, hzs⟩ := Option.map_eq_some_iff.1 h2
  have hf : ∀ X : Array Value, X.size = sz → Instr.fill (fun i => some (i * sz, sz)) X [(0, Value.agg cs.toArray)] = some cs.toArray := by
    intro X hX
    obtain ⟨xs⟩ := X
    have hx : xs.length = sz := by simpa using hX
    have := foldl_set 0 cs 0 xs (by omega)
    simp [Instr.fill, Value.cells, h, hx, zipIdx_eq] at this ⊢
    rw [this]
    simp [hx]
  have hr := hf ((Array.range (1 * sz)).map (z.cells[· % z.cells.size]!)) (by simp)
  have hne : ¬ (16777216 < sz) := by omega
  have hn0 : ¬ (sz = 0) := by omega
  simp [bsRun, Instr.buildSlice, run_underlying ht, sizeOf, typeInfo, hi, h3, zeroValue, hz, hne, hn0] at hr ⊢
  rw [hr]
  simp [newRow]
/-- A load, kept from the walk's own unfolding: made a rule at one type. -/
def ldRun (P : Program) (t : TypeId) (v : Value) (w : World) : Result Next :=
  (do let v ← Instr.loadAt t v; pure (.value v) : Sem Next).run P w
theorem ld_mid {P : Program} {w : World} (t : TypeId) (d : TypeDesc) (b o : Nat) (cs : List Value) (hc : w.rangeAt b o cs) (hu : P.underlying t = some d) (hd : d.isRow = true) (hi : (P.info? t).map (·.size) = some cs.length) :
    ldRun P t (.pointer (some ⟨b, o, none⟩)) w = .ok (.value (.agg cs.toArray)) w := by
  have := run_loadAt_mid (P := P) w b o t cs d hc hu hd hi
  simp [ldRun, Sem.run_bind, this]
end Go.Proofs.Ythflabmfieobdaa
