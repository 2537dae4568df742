/- copy of rows of whatever element; Crash. -/
import Derived.Test.YthflabmfieobdaaW5
namespace Go.Proofs.Ythflabmfieobdaa
open Go.RowKit

theorem run_copy_rows {P : Program} (w : World) (dT sT ty elem : TypeId) (size g o dLen dCap : Nat) (a : Addr) (sLen sCap : Nat) (cur : Array Value) (t : TypeId) (cs : List Value)
    (hu : P.underlying dT = some (.slice elem)) (hs : (P.info? elem).map (·.size) = some size)
    (hg : w.heap[g]? = some (.cells cur t (0, 0))) (n : Nat) (hn : n = Nat.min sLen dLen) (hcs : cs.length = n * size)
    (hsrc : ∀ j v, cs[j]? = some v → w.cell? (a.add j) = some v) (hfit : o + cs.length ≤ cur.size) (h1 : ∀ v ∈ cs, v.oneCell' = true) :
    (Builtin.copy_ #[dT, sT] ty #[.slice (some ⟨g, o, none⟩) dLen dCap, .slice (some a) sLen sCap]).run P w =
      .ok (goInt n) (w.setRow g (cur.toList.take o ++ cs ++ cur.toList.drop (o + cs.length)).toArray) := by
  have hl := run_loadCells_list (P := P) w a cs hsrc
  have hst := run_storeCells_at P g o t cs 0 cur w hg (by simpa using hfit) h1
  cases hq : P.info? elem with
  | none => simp [hq] at hs
  | some i =>
    have hi : i.size = size := by simpa [hq] using hs
    simp [Builtin.copy_, run_underlying hu, Builtin.lenOf, Builtin.firstCells, sizeOf, typeInfo, hq, hi, ← hn, ← hcs, hl, hst]
/-- A copy as one step of a region that draws its order. -/
theorem step_copy_rows {P : Program} {ops : Array Oper} {o : Oper} {a : Act} {w : World} {K : Act → World → Prop} {Q : Exit → Act → World → Prop} {E : Prop} (hgd : o.guard = none) (d s : Operand) (dT sT : TypeId)
    (ho : o.op = .call { callee := .builtin .copy, args := #[d, s], argTypes := #[dT, sT] }) (elem : TypeId) (size : Nat) (hu : P.underlying dT = some (.slice elem)) (hsz : (P.info? elem).map (·.size) = some size)
    (g off dLen dCap : Nat) (ad : Addr) (sLen sCap : Nat) (hd : a.eval d = .slice (some ⟨g, off, none⟩) dLen dCap) (hs : a.eval s = .slice (some ad) sLen sCap)
    (cur : List Value) (t : TypeId) (hg : w.heap[g]? = some (.cells cur.toArray t (0, 0))) (n : Nat) (hn : n = Nat.min sLen dLen) (cs : List Value) (hcs : cs.length = n * size)
    (hsrc : ∀ j v, cs[j]? = some v → w.cell? (ad.add j) = some v) (hfit : off + cs.length ≤ cur.length) (h1 : ∀ v ∈ cs, v.oneCell' = true)
    (h : K (a.put o.dst (goInt n)) (w.setRow g (splice cur off cs).toArray)) :
    if Region.wanted o (yielded ops a.tmps) = true then Oper.wp P o a w K Q else E := by
  have hw : Region.wanted o (yielded ops a.tmps) = true := by simp [Region.wanted, hgd]
  rw [if_pos hw]
  have hrun := run_copy_rows (P := P) w dT sT o.type elem size g off dLen dCap ad sLen sCap cur.toArray t cs hu hsz hg n hn hcs hsrc (by simpa using hfit) h1
  unfold Oper.wp
  simp [execOp, ho, resolve, invoke, builtin, hd, hs, hrun, Result.andThen]
  have h' := h
  unfold splice at h'
  exact h'
theorem Blk.setRow {w : World} {g : Nat} {t : TypeId} {cs ys : Array Value} (h : Blk w g t cs) : Blk (w.setRow g ys) g t ys := setRow_heap w g cs ys t _ h
theorem ch_setRow (w : World) (g : Nat) (ys : Array Value) : Ch (fun k => k = g) w (w.setRow g ys) :=
  ⟨rfl, rfl, rfl, by simp [World.setRow], fun k _ hs => setRow_other w g k ys hs⟩

/-- What a crash leaves of a write. -/
def kept (n : Nat) (new old : List UInt8) : List UInt8 := new.take n ++ old.drop n
def keepAt (ks : List Int) (i : Nat) : Nat := (max 0 (min (ks.getD i 0) 64)).toNat
def crashed (ks : List Int) : Nat → List (Nat × List UInt8) → List (List UInt8) → List (List UInt8)
  | _, [], last => last
  | i, p :: ps, last => crashed ks (i + 1) ps (last.set p.1 (kept (keepAt ks i) p.2 (last.getD p.1 [])))
theorem crashed_length (ks : List Int) : ∀ (ps : List (Nat × List UInt8)) (i : Nat) (last : List (List UInt8)), (crashed ks i ps last).length = last.length
  | [], _, _ => rfl
  | p :: ps, i, last => by simp only [crashed]; rw [crashed_length ks ps]; simp
theorem keepAt_le (ks : List Int) (i : Nat) : keepAt ks i ≤ 64 := by unfold keepAt; omega
theorem kept_length (n : Nat) (new old : List UInt8) (hn : n ≤ 64) (h1 : new.length = 64) (h2 : old.length = 64) : (kept n new old).length = 64 := by simp [kept]; omega
theorem getD_mem_len (last : List (List UInt8)) (h : ∀ s ∈ last, s.length = 64) (k : Nat) (hk : k < last.length) : (last.getD k []).length = 64 := by
  rw [List.getD_eq_getElem?_getD, List.getElem?_eq_getElem hk]; exact h _ (List.getElem_mem hk)
theorem crashed_sec (ks : List Int) : ∀ (ps : List (Nat × List UInt8)) (i : Nat) (last : List (List UInt8)), (∀ s ∈ last, s.length = 64) → (∀ p ∈ ps, p.1 < last.length ∧ p.2.length = 64) → ∀ s ∈ crashed ks i ps last, s.length = 64
  | [], _, _, h, _ => h
  | p :: ps, i, last, h, hp => by
    simp only [crashed]
    refine crashed_sec ks ps (i + 1) _ (fun s hs => ?_) fun q hq => by simpa using hp q (by simp [hq])
    rcases List.mem_or_eq_of_mem_set hs with hs | rfl
    · exact h s hs
    · have := hp p (by simp)
      exact kept_length _ _ _ (keepAt_le ks i) this.2 (getD_mem_len _ h _ this.1)
theorem crashed_snoc (ks : List Int) : ∀ (ps : List (Nat × List UInt8)) (i : Nat) (last : List (List UInt8)) (p : Nat × List UInt8),
    crashed ks i (ps ++ [p]) last = (crashed ks i ps last).set p.1 (kept (keepAt ks (i + ps.length)) p.2 ((crashed ks i ps last).getD p.1 []))
  | [], i, last, p => by simp [crashed]
  | q :: ps, i, last, p => by
    simp only [List.cons_append, crashed]
    rw [crashed_snoc ks ps (i + 1)]
    have e : i + 1 + ps.length = i + (q :: ps).length := by simp; omega
    rw [e]
def DM.torn (m : DM) (ks : List Int) (k : Nat) : DM := { m with last := crashed ks 0 (m.pend.take k) m.last }
def DM.crash (m : DM) (ks : List Int) : DM := { last := crashed ks 0 m.pend m.last, now := crashed ks 0 m.pend m.last, pend := [], down := false, fuse := -1 }
theorem DM.Ok.torn {m : DM} (h : m.Ok) (ks : List Int) (k : Nat) : (m.torn ks k).Ok :=
  ⟨by simp [DM.torn, crashed_length, h.len], by simp [DM.torn, crashed_length]; exact h.small, crashed_sec _ _ _ _ h.secL fun p hp => h.secP p (List.mem_of_mem_take hp), h.secN,
   fun p hp => by simp only [DM.torn, crashed_length]; exact h.secP p hp, h.fuseLo, h.fuseHi, h.many⟩
theorem DM.Ok.crash {m : DM} (h : m.Ok) (ks : List Int) : (m.crash ks).Ok :=
  ⟨rfl, by simp [DM.crash, crashed_length]; exact h.small, crashed_sec _ _ _ _ h.secL h.secP, crashed_sec _ _ _ _ h.secL h.secP, fun p hp => by simp [DM.crash] at hp, by simp [DM.crash], by simp [DM.crash], by simp [DM.crash]⟩
/-- The first bytes of a sector, as cells: a word that the walk leaves alone. -/
def cutC (n : Nat) (s : List UInt8) : List Value := (secC s).take n
/-- One change torn. -/
theorem torn_step {w W w1 : World} {B b bl bn k : Nat} {pv : Value} {m : DM} {ks : List Int} {p : Nat × List UInt8} (h : DiskAt w B b bl bn pv (m.torn ks k)) (hm : m.Ok) (hp : m.pend[k]? = some p)
    (hb : Below w.heap.size w w1) (n : Nat) (hn : n = keepAt ks k)
    (hW : W = w1.setRow bl (splice (flatC (m.torn ks k).last) (p.1 * 64) (cutC n p.2)).toArray) :
    DiskAt W B b bl bn pv (m.torn ks (k + 1)) ∧ Ch (Foot b bl bn pv) w W := by
  subst hW
  unfold splice cutC
  have h1 := h.below hb
  have hc := ch_setRow w1 bl ((flatC (m.torn ks k).last).take (p.1 * 64) ++ ((secC p.2).take n ++ (flatC (m.torn ks k).last).drop (p.1 * 64 + ((secC p.2).take n).length))).toArray
  have hp2 := hm.secP p (List.mem_of_getElem? hp)
  have hkl : k < m.pend.length := (List.getElem?_eq_some_iff.1 hp).1
  have e : m.pend.take (k + 1) = m.pend.take k ++ [p] := by rw [List.take_add_one, hp]; rfl
  have e2 : (m.torn ks (k + 1)).last = (m.torn ks k).last.set p.1 (kept n p.2 ((m.torn ks k).last.getD p.1 [])) := by
    simp only [DM.torn]; rw [e, crashed_snoc]; simp [hn, Nat.min_eq_left (Nat.le_of_lt hkl)]
  have e3 : (m.torn ks k).last.length = m.last.length := by simp [DM.torn, crashed_length]
  have e4 : (m.torn ks (k + 1)).last.length = m.last.length := by simp [DM.torn, crashed_length]
  have hnle : n ≤ 64 := by rw [hn]; exact keepAt_le _ _
  have hs := h1.blkL.setRow (ys := ((flatC (m.torn ks k).last).take (p.1 * 64) ++ ((secC p.2).take n ++ (flatC (m.torn ks k).last).drop (p.1 * 64 + ((secC p.2).take n).length))).toArray)
  have hbytes : flatC (m.torn ks (k + 1)).last = (flatC (m.torn ks k).last).take (p.1 * 64) ++ ((secC p.2).take n ++ (flatC (m.torn ks k).last).drop (p.1 * 64 + ((secC p.2).take n).length)) := by
    have hlt : p.1 < (m.torn ks k).last.length := by omega
    have hold : ((m.torn ks k).last.getD p.1 []).length = 64 := getD_mem_len _ h.ok.secL _ hlt
    rw [e2, flatC_set _ h.ok.secL _ _ hlt (kept_length _ _ _ hnle hp2.2 hold)]
    congr 1
    have e5 : ((secC p.2).take n).length = n := by rw [List.length_take, secC_length, hp2.2]; omega
    rw [e5]
    have e6 : (flatC (m.torn ks k).last).drop (p.1 * 64 + n) = (secC ((m.torn ks k).last.getD p.1 [])).drop n ++ (flatC (m.torn ks k).last).drop (p.1 * 64 + 64) := by
      have hself : (m.torn ks k).last.set p.1 ((m.torn ks k).last.getD p.1 []) = (m.torn ks k).last := by
        rw [List.getD_eq_getElem?_getD, List.getElem?_eq_getElem hlt]; exact List.set_getElem_self hlt
      have := flatC_set _ h.ok.secL p.1 ((m.torn ks k).last.getD p.1 []) hlt hold
      rw [hself] at this
      have hl := flatC_length _ h.ok.secL
      have h64 : (secC ((m.torn ks k).last.getD p.1 [])).length = 64 := by rw [secC_length, hold]
      generalize (m.torn ks k).last.getD p.1 [] = old at *
      generalize hF : flatC (m.torn ks k).last = F at *
      have hd : F.drop (p.1 * 64) = secC old ++ F.drop (p.1 * 64 + 64) := List.append_cancel_left ((List.take_append_drop (p.1 * 64) F).trans this)
      rw [show p.1 * 64 + n = p.1 * 64 + n from rfl, ← List.drop_drop, hd, List.drop_append_of_le_length (by omega)]
    rw [e6]
    simp [secC, kept, List.map_drop, List.map_take]
  rw [← hbytes] at hs
  refine ⟨⟨?_, ?_, h1.blkN.ch hc (fun e => h.ne e.symm), own_ch h1.own hc fun j hj e => h1.pl (by rw [hj, e]), hm.torn _ _, h.ne, h.hb, h.hbl, h.hbn⟩, ?_⟩
  · have := h1.blk.ch hc h1.ne1
    rw [e3] at this
    rw [e4]; exact this
  · rw [← hbytes]; exact hs
  · exact (Ch.of_below hb _).trans (hc.mono fun k _ e => .inr (.inl e))
end Go.Proofs.Ythflabmfieobdaa
