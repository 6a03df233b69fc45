/- What Fold computes: no program in sight. -/
import Derived.Test.YthalhapbllbefaaStrongP
namespace Go.Proofs.Ythalhapbllbefaa

/-- How many of the first k are their own part. -/
def cnt (pl : List Nat) (k : Nat) : Nat := ((List.range k).filter (fun i => at_ pl i == i)).length
def numL (n : Nat) (pl : List Nat) (k : Nat) : List Nat := (List.range n).map fun j => if j < k ∧ at_ pl j = j then cnt pl j else 0
theorem cnt_zero (pl : List Nat) : cnt pl 0 = 0 := rfl
theorem cnt_yes {pl : List Nat} {k : Nat} (h : at_ pl k = k) : cnt pl (k + 1) = cnt pl k + 1 := by simp [cnt, List.range_succ, h]
theorem cnt_no {pl : List Nat} {k : Nat} (h : at_ pl k ≠ k) : cnt pl (k + 1) = cnt pl k := by simp [cnt, List.range_succ, h]
theorem cnt_le (pl : List Nat) (k : Nat) : cnt pl k ≤ k := by
  have := List.length_filter_le (fun i => at_ pl i == i) (List.range k)
  simpa [cnt] using this
theorem cnt_mono {pl : List Nat} {j k : Nat} (h : j ≤ k) : cnt pl j ≤ cnt pl k := by
  induction h with
  | refl => exact Nat.le_refl _
  | step _ ih =>
    refine Nat.le_trans ih ?_
    rename_i m _
    by_cases e : at_ pl m = m
    · rw [cnt_yes e]; omega
    · rw [cnt_no e]; exact Nat.le_refl _
theorem cnt_lt {pl : List Nat} {j k : Nat} (h : j < k) (e : at_ pl j = j) : cnt pl j < cnt pl k := by
  have := cnt_mono (pl := pl) (show j + 1 ≤ k from h)
  rw [cnt_yes e] at this; omega
theorem cnt_inj {pl : List Nat} {i j : Nat} (hi : at_ pl i = i) (hj : at_ pl j = j) (h : cnt pl i = cnt pl j) : i = j := by
  rcases Nat.lt_trichotomy i j with hlt | e | hgt
  · have := cnt_lt hlt hi; omega
  · exact e
  · have := cnt_lt hgt hj; omega
theorem numL_length (n : Nat) (pl : List Nat) (k : Nat) : (numL n pl k).length = n := by simp [numL]
theorem numL_zero (n : Nat) (pl : List Nat) : numL n pl 0 = List.replicate n 0 := by
  apply List.ext_getElem?
  intro j
  by_cases hj : j < n
  · simp [numL, hj]
  · rw [List.getElem?_eq_none (by simp [numL]; omega), List.getElem?_eq_none (by simp; omega)]
theorem numL_yes {n : Nat} {pl : List Nat} {k : Nat} (hk : k < n) (h : at_ pl k = k) : numL n pl (k + 1) = (numL n pl k).set k (cnt pl k) := by
  apply List.ext_getElem?
  intro j
  by_cases e : j = k
  · subst e
    rw [List.getElem?_set_self (by simpa [numL] using hk)]
    simp [numL, hk, h]
  · rw [List.getElem?_set_ne (fun e' => e e'.symm)]
    by_cases hj : j < n
    · simp only [numL, List.getElem?_map, List.getElem?_range hj, Option.map_some]
      by_cases h2 : j < k
      · simp only [show (j < k + 1 ∧ at_ pl j = j) ↔ (j < k ∧ at_ pl j = j) by omega]
      · rw [if_neg (by omega), if_neg (by omega)]
    · rw [List.getElem?_eq_none (by simp [numL]; omega), List.getElem?_eq_none (by simp [numL]; omega)]
theorem numL_no {n : Nat} {pl : List Nat} {k : Nat} (h : at_ pl k ≠ k) : numL n pl (k + 1) = numL n pl k := by
  apply List.ext_getElem?
  intro j
  by_cases hj : j < n
  · simp only [numL, List.getElem?_map, List.getElem?_range hj, Option.map_some]
    by_cases e : j = k
    · subst e; rw [if_neg (by simp [h]), if_neg (by simp [h])]
    · simp only [show (j < k + 1 ∧ at_ pl j = j) ↔ (j < k ∧ at_ pl j = j) by omega]
  · rw [List.getElem?_eq_none (by simp [numL]; omega), List.getElem?_eq_none (by simp [numL]; omega)]

/-- The parts as Fold is given them. -/
structure PartsOk (n : Nat) (pl : List Nat) : Prop where
  len : pl.length = n
  lt : ∀ i, i < n → at_ pl i < n
  idem : ∀ i, i < n → at_ pl (at_ pl i) = at_ pl i
def fo (pl : List Nat) (i : Nat) : Nat := cnt pl (at_ pl i)
theorem PartsOk.fo_lt {n : Nat} {pl : List Nat} (h : PartsOk n pl) {i : Nat} (hi : i < n) : fo pl i < cnt pl n := cnt_lt (h.lt i hi) (h.idem i hi)
theorem PartsOk.fo_iff {n : Nat} {pl : List Nat} (h : PartsOk n pl) {i j : Nat} (hi : i < n) (hj : j < n) : fo pl i = fo pl j ↔ at_ pl i = at_ pl j :=
  ⟨fun e => cnt_inj (h.idem i hi) (h.idem j hj) e, fun e => by unfold fo; rw [e]⟩
theorem PartsOk.numL_at {n : Nat} {pl : List Nat} (h : PartsOk n pl) {i : Nat} (hi : i < n) : (numL n pl n)[at_ pl i]? = some (fo pl i) := by
  have h1 := h.lt i hi
  have h2 := h.idem i hi
  simp [numL, h1, h2, fo]
theorem partsOk {n : Nat} {gs : List (Nat × Nat)} (hn : n ≤ 64) (hg : ∀ l ∈ gs, l.1 < n ∧ l.2 < n) : PartsOk n (partsF n gs) where
  len := partsF_length n gs
  lt := fun i hi => by rw [at_partsF hi]; exact (partF_spec hn hg hi).2.1
  idem := fun i hi => by rw [at_partsF hi, at_partsF (partF_spec hn hg hi).2.1]; exact partF_partF hn hg hi

def foL (n : Nat) (pl : List Nat) (k : Nat) : List Nat := (List.range n).map fun j => if j < k then fo pl j else 0
theorem foL_length (n : Nat) (pl : List Nat) (k : Nat) : (foL n pl k).length = n := by simp [foL]
theorem foL_zero (n : Nat) (pl : List Nat) : foL n pl 0 = List.replicate n 0 := by
  apply List.ext_getElem?
  intro j
  by_cases hj : j < n
  · simp [foL, hj]
  · rw [List.getElem?_eq_none (by simp [foL]; omega), List.getElem?_eq_none (by simp; omega)]
theorem foL_succ {n : Nat} {pl : List Nat} {k : Nat} (hk : k < n) : foL n pl (k + 1) = (foL n pl k).set k (fo pl k) := by
  apply List.ext_getElem?
  intro j
  by_cases e : j = k
  · subst e
    rw [List.getElem?_set_self (by simpa [foL] using hk)]
    simp [foL, hk]
  · rw [List.getElem?_set_ne (fun e' => e e'.symm)]
    by_cases hj : j < n
    · simp only [foL, List.getElem?_map, List.getElem?_range hj, Option.map_some]
      simp only [show (j < k + 1) ↔ (j < k) by omega]
    · rw [List.getElem?_eq_none (by simp [foL]; omega), List.getElem?_eq_none (by simp [foL]; omega)]
theorem foL_get {n : Nat} {pl : List Nat} {i : Nat} (hi : i < n) : (foL n pl n)[i]? = some (fo pl i) := by simp [foL, hi]

/-- The lines between parts. -/
def foldQ (pl : List Nat) (gs : List (Nat × Nat)) : List (Nat × Nat) := (gs.map fun l => (fo pl l.1, fo pl l.2)).filter fun l => l.1 != l.2
theorem foldQ_snoc (pl : List Nat) (gs : List (Nat × Nat)) (l : Nat × Nat) : foldQ pl (gs ++ [l]) = foldQ pl gs ++ (if fo pl l.1 = fo pl l.2 then [] else [(fo pl l.1, fo pl l.2)]) := by
  simp only [foldQ, List.map_append, List.filter_append, List.map_cons, List.map_nil]
  by_cases h : fo pl l.1 = fo pl l.2
  · simp [h]
  · simp [h]
theorem outs_snoc (n : Nat) (gs : List (Nat × Nat)) (l : Nat × Nat) : outs n (gs ++ [l]) = (outs n gs).set l.1 (sIns ((outs n gs)[l.1]?.getD 0) l.2) := by unfold outs; rw [List.foldl_append]; rfl
def rowsOf (next : List Nat) (k : Nat) : List (Nat × Nat) := (List.range k).flatMap fun a => (pts (at_ next a)).map fun b => (a, b)
def foldedF (n : Nat) (pl : List Nat) (gs : List (Nat × Nat)) : List (Nat × Nat) := rowsOf (outs (cnt pl n) (foldQ pl gs)) (cnt pl n)
theorem rowsOf_succ (next : List Nat) (k : Nat) : rowsOf next (k + 1) = rowsOf next k ++ (pts (at_ next k)).map fun b => (k, b) := by simp [rowsOf, List.range_succ]
theorem rowsOf_length (next : List Nat) (k : Nat) : (rowsOf next k).length ≤ k * 64 := by
  induction k with
  | zero => simp [rowsOf]
  | succ k ih => rw [rowsOf_succ]; have := pts_length (at_ next k); simp; omega
theorem mem_rowsOf {next : List Nat} {k a b : Nat} : (a, b) ∈ rowsOf next k ↔ a < k ∧ b ∈ pts (at_ next a) := by
  simp only [rowsOf, List.mem_flatMap, List.mem_map, List.mem_range, Prod.mk.injEq]
  exact ⟨fun ⟨x, h1, y, h2, h3, h4⟩ => by subst h3; subst h4; exact ⟨h1, h2⟩, fun ⟨h1, h2⟩ => ⟨a, h1, b, h2, rfl, rfl⟩⟩
theorem rowsOf_nodup (next : List Nat) (k : Nat) : (rowsOf next k).Nodup := by
  induction k with
  | zero => simp [rowsOf]
  | succ k ih =>
    rw [rowsOf_succ, List.nodup_append]
    refine ⟨ih, ?_, ?_⟩
    · have := pts_nodup (at_ next k)
      rw [List.nodup_iff_pairwise_ne] at this ⊢
      rw [List.pairwise_map]
      exact this.imp fun h e => h (by simpa using e)
    · rintro ⟨a, b⟩ ha ⟨c, d⟩ hc e
      have := (mem_rowsOf.1 ha).1
      obtain ⟨y, _, e2⟩ := List.mem_map.1 hc
      simp only [Prod.mk.injEq] at e e2
      omega
theorem foldQ_lt {n : Nat} {pl : List Nat} {gs : List (Nat × Nat)} (h : PartsOk n pl) (hg : ∀ l ∈ gs, l.1 < n ∧ l.2 < n) : ∀ l ∈ foldQ pl gs, l.1 < cnt pl n ∧ l.2 < cnt pl n := by
  intro l hl
  obtain ⟨h1, _⟩ := List.mem_filter.1 hl
  obtain ⟨l', hl', rfl⟩ := List.mem_map.1 h1
  exact ⟨h.fo_lt (hg l' hl').1, h.fo_lt (hg l' hl').2⟩
theorem foldedF_length {n : Nat} {pl : List Nat} {gs : List (Nat × Nat)} (hn : n ≤ 64) (h : PartsOk n pl) (hg : ∀ l ∈ gs, l.1 < n ∧ l.2 < n) : (foldedF n pl gs).length = (dd (foldQ pl gs)).length := by
  have hq := foldQ_lt h hg
  have hc := cnt_le pl n
  have hU : ∀ s ∈ outs (cnt pl n) (foldQ pl gs), U64 s := outs_U64 (fun l hl => by have := (hq l hl).2; omega)
  refine dd_length_of (rowsOf_nodup _ _) ?_
  rintro ⟨a, b⟩
  rw [foldedF, mem_rowsOf, at_, mem_pts' (getD_U64 hU a), outs_testBit (fun l hl => (hq l hl).1)]
  simp only [decide_eq_true_eq]
  exact ⟨fun h => h.2, fun h => ⟨(hq _ h).1, h⟩⟩
theorem dd_same {α : Type} [DecidableEq α] {l m : List α} (h : ∀ x, x ∈ l ↔ x ∈ m) : (dd l).length = (dd m).length := nodup_same_length (dd_nodup l) (dd_nodup m) fun x => by rw [mem_dd, mem_dd]; exact h x
/-- As many lines lie between the parts, whatever numbers there are. -/
theorem folded_same {n : Nat} {gs ms : List (Nat × Nat)} {p : List Nat} (hn : n ≤ 64) (hp : IsPerm n p) (hg : ∀ l ∈ gs, l.1 < n ∧ l.2 < n) (hm : ms.Perm (gs.map (mapL p))) :
    (foldedF n (partsF n gs) gs).length = (foldedF n (partsF n ms) ms).length := by
  have hml := moved_lt hp hg hm
  have ok := partsOk hn hg
  have ok2 := partsOk hn hml
  rw [foldedF_length hn ok hg, foldedF_length hn ok2 hml]
  have hpl : ∀ {i}, i < n → at_ p i < n := fun hi => hp.get_lt hi
  have hfo : ∀ i j, i < n → j < n → (fo (partsF n gs) i = fo (partsF n gs) j ↔ fo (partsF n ms) (at_ p i) = fo (partsF n ms) (at_ p j)) := fun i j hi hj => by
    rw [ok.fo_iff hi hj, ok2.fo_iff (hpl hi) (hpl hj), at_partsF hi, at_partsF hj, at_partsF (hpl hi), at_partsF (hpl hj), partF_eq_iff hn hg hi hj,
      partF_eq_iff hn hml (hpl hi) (hpl hj)]
    exact both_map_iff hp hg hm hi hj
  have e1 : (dd (foldQ (partsF n ms) ms)).length = (dd (foldQ (partsF n ms) (gs.map (mapL p)))).length := dd_same fun x => by
    simp only [foldQ, List.mem_filter, List.mem_map]
    constructor
    · rintro ⟨⟨l, hl, rfl⟩, h⟩; exact ⟨⟨l, List.mem_map.1 (hm.mem_iff.1 hl), rfl⟩, h⟩
    · rintro ⟨⟨l, hl, rfl⟩, h⟩; exact ⟨⟨l, hm.mem_iff.2 (List.mem_map.2 hl), rfl⟩, h⟩
  rw [e1]
  have key : ∀ (pl : List Nat) (g : Nat × Nat → Nat × Nat), foldQ pl (gs.map g) = (gs.filter fun l => fo pl (g l).1 != fo pl (g l).2).map fun l => (fo pl (g l).1, fo pl (g l).2) := fun pl g => by
    simp only [foldQ, List.map_map, List.filter_map]; rfl
  have k0 : foldQ (partsF n gs) gs = (gs.filter fun l => fo (partsF n gs) l.1 != fo (partsF n gs) l.2).map fun l => (fo (partsF n gs) l.1, fo (partsF n gs) l.2) := by
    have := key (partsF n gs) id
    rw [List.map_id] at this; exact this
  rw [k0, key (partsF n ms) (mapL p)]
  have hf : (gs.filter fun l => fo (partsF n ms) (mapL p l).1 != fo (partsF n ms) (mapL p l).2) = gs.filter fun l => fo (partsF n gs) l.1 != fo (partsF n gs) l.2 := by
    apply List.filter_congr
    intro l hl
    have := hfo l.1 l.2 (hg l hl).1 (hg l hl).2
    simp only [mapL, bne, Bool.not_eq_eq_eq_not, Bool.not_not]
    rw [Bool.eq_iff_iff]
    simp only [beq_iff_eq]
    exact this.symm
  rw [hf]
  refine dd_map_length fun u hu v hv => ?_
  have hu' := hg u (List.mem_filter.1 hu |>.1)
  have hv' := hg v (List.mem_filter.1 hv |>.1)
  simp only [Prod.mk.injEq, mapL]
  rw [hfo u.1 v.1 hu'.1 hv'.1, hfo u.2 v.2 hu'.2 hv'.2]
end Go.Proofs.Ythalhapbllbefaa
