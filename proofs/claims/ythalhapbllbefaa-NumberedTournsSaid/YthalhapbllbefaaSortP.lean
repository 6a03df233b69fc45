/- Rising lists, and the same points under other numbers: no program in sight. -/
import Derived.Test.YthalhapbllbefaaCountP
import Derived.Test.YthalhapbllbefaaNum
namespace Go.Proofs.Ythalhapbllbefaa

def leI (x y : Int) : Bool := decide (x ≤ y)
/-- Sorted. -/
def srt (l : List Int) : List Int := l.mergeSort leI
theorem srt_perm (l : List Int) : (srt l).Perm l := List.mergeSort_perm _ _
theorem srt_length (l : List Int) : (srt l).length = l.length := (srt_perm l).length_eq
theorem srt_sorted (l : List Int) : (srt l).Pairwise (· ≤ ·) := by
  have := List.pairwise_mergeSort (le := leI) (fun a b c h1 h2 => by simp only [leI, decide_eq_true_eq] at *; omega) (fun a b => by simp only [leI, Bool.or_eq_true, decide_eq_true_eq]; omega) l
  exact this.imp fun h => by simpa [leI] using h
theorem sorted_unique {l m : List Int} (hl : l.Pairwise (· ≤ ·)) (hm : m.Pairwise (· ≤ ·)) (h : l.Perm m) : l = m :=
  List.Perm.eq_of_pairwise (le := (· ≤ ·)) (fun _ _ _ _ h1 h2 => Int.le_antisymm h1 h2) hl hm h
theorem srt_eq {l m : List Int} (hm : m.Pairwise (· ≤ ·)) (h : l.Perm m) : srt l = m := sorted_unique (srt_sorted l) hm ((srt_perm l).trans h)

/-- The points of a list under other numbers, rising. -/
def namedF (l p : List Nat) : List Int := srt (l.map fun i => (at_ p i : Int))
theorem namedF_length (l p : List Nat) : (namedF l p).length = l.length := by rw [namedF, srt_length, List.length_map]
theorem rising_cast {m : List Nat} (h : m.Pairwise (· < ·)) : (m.map fun (i : Nat) => (i : Int)).Pairwise (· ≤ ·) := by
  rw [List.pairwise_map]; exact h.imp fun h => by omega
theorem nodup_of_rising {m : List Nat} (h : m.Pairwise (· < ·)) : m.Nodup := List.nodup_iff_pairwise_ne.2 (h.imp fun h e => by omega)
theorem nodup_map_perm {n : Nat} {p l : List Nat} (hp : IsPerm n p) (hl : ∀ i ∈ l, i < n) (hn : l.Nodup) : (l.map (at_ p)).Nodup := by
  rw [List.nodup_iff_pairwise_ne] at hn ⊢
  rw [List.pairwise_map]
  exact hn.imp_of_mem fun {a b} ha hb h e => h (hp.inj (hl a ha) (hl b hb) e)
theorem same_perm {l m : List Nat} (hl : l.Nodup) (hm : m.Nodup) (h : ∀ x, x ∈ l ↔ x ∈ m) : l.Perm m :=
  perm_of_subset hl (fun x hx => (h x).1 hx) (Nat.le_of_eq (nodup_same_length hm hl fun x => (h x).symm))
theorem namedF_eq {n : Nat} {p l m : List Nat} (hp : IsPerm n p) (hl : ∀ i ∈ l, i < n) (hn : l.Nodup) (hm : m.Pairwise (· < ·)) (h : ∀ x, x ∈ m ↔ ∃ i ∈ l, at_ p i = x) :
    namedF l p = m.map fun (i : Nat) => (i : Int) := by
  refine srt_eq (rising_cast hm) ?_
  have h1 : (l.map (at_ p)).Perm m := same_perm (nodup_map_perm hp hl hn) (nodup_of_rising hm) fun x => by rw [h x, List.mem_map]
  have h2 := h1.map fun (i : Nat) => (i : Int)
  rw [List.map_map] at h2
  exact h2
/-- The points with a property, rising. -/
def those (n : Nat) (c : Nat → Bool) : List Nat := (List.range n).filter c
theorem mem_those {n : Nat} {c : Nat → Bool} {i : Nat} : i ∈ those n c ↔ i < n ∧ c i = true := by simp [those]
theorem those_rising (n : Nat) (c : Nat → Bool) : (those n c).Pairwise (· < ·) := List.Pairwise.filter _ List.pairwise_lt_range
theorem named_those {n : Nat} {p : List Nat} (hp : IsPerm n p) {c d : Nat → Bool} (h : ∀ i, i < n → c i = d (at_ p i)) : namedF (those n c) p = (those n d).map fun (i : Nat) => (i : Int) := by
  refine namedF_eq hp (fun i hi => (mem_those.1 hi).1) (nodup_of_rising (those_rising n c)) (those_rising n d) fun x => ?_
  rw [mem_those]
  constructor
  · rintro ⟨hx, hd⟩
    obtain ⟨i, hi, rfl⟩ := hp.surj hx
    exact ⟨i, mem_those.2 ⟨hi, by rw [h i hi]; exact hd⟩, rfl⟩
  · rintro ⟨i, hi, rfl⟩
    obtain ⟨h1, h2⟩ := mem_those.1 hi
    exact ⟨hp.get_lt h1, by rw [← h i h1]; exact h2⟩
/-- Sets of points under other numbers: their points, rising. -/
theorem named_pts {n s t : Nat} {p : List Nat} (hp : IsPerm n p) (hs : ∀ i, s.testBit i = true → i < n) (ht : ∀ i, t.testBit i = true → i < n) (hU : U64 s) (hU2 : U64 t) (h : ∀ i, i < n → s.testBit i = t.testBit (at_ p i)) : namedF (pts s) p = (pts t).map fun (i : Nat) => (i : Int) := by
  refine namedF_eq hp (fun i hi => hs i ((mem_pts' hU).1 hi)) (pts_nodup s) (List.Pairwise.filter _ List.pairwise_lt_range) fun x => ?_
  rw [mem_pts' hU2]
  constructor
  · intro hx
    obtain ⟨i, hi, rfl⟩ := hp.surj (ht x hx)
    exact ⟨i, (mem_pts' hU).2 (by rw [h i hi]; exact hx), rfl⟩
  · rintro ⟨i, hi, rfl⟩
    have h1 := (mem_pts' hU).1 hi
    change t.testBit (at_ p i) = true
    rw [← h i (hs i h1)]; exact h1

/-- A list at other places. -/
def putTo (l : List Int) (p : List Nat) (k : Nat) : List Int := (List.range k).foldl (fun o i => o.set (at_ p i) (l[i]?.getD 0)) (List.replicate l.length 0)
def putF (l : List Int) (p : List Nat) : List Int := putTo l p l.length
theorem putTo_length (l : List Int) (p : List Nat) (k : Nat) : (putTo l p k).length = l.length := by
  unfold putTo
  induction k with
  | zero => simp
  | succ k ih => rw [List.range_succ, List.foldl_append]; simpa using ih
theorem putTo_succ (l : List Int) (p : List Nat) (k : Nat) : putTo l p (k + 1) = (putTo l p k).set (at_ p k) (l[k]?.getD 0) := by simp [putTo, List.range_succ]
theorem putTo_get {n : Nat} {l : List Int} {p : List Nat} (hp : IsPerm n p) (hl : l.length = n) {k : Nat} (hk : k ≤ n) {i : Nat} (hi : i < n) : (putTo l p k)[at_ p i]? = some (if i < k then l[i]?.getD 0 else 0) := by
  have hpl : at_ p i < n := hp.get_lt hi
  induction k with
  | zero => rw [if_neg (by omega)]; simp [putTo, hl, hpl]
  | succ k ih =>
    rw [putTo_succ]
    by_cases e : i = k
    · subst e
      rw [List.getElem?_set_self (by rw [putTo_length, hl]; exact hpl), if_pos (by omega)]
    · have hne : at_ p k ≠ at_ p i := fun e2 => e (hp.inj hi (by omega) e2.symm)
      rw [List.getElem?_set_ne hne, ih (by omega)]
      by_cases h : i < k
      · rw [if_pos h, if_pos (by omega)]
      · rw [if_neg h, if_neg (by omega)]
theorem putF_eq {n : Nat} {l m : List Int} {p : List Nat} (hp : IsPerm n p) (hl : l.length = n) (hm : m.length = n) (h : ∀ i, i < n → l[i]?.getD 0 = m[at_ p i]?.getD 0) : putF l p = m := by
  apply List.ext_getElem?
  intro x
  by_cases hx : x < n
  · obtain ⟨i, hi, rfl⟩ := hp.surj hx
    have := putTo_get hp hl (Nat.le_refl n) hi
    rw [if_pos hi] at this
    rw [putF, hl]
    change (putTo l p n)[at_ p i]? = m[at_ p i]?
    rw [this, h i hi]
    have hxm : at_ p i < m.length := by rw [hm]; exact hx
    rw [List.getElem?_eq_getElem hxm]; rfl
  · rw [List.getElem?_eq_none (by rw [putF, putTo_length]; omega), List.getElem?_eq_none (by omega)]
end Go.Proofs.Ythalhapbllbefaa
