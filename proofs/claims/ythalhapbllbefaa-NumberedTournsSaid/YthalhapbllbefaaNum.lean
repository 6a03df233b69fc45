/- Sets of points as numbers: no program in sight. -/
namespace Go.Proofs.Ythalhapbllbefaa

def sIns (s i : Nat) : Nat := s ||| 2 ^ i
def sDif (a b : Nat) : Nat := a &&& (18446744073709551615 - b)
def sDel (s i : Nat) : Nat := sDif s (2 ^ i)
def sBelow (n : Nat) : Nat := 2 ^ n - 1
def U64 (s : Nat) : Prop := s < 18446744073709551616

theorem U64.of_lt {s i : Nat} (hi : i ≤ 64) (h : s < 2 ^ i) : U64 s := by
  have : 2 ^ i ≤ 2 ^ 64 := Nat.pow_le_pow_right (by omega) hi
  unfold U64; omega
theorem U64.lt {s : Nat} (h : U64 s) : s < 2 ^ 64 := by unfold U64 at h; omega
theorem U64.pow {i : Nat} (hi : i < 64) : U64 (2 ^ i) := by
  have : 2 ^ i < 2 ^ 64 := Nat.pow_lt_pow_right (by omega) hi
  unfold U64; omega
theorem U64.zero : U64 0 := by unfold U64; omega
theorem U64.or {a b : Nat} (ha : U64 a) (hb : U64 b) : U64 (a ||| b) := U64.of_lt (Nat.le_refl 64) (Nat.or_lt_two_pow ha.lt hb.lt)
theorem U64.and {a b : Nat} (ha : U64 a) : U64 (a &&& b) := by have := Nat.and_le_left (n := a) (m := b); unfold U64 at *; omega
theorem U64.ins {s i : Nat} (hs : U64 s) (hi : i < 64) : U64 (sIns s i) := hs.or (U64.pow hi)
theorem U64.dif {a b : Nat} (ha : U64 a) : U64 (sDif a b) := ha.and
theorem U64.del {a i : Nat} (ha : U64 a) : U64 (sDel a i) := ha.and

theorem testBit_ins (s i j : Nat) : (sIns s i).testBit j = (s.testBit j || decide (i = j)) := by
  simp [sIns, Nat.testBit_or, Nat.testBit_two_pow]
theorem testBit_dif {a b : Nat} (ha : U64 a) (hb : U64 b) (j : Nat) : (sDif a b).testBit j = (a.testBit j && !b.testBit j) := by
  unfold sDif
  have e : 18446744073709551615 - b = 2 ^ 64 - (b + 1) := by omega
  rw [Nat.testBit_and, e, Nat.testBit_two_pow_sub_succ hb.lt]
  by_cases hj : j < 64
  · simp [hj]
  · have : a.testBit j = false := Nat.testBit_lt_two_pow (Nat.lt_of_lt_of_le ha.lt (Nat.pow_le_pow_right (by omega) (by omega)))
    simp [this]
theorem testBit_del {a i : Nat} (ha : U64 a) (hi : i < 64) (j : Nat) : (sDel a i).testBit j = (a.testBit j && !decide (i = j)) := by
  unfold sDel; rw [testBit_dif ha (U64.pow hi)]; simp [Nat.testBit_two_pow]
theorem testBit_below (n j : Nat) : (sBelow n).testBit j = decide (j < n) := by simp [sBelow, Nat.testBit_two_pow_sub_one]
theorem U64.below {n : Nat} (h : n ≤ 64) : U64 (sBelow n) := U64.of_lt h (by unfold sBelow; have := Nat.two_pow_pos n; omega)

/-- The points of a set, rising. -/
def pts (s : Nat) : List Nat := (List.range 64).filter s.testBit
def ptsTo (s k : Nat) : List Nat := (List.range k).filter s.testBit
theorem ptsTo_succ_yes {s k : Nat} (h : s.testBit k = true) : ptsTo s (k + 1) = ptsTo s k ++ [k] := by simp [ptsTo, List.range_succ, h]
theorem ptsTo_succ_no {s k : Nat} (h : s.testBit k = false) : ptsTo s (k + 1) = ptsTo s k := by simp [ptsTo, List.range_succ, h]
theorem ptsTo_end {s k : Nat} (hk : k ≤ 64) (h : s / 2 ^ k = 0) : ptsTo s k = pts s := by
  have hlt : s < 2 ^ k := by
    rcases Nat.lt_or_ge s (2 ^ k) with h1 | h1
    · exact h1
    · have := Nat.div_pos h1 (Nat.two_pow_pos k); omega
  obtain ⟨d, hd⟩ : ∃ d, 64 = k + d := ⟨64 - k, by omega⟩
  unfold ptsTo pts
  rw [hd, List.range_add, List.filter_append]
  have : (List.map (k + ·) (List.range d)).filter s.testBit = [] := by
    rw [List.filter_eq_nil_iff]
    intro x hx
    obtain ⟨y, _, rfl⟩ := List.mem_map.1 hx
    have : s.testBit (k + y) = false := Nat.testBit_lt_two_pow (Nat.lt_of_lt_of_le hlt (Nat.pow_le_pow_right (by omega) (by omega)))
    simp [this]
  rw [this]; simp

theorem pts_length (s : Nat) : (pts s).length ≤ 64 := by
  have := List.length_filter_le s.testBit (List.range 64); simpa [pts] using this

theorem mem_pts {s i : Nat} : i ∈ pts s ↔ i < 64 ∧ s.testBit i = true := by simp [pts]
theorem pts_nodup (s : Nat) : (pts s).Nodup := List.Pairwise.filter _ List.nodup_range
theorem testBit_lt {s : Nat} (h : U64 s) {i : Nat} (hi : s.testBit i = true) : i < 64 := by
  rcases Nat.lt_or_ge i 64 with h1 | h1
  · exact h1
  · rw [Nat.testBit_lt_two_pow (Nat.lt_of_lt_of_le h.lt (Nat.pow_le_pow_right (by omega) h1))] at hi; cases hi
theorem mem_pts' {s i : Nat} (h : U64 s) : i ∈ pts s ↔ s.testBit i = true := by rw [mem_pts]; exact ⟨fun h => h.2, fun hi => ⟨testBit_lt h hi, hi⟩⟩
theorem set_ext {a b : Nat} (h : ∀ i, a.testBit i = b.testBit i) : a = b := Nat.eq_of_testBit_eq h
theorem testBit_foldl_ins (l : List Nat) (s j : Nat) : (l.foldl sIns s).testBit j = (s.testBit j || decide (j ∈ l)) := by
  induction l generalizing s with
  | nil => simp
  | cons x l ih =>
    rw [List.foldl_cons, ih, testBit_ins]
    by_cases h : x = j
    · subst h; simp
    · have : ¬ j = x := fun e => h e.symm
      simp [h, this]
theorem U64.foldl_ins {l : List Nat} {s : Nat} (hs : U64 s) (hl : ∀ x ∈ l, x < 64) : U64 (l.foldl sIns s) := by
  induction l generalizing s with
  | nil => exact hs
  | cons x l ih => exact ih (hs.ins (hl x (by simp))) (fun y hy => hl y (by simp [hy]))
theorem filter_count_or {α : Type} (p q : α → Bool) (h : ∀ x, p x = true → q x = false) (l : List α) : (l.filter fun x => p x || q x).length = (l.filter p).length + (l.filter q).length := by
  induction l with
  | nil => rfl
  | cons x l ih =>
    cases hp : p x with
    | true => have := h x hp; simp [hp, this, ih]; omega
    | false => cases hq : q x <;> simp [hp, hq, ih]; omega
theorem pts_count_or {s t u : Nat} (h1 : ∀ i, u.testBit i = (s.testBit i || t.testBit i)) (h2 : ∀ i, s.testBit i = true → t.testBit i = false) : (pts u).length = (pts s).length + (pts t).length := by
  unfold pts
  rw [← filter_count_or _ _ h2]
  exact congrArg List.length (List.filter_congr (fun x _ => h1 x))
theorem testBit_and (a b i : Nat) : (a &&& b).testBit i = (a.testBit i && b.testBit i) := Nat.testBit_and a b i
theorem testBit_zero' (i : Nat) : (0 : Nat).testBit i = false := Nat.zero_testBit i
end Go.Proofs.Ythalhapbllbefaa
