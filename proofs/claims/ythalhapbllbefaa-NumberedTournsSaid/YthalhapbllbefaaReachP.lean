/- Reach: what it computes, no program in sight. -/
import Derived.Test.YthalhapbllbefaaNum
namespace Go.Proofs.Ythalhapbllbefaa

/-- One comes from one point to another by the sets next, within a set. -/
inductive Reach (next : List Nat) (within from_ : Nat) : Nat → Prop
  | refl : Reach next within from_ from_
  | step {i j : Nat} (h : Reach next within from_ i) (hj : (next[i]?.getD 0).testBit j = true) (hw : within.testBit j = true) : Reach next within from_ j

theorem getD_U64 {o : List Nat} (ho : ∀ s ∈ o, U64 s) (i : Nat) : U64 (o[i]?.getD 0) := by
  cases h : o[i]? with
  | none => exact U64.zero
  | some s => exact ho s (List.mem_of_getElem? h)
/-- What holds at the head of Reach's loop. -/
structure ReachInv (next : List Nat) (within f s : Nat) (q : List Nat) : Prop where
  hu : U64 s
  hf : s.testBit f = true
  hr : ∀ j, s.testBit j = true → Reach next within f j ∧ j < next.length
  hq : ∀ i ∈ q, s.testBit i = true
  hc : ∀ i, s.testBit i = true → i ∉ q → ∀ j, (next[i]?.getD 0).testBit j = true → within.testBit j = true → s.testBit j = true
  hn : q.length ≤ (pts s).length

theorem ReachInv.start {next : List Nat} {within f : Nat} (hf : f < next.length) (hn : next.length ≤ 64) : ReachInv next within f (sIns 0 f) [f] := by
  have hb : ∀ j, (sIns 0 f).testBit j = true ↔ j = f := fun j => by rw [testBit_ins]; simp [eq_comm]
  have hu : U64 (sIns 0 f) := U64.zero.ins (by omega)
  refine ⟨hu, (hb f).2 rfl, fun j hj => ?_, fun i hi => ?_, fun i hi hq => ?_, ?_⟩
  · rw [(hb j).1 hj]; exact ⟨.refl, hf⟩
  · simp at hi; rw [hi]; exact (hb f).2 rfl
  · exact absurd (by rw [(hb i).1 hi]; simp) hq
  · have : f ∈ pts (sIns 0 f) := (mem_pts' hu).2 ((hb f).2 rfl)
    exact List.length_pos_of_mem this
theorem ReachInv.next {next : List Nat} {within f s i : Nat} {q : List Nat} (h : ReachInv next within f s (i :: q)) (hU : ∀ s ∈ next, U64 s) (hin : ∀ j, within.testBit j = true → j < next.length) {t : Nat}
    (ht : t = sDif ((next[i]?.getD 0) &&& within) s) : ReachInv next within f ((pts t).foldl sIns s) (q ++ pts t) ∧ 2 * (64 - (pts ((pts t).foldl sIns s)).length) + (q ++ pts t).length < 2 * (64 - (pts s).length) + (i :: q).length := by
  have hnU := getD_U64 hU i
  have htU : U64 t := by rw [ht]; exact hnU.and.dif
  have htb : ∀ j, t.testBit j = ((next[i]?.getD 0).testBit j && within.testBit j && !s.testBit j) := fun j => by rw [ht, testBit_dif hnU.and h.hu, testBit_and]
  have hsb : ∀ j, ((pts t).foldl sIns s).testBit j = (s.testBit j || t.testBit j) := fun j => by
    rw [testBit_foldl_ins]
    congr 1
    have := mem_pts' (i := j) htU
    cases hh : t.testBit j <;> simp [this, hh]
  have hu1 : U64 ((pts t).foldl sIns s) := h.hu.foldl_ins (fun x hx => (mem_pts.1 hx).1)
  have hcount := pts_count_or hsb (fun j hj => by rw [htb]; simp [hj])
  have h64 := pts_length ((pts t).foldl sIns s)
  have hqn := h.hn
  have hi := h.hq i (by simp)
  refine ⟨⟨hu1, by rw [hsb, h.hf]; rfl, fun j hj => ?_, fun j hj => ?_, fun k hk hkq j hj hjw => ?_, ?_⟩, ?_⟩
  · rw [hsb] at hj
    cases hs : s.testBit j with
    | true => exact h.hr j hs
    | false =>
      rw [hs, Bool.false_or, htb] at hj
      simp only [Bool.and_eq_true] at hj
      exact ⟨.step (h.hr i hi).1 hj.1.1 hj.1.2, hin j hj.1.2⟩
  · rw [hsb]
    rcases List.mem_append.1 hj with h1 | h1
    · rw [h.hq j (by simp [h1])]; rfl
    · rw [(mem_pts' htU).1 h1]; simp
  · rw [hsb]
    cases hs : s.testBit j with
    | true => rfl
    | false =>
      rw [hsb] at hk
      have hkt : t.testBit k = false := by
        cases ht' : t.testBit k with
        | false => rfl
        | true => exact absurd (List.mem_append.2 (.inr ((mem_pts' htU).2 ht'))) hkq
      rw [hkt, Bool.or_false] at hk
      by_cases hki : k = i
      · subst hki; rw [htb]; simp [hj, hjw, hs]
      · exact absurd (h.hc k hk (fun hm => by
          rcases List.mem_cons.1 hm with h1 | h1
          · exact hki h1
          · exact hkq (List.mem_append.2 (.inl h1))) j hj hjw) (by simp [hs])
  · simp only [List.length_append, List.length_cons] at *; omega
  · simp only [List.length_append, List.length_cons] at *; omega
theorem ReachInv.done {next : List Nat} {within f s : Nat} (h : ReachInv next within f s []) : ∀ j, s.testBit j = true ↔ Reach next within f j := by
  intro j
  refine ⟨fun hj => (h.hr j hj).1, fun hj => ?_⟩
  induction hj with
  | refl => exact h.hf
  | step _ hj hw ih => exact h.hc _ ih (by simp) _ hj hw


/-! ### the same, reckoned -/
def rstep (next : List Nat) (within s : Nat) : Nat := (pts s).foldl (fun acc i => acc ||| ((next[i]?.getD 0) &&& within)) s
def reachN (next : List Nat) (within : Nat) : Nat → Nat → Nat
  | 0, s => s
  | k + 1, s => reachN next within k (rstep next within s)
def reachF (next : List Nat) (within f : Nat) : Nat := reachN next within 64 (2 ^ f)

theorem testBit_foldl_or (g : Nat → Nat) (l : List Nat) (s j : Nat) : (l.foldl (fun acc i => acc ||| g i) s).testBit j = (s.testBit j || l.any (fun i => (g i).testBit j)) := by
  induction l generalizing s with
  | nil => simp
  | cons x l ih => rw [List.foldl_cons, ih, Nat.testBit_or, List.any_cons, Bool.or_assoc]
theorem rstep_testBit {next : List Nat} {within s : Nat} (hs : U64 s) (j : Nat) :
    (rstep next within s).testBit j = true ↔ s.testBit j = true ∨ ∃ i, s.testBit i = true ∧ (next[i]?.getD 0).testBit j = true ∧ within.testBit j = true := by
  unfold rstep
  rw [testBit_foldl_or, Bool.or_eq_true, List.any_eq_true]
  refine or_congr Iff.rfl ⟨fun ⟨i, hi, h⟩ => ?_, fun ⟨i, hi, h1, h2⟩ => ⟨i, (mem_pts' hs).2 hi, by rw [testBit_and, h1, h2]; rfl⟩⟩
  rw [testBit_and, Bool.and_eq_true] at h
  exact ⟨i, (mem_pts' hs).1 hi, h.1, h.2⟩
theorem foldl_or_U64 {g : Nat → Nat} (hg : ∀ i, U64 (g i)) (l : List Nat) {s : Nat} (hs : U64 s) : U64 (l.foldl (fun acc i => acc ||| g i) s) := by
  induction l generalizing s with
  | nil => exact hs
  | cons x l ih => exact ih (hs.or (hg x))
theorem rstep_U64 {next : List Nat} {within s : Nat} (hU : ∀ s ∈ next, U64 s) (hs : U64 s) : U64 (rstep next within s) := foldl_or_U64 (fun i => (getD_U64 hU i).and) _ hs
theorem filter_length_le {α : Type} {p q : α → Bool} (h : ∀ x, p x = true → q x = true) (l : List α) : (l.filter p).length ≤ (l.filter q).length := by
  induction l with
  | nil => simp
  | cons x l ih =>
    cases hp : p x with
    | true => simp [hp, h x hp, ih]
    | false => cases hq : q x <;> simp [hp, hq] <;> omega
theorem filter_length_lt {α : Type} {p q : α → Bool} (h : ∀ x, p x = true → q x = true) {l : List α} {x : α} (hx : x ∈ l) (hq : q x = true) (hp : p x = false) : (l.filter p).length < (l.filter q).length := by
  induction l with
  | nil => simp at hx
  | cons y l ih =>
    rcases List.mem_cons.1 hx with rfl | hm
    · have := filter_length_le h l
      simp [hp, hq]; omega
    · have := ih hm
      cases hpy : p y with
      | true => simp [hpy, h y hpy]; omega
      | false => cases hqy : q y <;> simp [hpy, hqy] <;> omega
theorem pts_count_lt {s t : Nat} (ht : U64 t) (h : ∀ i, s.testBit i = true → t.testBit i = true) {j : Nat} (hj : t.testBit j = true) (hs : s.testBit j = false) : (pts s).length < (pts t).length :=
  filter_length_lt h (List.mem_range.2 (testBit_lt ht hj)) hj hs
def Closed (next : List Nat) (within s : Nat) : Prop := ∀ i, s.testBit i = true → ∀ j, (next[i]?.getD 0).testBit j = true → within.testBit j = true → s.testBit j = true
theorem reachN_spec {next : List Nat} {within : Nat} (hU : ∀ s ∈ next, U64 s) : ∀ (k s : Nat), U64 s → 64 ≤ k + (pts s).length →
    U64 (reachN next within k s) ∧ (∀ i, s.testBit i = true → (reachN next within k s).testBit i = true) ∧ Closed next within (reachN next within k s) ∧
    ∀ f, (∀ i, s.testBit i = true → Reach next within f i) → ∀ i, (reachN next within k s).testBit i = true → Reach next within f i := by
  intro k
  induction k with
  | zero =>
    intro s hs hc
    refine ⟨hs, fun _ h => h, fun i _ j hj _ => ?_, fun f h => h⟩
    simp only [reachN]
    have hjU := testBit_lt (getD_U64 hU i) hj
    cases hsj : s.testBit j with
    | true => rfl
    | false =>
      have h1 := filter_length_lt (p := s.testBit) (q := fun _ => true) (fun _ _ => rfl) (List.mem_range.2 hjU) rfl hsj
      have h2 : ((List.range 64).filter fun _ => true).length = 64 := by rw [List.filter_eq_self.2 (fun _ _ => rfl)]; simp
      unfold pts at hc
      omega
  | succ k ih =>
    intro s hs hc
    have hs' := rstep_U64 (within := within) hU hs
    have hmono : ∀ i, s.testBit i = true → (rstep next within s).testBit i = true := fun i hi => (rstep_testBit hs i).2 (.inl hi)
    by_cases hcl : Closed next within s
    · -- nothing comes in any more
      have he : rstep next within s = s := set_ext fun i => by
        have := rstep_testBit (next := next) (within := within) hs i
        cases h1 : s.testBit i with
        | true => exact hmono i h1
        | false =>
          cases h2 : (rstep next within s).testBit i with
          | false => rfl
          | true =>
            rcases this.1 h2 with h | ⟨i', a, b, c⟩
            · rw [h1] at h; cases h
            · rw [hcl i' a i b c] at h1; cases h1
      have hfix : ∀ m, reachN next within m s = s := fun m => by
        induction m with
        | zero => rfl
        | succ m ihm => simp only [reachN]; rw [he]; exact ihm
      rw [hfix]
      exact ⟨hs, fun _ h => h, hcl, fun f h => h⟩
    · have hlt : (pts s).length < (pts (rstep next within s)).length := by
        unfold Closed at hcl
        simp only [Classical.not_forall] at hcl
        obtain ⟨i, hi, j, hj, hw, hn⟩ := hcl
        exact pts_count_lt hs' hmono ((rstep_testBit hs j).2 (.inr ⟨i, hi, hj, hw⟩)) (by simpa using hn)
      obtain ⟨h1, h2, h3, h4⟩ := ih (rstep next within s) hs' (by omega)
      refine ⟨h1, fun i hi => h2 i (hmono i hi), h3, fun f hf i hi => h4 f (fun j hj => ?_) i hi⟩
      rcases (rstep_testBit hs j).1 hj with h | ⟨i', a, b, c⟩
      · exact hf j h
      · exact .step (hf i' a) b c
theorem reachF_U64 {next : List Nat} {within f : Nat} (hU : ∀ s ∈ next, U64 s) (hf : f < 64) : U64 (reachF next within f) ∧ ∀ j, (reachF next within f).testBit j = true ↔ Reach next within f j := by
  have h0 : U64 (2 ^ f) := U64.pow hf
  have hb : ∀ j, (2 ^ f).testBit j = true ↔ j = f := fun j => by rw [Nat.testBit_two_pow]; simp [eq_comm]
  obtain ⟨h1, h2, h3, h4⟩ := reachN_spec (within := within) hU 64 (2 ^ f) h0 (by omega)
  refine ⟨h1, fun j => ⟨h4 f (fun i hi => by rw [(hb i).1 hi]; exact .refl) j, fun h => ?_⟩⟩
  induction h with
  | refl => exact h2 f ((hb f).2 rfl)
  | step _ hj hw ih => exact h3 _ ih _ hj hw
end Go.Proofs.Ythalhapbllbefaa
