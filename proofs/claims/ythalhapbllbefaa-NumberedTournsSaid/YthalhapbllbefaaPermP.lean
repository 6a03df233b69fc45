/- Orders of numbers, lists in another order: no program in sight. -/
import Derived.Test.YthalhapbllbefaaMixedP
namespace Go.Proofs.Ythalhapbllbefaa

theorem perm_of_subset {α : Type} [DecidableEq α] : ∀ {l₁ l₂ : List α}, l₁.Nodup → (∀ x ∈ l₁, x ∈ l₂) → l₂.length ≤ l₁.length → l₁.Perm l₂
  | [], l₂, _, _, hl => by
    have : l₂ = [] := List.eq_nil_of_length_eq_zero (by simpa using hl)
    rw [this]
  | x :: l₁, l₂, hn, hs, hl => by
    rw [List.nodup_cons] at hn
    have hx : x ∈ l₂ := hs x (by simp)
    have h1 : l₂.Perm (x :: l₂.erase x) := List.perm_cons_erase hx
    have h2 : l₁.Perm (l₂.erase x) := perm_of_subset hn.2 (fun y hy => by
      have hne : y ≠ x := fun e => hn.1 (e ▸ hy)
      exact (List.mem_erase_of_ne hne).2 (hs y (by simp [hy]))) (by rw [List.length_erase_of_mem hx]; simp at hl; omega)
    exact (h2.cons x).trans h1.symm
theorem IsPerm.perm {n : Nat} {p : List Nat} (h : IsPerm n p) : p.Perm (List.range n) :=
  perm_of_subset h.nodup (fun x hx => List.mem_range.2 (h.lt x hx)) (by simp [h.len])
theorem IsPerm.mem {n : Nat} {p : List Nat} (h : IsPerm n p) {x : Nat} (hx : x < n) : x ∈ p := h.perm.mem_iff.2 (List.mem_range.2 hx)
theorem IsPerm.get_lt {n : Nat} {p : List Nat} (h : IsPerm n p) {i : Nat} (hi : i < n) : p[i]?.getD 0 < n := by
  have hi' : i < p.length := by rw [h.len]; exact hi
  rw [List.getElem?_eq_getElem hi']
  exact h.lt _ (List.getElem_mem hi')
theorem IsPerm.get {n : Nat} {p : List Nat} (h : IsPerm n p) {i : Nat} (hi : i < n) : p[i]? = some (p[i]?.getD 0) := by
  have hi' : i < p.length := by rw [h.len]; exact hi
  rw [List.getElem?_eq_getElem hi']; rfl
theorem IsPerm.inj {n : Nat} {p : List Nat} (h : IsPerm n p) {i j : Nat} (hi : i < n) (hj : j < n) (e : p[i]?.getD 0 = p[j]?.getD 0) : i = j := by
  have hi' : i < p.length := by rw [h.len]; exact hi
  have hj' : j < p.length := by rw [h.len]; exact hj
  rw [List.getElem?_eq_getElem hi', List.getElem?_eq_getElem hj'] at e
  simp only [Option.getD_some] at e
  have hp := List.pairwise_iff_getElem.1 (List.nodup_iff_pairwise_ne.1 h.nodup)
  rcases Nat.lt_trichotomy i j with hlt | he | hgt
  · exact absurd e (hp i j hi' hj' hlt)
  · exact he
  · exact absurd e.symm (hp j i hj' hi' hgt)
theorem IsPerm.surj {n : Nat} {p : List Nat} (h : IsPerm n p) {x : Nat} (hx : x < n) : ∃ i, i < n ∧ p[i]?.getD 0 = x := by
  obtain ⟨i, hi, e⟩ := List.getElem_of_mem (h.mem hx)
  exact ⟨i, by rw [← h.len]; exact hi, by rw [List.getElem?_eq_getElem hi]; exact e⟩

/-- The new number of a vertex. -/
def at_ (p : List Nat) (i : Nat) : Nat := p[i]?.getD 0
def mapL (p : List Nat) (l : Nat × Nat) : Nat × Nat := (at_ p l.1, at_ p l.2)
theorem list_eq_map_range {α : Type} (l : List α) (d : α) : l = (List.range l.length).map (fun j => l[j]?.getD d) := by
  apply List.ext_getElem?
  intro j
  by_cases hj : j < l.length
  · simp [hj]
  · rw [List.getElem?_eq_none (by omega), List.getElem?_eq_none (by simp; omega)]
/-- What stands at other places is the same, in another order. -/
theorem placed_perm {α : Type} {gs os : List α} {q : List Nat} {f : α → α} (d : α) (hq : IsPerm gs.length q) (hl : os.length = gs.length) (h : ∀ i g, gs[i]? = some g → os[at_ q i]? = some (f g)) : os.Perm (gs.map f) := by
  have h1 : gs.map f = q.map (fun j => os[j]?.getD d) := by
    apply List.ext_getElem?
    intro i
    by_cases hi : i < gs.length
    · have hqi := hq.get hi
      rw [List.getElem?_map, List.getElem?_map, hqi, List.getElem?_eq_getElem hi]
      have := h i _ (List.getElem?_eq_getElem hi)
      unfold at_ at this
      simp [this]
    · rw [List.getElem?_eq_none (by simp; omega), List.getElem?_eq_none (by rw [List.length_map, hq.len]; omega)]
  rw [h1]
  have h2 := (hq.perm.map (fun j => os[j]?.getD d)).symm
  rw [← hl, ← list_eq_map_range os d] at h2
  exact h2
end Go.Proofs.Ythalhapbllbefaa
