/- Counting what is different: no program in sight. -/
import Derived.Test.YthalhapbllbefaaPermP
namespace Go.Proofs.Ythalhapbllbefaa

theorem nodup_sub_length {α : Type} [DecidableEq α] : ∀ {l m : List α}, l.Nodup → (∀ x ∈ l, x ∈ m) → l.length ≤ m.length
  | [], m, _, _ => Nat.zero_le _
  | x :: l, m, hn, hs => by
    rw [List.nodup_cons] at hn
    have hx : x ∈ m := hs x (by simp)
    have h1 : l.length ≤ (m.erase x).length := nodup_sub_length hn.2 (fun y hy => by
      have hne : y ≠ x := fun e => hn.1 (e ▸ hy)
      exact (List.mem_erase_of_ne hne).2 (hs y (by simp [hy])))
    rw [List.length_erase_of_mem hx] at h1
    have := List.length_pos_of_mem hx
    simp only [List.length_cons]; omega
theorem nodup_same_length {α : Type} [DecidableEq α] {l m : List α} (hl : l.Nodup) (hm : m.Nodup) (h : ∀ x, x ∈ l ↔ x ∈ m) : l.length = m.length :=
  Nat.le_antisymm (nodup_sub_length hl fun x hx => (h x).1 hx) (nodup_sub_length hm fun x hx => (h x).2 hx)
/-- Each once. -/
def dd {α : Type} [DecidableEq α] : List α → List α
  | [] => []
  | x :: l => if x ∈ dd l then dd l else x :: dd l
theorem mem_dd {α : Type} [DecidableEq α] {l : List α} {x : α} : x ∈ dd l ↔ x ∈ l := by
  induction l with
  | nil => simp [dd]
  | cons y l ih =>
    simp only [dd]
    by_cases h : y ∈ dd l
    · rw [if_pos h, ih, List.mem_cons]
      exact ⟨.inr, fun h2 => h2.elim (fun e => by subst e; exact ih.1 h) id⟩
    · rw [if_neg h, List.mem_cons, List.mem_cons, ih]
theorem dd_nodup {α : Type} [DecidableEq α] (l : List α) : (dd l).Nodup := by
  induction l with
  | nil => simp [dd]
  | cons y l ih =>
    simp only [dd]
    by_cases h : y ∈ dd l
    · rw [if_pos h]; exact ih
    · rw [if_neg h, List.nodup_cons]; exact ⟨h, ih⟩
theorem dd_length_of {α : Type} [DecidableEq α] {l m : List α} (hm : m.Nodup) (h : ∀ x, x ∈ m ↔ x ∈ l) : m.length = (dd l).length :=
  nodup_same_length hm (dd_nodup l) fun x => (h x).trans mem_dd.symm
theorem dd_map_length {α β γ : Type} [DecidableEq β] [DecidableEq γ] {l : List α} {f : α → β} {g : α → γ} (h : ∀ u ∈ l, ∀ v ∈ l, f u = f v ↔ g u = g v) : (dd (l.map f)).length = (dd (l.map g)).length := by
  induction l with
  | nil => rfl
  | cons x l ih =>
    have ih' := ih (fun u hu v hv => h u (by simp [hu]) v (by simp [hv]))
    simp only [List.map_cons, dd]
    have hiff : f x ∈ dd (l.map f) ↔ g x ∈ dd (l.map g) := by
      rw [mem_dd, mem_dd, List.mem_map, List.mem_map]
      exact ⟨fun ⟨u, hu, e⟩ => ⟨u, hu, (h u (by simp [hu]) x (by simp)).1 e⟩, fun ⟨u, hu, e⟩ => ⟨u, hu, (h u (by simp [hu]) x (by simp)).2 e⟩⟩
    by_cases hf : f x ∈ dd (l.map f)
    · rw [if_pos hf, if_pos (hiff.1 hf), ih']
    · rw [if_neg hf, if_neg (fun e => hf (hiff.2 e)), List.length_cons, List.length_cons, ih']
end Go.Proofs.Ythalhapbllbefaa
