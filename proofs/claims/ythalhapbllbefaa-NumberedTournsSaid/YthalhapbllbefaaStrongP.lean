/- Strong parts and their fold: no program in sight. -/
import Derived.Test.YthalhapbllbefaaOutP
import Derived.Test.YthalhapbllbefaaCountP
namespace Go.Proofs.Ythalhapbllbefaa

/-- A walk along lines, each way as it goes. -/
theorem outs_reach {n : Nat} {gs : List (Nat × Nat)} (_hg : ∀ l ∈ gs, l.1 < n ∧ l.2 < n) {f j : Nat} (hf : f < n) (h : Reach (outs n gs) (sBelow n) f j) : j < n := by
  induction h with
  | refl => exact hf
  | step _ _ hw _ => rw [testBit_below] at hw; simpa using hw
inductive Path (gs : List (Nat × Nat)) (f : Nat) : Nat → Prop
  | refl : Path gs f f
  | step {i j : Nat} (h : Path gs f i) (hj : (i, j) ∈ gs) : Path gs f j
theorem Path.trans {gs : List (Nat × Nat)} {a b c : Nat} (h : Path gs a b) (k : Path gs b c) : Path gs a c := by
  induction k with
  | refl => exact h
  | step _ hj ih => exact .step ih hj
theorem path_iff {n : Nat} {gs : List (Nat × Nat)} (hg : ∀ l ∈ gs, l.1 < n ∧ l.2 < n) (f j : Nat) : Reach (outs n gs) (sBelow n) f j ↔ Path gs f j := by
  constructor
  · intro h
    induction h with
    | refl => exact .refl
    | step _ hj _ ih => rw [outs_testBit (fun l hl => (hg l hl).1)] at hj; exact .step ih (by simpa using hj)
  · intro h
    induction h with
    | refl => exact .refl
    | step _ hj ih => exact .step ih (by rw [outs_testBit (fun l hl => (hg l hl).1)]; simpa using hj) (by rw [testBit_below]; simpa using (hg _ hj).2)
theorem path_swap {gs : List (Nat × Nat)} {f j : Nat} (h : Path gs f j) : Path (gs.map swapL) j f := by
  induction h with
  | refl => exact .refl
  | step _ hj ih =>
    have h1 : Path (gs.map swapL) _ _ := .step .refl (List.mem_map.2 ⟨_, hj, rfl⟩)
    exact h1.trans ih
theorem swap_swap (gs : List (Nat × Nat)) : (gs.map swapL).map swapL = gs := by
  rw [List.map_map]
  have : (swapL ∘ swapL) = id := by funext l; rfl
  rw [this, List.map_id]
theorem path_swap_iff {gs : List (Nat × Nat)} {f j : Nat} : Path (gs.map swapL) f j ↔ Path gs j f :=
  ⟨fun h => by have := path_swap h; rwa [swap_swap] at this, path_swap⟩

/-- Each comes to the other one. -/
def Both (gs : List (Nat × Nat)) (i j : Nat) : Prop := Path gs i j ∧ Path gs j i
theorem Both.symm {gs : List (Nat × Nat)} {i j : Nat} (h : Both gs i j) : Both gs j i := ⟨h.2, h.1⟩
theorem Both.trans {gs : List (Nat × Nat)} {i j k : Nat} (h : Both gs i j) (h2 : Both gs j k) : Both gs i k := ⟨h.1.trans h2.1, h2.2.trans h.2⟩
theorem Both.refl (gs : List (Nat × Nat)) (i : Nat) : Both gs i i := ⟨.refl, .refl⟩
theorem swap_lt {n : Nat} {gs : List (Nat × Nat)} (hg : ∀ l ∈ gs, l.1 < n ∧ l.2 < n) : ∀ l ∈ gs.map swapL, l.1 < n ∧ l.2 < n := fun l hl => by
  obtain ⟨l', hl', rfl⟩ := List.mem_map.1 hl
  exact ⟨(hg l' hl').2, (hg l' hl').1⟩
theorem bothF_iff {n : Nat} {gs : List (Nat × Nat)} (hn : n ≤ 64) (hg : ∀ l ∈ gs, l.1 < n ∧ l.2 < n) {i : Nat} (hi : i < n) (j : Nat) : (bothF n gs i).testBit j = true ↔ Both gs i j := by
  have hU1 : ∀ s ∈ outs n gs, U64 s := outs_U64 (fun l hl => by have := (hg l hl).2; omega)
  have hU2 : ∀ s ∈ outs n (gs.map swapL), U64 s := outs_U64 (fun l hl => by have := (swap_lt hg l hl).2; omega)
  unfold bothF
  rw [testBit_and, Bool.and_eq_true, (reachF_U64 hU1 (by omega)).2 j, (reachF_U64 hU2 (by omega)).2 j, path_iff hg, path_iff (swap_lt hg), path_swap_iff]
  exact Iff.rfl
theorem pts_sorted (s : Nat) : (pts s).Pairwise (· < ·) := List.Pairwise.filter _ List.pairwise_lt_range
theorem partF_spec {n : Nat} {gs : List (Nat × Nat)} (hn : n ≤ 64) (hg : ∀ l ∈ gs, l.1 < n ∧ l.2 < n) {i : Nat} (hi : i < n) : Both gs i (partF n gs i) ∧ partF n gs i < n ∧ ∀ j, Both gs i j → partF n gs i ≤ j := by
  have h64 : ∀ l ∈ gs, l.1 < 64 ∧ l.2 < 64 := fun l hl => by have := hg l hl; omega
  obtain ⟨r, hr⟩ := bothF_pts (n := n) h64 (show i < 64 by omega)
  have hU := (bothF_self (n := n) h64 (show i < 64 by omega)).1
  have hm : partF n gs i ∈ pts (bothF n gs i) := by rw [hr]; simp
  have hb := (bothF_iff hn hg hi _).1 ((mem_pts' hU).1 hm)
  refine ⟨hb, outs_reach hg hi ((path_iff hg _ _).2 hb.1), fun j hj => ?_⟩
  have hjm := (mem_pts' hU).2 ((bothF_iff hn hg hi j).2 hj)
  have hs := pts_sorted (bothF n gs i)
  rw [hr] at hjm hs
  rcases List.mem_cons.1 hjm with h | h
  · omega
  · exact Nat.le_of_lt (List.rel_of_pairwise_cons hs h)
theorem partF_eq_iff {n : Nat} {gs : List (Nat × Nat)} (hn : n ≤ 64) (hg : ∀ l ∈ gs, l.1 < n ∧ l.2 < n) {i j : Nat} (hi : i < n) (hj : j < n) : partF n gs i = partF n gs j ↔ Both gs i j := by
  obtain ⟨h1, h2, h3⟩ := partF_spec hn hg hi
  obtain ⟨k1, k2, k3⟩ := partF_spec hn hg hj
  constructor
  · intro h; rw [← h] at k1; exact h1.trans k1.symm
  · intro h
    exact Nat.le_antisymm (h3 _ (h.trans k1)) (k3 _ (h.symm.trans h1))
theorem partF_partF {n : Nat} {gs : List (Nat × Nat)} (hn : n ≤ 64) (hg : ∀ l ∈ gs, l.1 < n ∧ l.2 < n) {i : Nat} (hi : i < n) : partF n gs (partF n gs i) = partF n gs i := by
  obtain ⟨h1, h2, _⟩ := partF_spec hn hg hi
  exact (partF_eq_iff hn hg h2 hi).2 h1.symm
theorem at_partsF {n : Nat} {gs : List (Nat × Nat)} {i : Nat} (hi : i < n) : at_ (partsF n gs) i = partF n gs i := by simp [at_, partsF, hi]

/-! ### other numbers -/
theorem path_map {gs : List (Nat × Nat)} (p : List Nat) {i j : Nat} (h : Path gs i j) : Path (gs.map (mapL p)) (at_ p i) (at_ p j) := by
  induction h with
  | refl => exact .refl
  | step _ hj ih => exact .step ih (List.mem_map.2 ⟨_, hj, rfl⟩)
theorem path_perm {gs ms : List (Nat × Nat)} (h : ∀ l, l ∈ gs ↔ l ∈ ms) {i j : Nat} (k : Path gs i j) : Path ms i j := by
  induction k with
  | refl => exact .refl
  | step _ hj ih => exact .step ih ((h _).1 hj)
theorem path_unmap {n : Nat} {gs : List (Nat × Nat)} {p : List Nat} (hp : IsPerm n p) (hg : ∀ l ∈ gs, l.1 < n ∧ l.2 < n) {i : Nat} (hi : i < n) {x : Nat} (h : Path (gs.map (mapL p)) (at_ p i) x) : ∃ j, j < n ∧ x = at_ p j ∧ Path gs i j := by
  induction h with
  | refl => exact ⟨i, hi, rfl, .refl⟩
  | step _ hj ih =>
    obtain ⟨k, hk, rfl, hP⟩ := ih
    obtain ⟨l, hl, e⟩ := List.mem_map.1 hj
    simp only [mapL, Prod.mk.injEq] at e
    have := hp.inj (hg l hl).1 hk e.1
    exact ⟨l.2, (hg l hl).2, e.2.symm, .step hP (by rw [← this]; exact hl)⟩
theorem path_map_iff {n : Nat} {gs ms : List (Nat × Nat)} {p : List Nat} (hp : IsPerm n p) (hg : ∀ l ∈ gs, l.1 < n ∧ l.2 < n) (hm : ms.Perm (gs.map (mapL p))) {i j : Nat} (hi : i < n) (hj : j < n) : Path gs i j ↔ Path ms (at_ p i) (at_ p j) := by
  constructor
  · intro h; exact path_perm (fun l => hm.symm.mem_iff) (path_map p h)
  · intro h
    obtain ⟨k, hk, e, hP⟩ := path_unmap hp hg hi (path_perm (fun l => hm.mem_iff) h)
    have := hp.inj hj hk e
    rw [this]; exact hP
theorem both_map_iff {n : Nat} {gs ms : List (Nat × Nat)} {p : List Nat} (hp : IsPerm n p) (hg : ∀ l ∈ gs, l.1 < n ∧ l.2 < n) (hm : ms.Perm (gs.map (mapL p))) {i j : Nat} (hi : i < n) (hj : j < n) : Both gs i j ↔ Both ms (at_ p i) (at_ p j) :=
  and_congr (path_map_iff hp hg hm hi hj) (path_map_iff hp hg hm hj hi)
theorem moved_lt {n : Nat} {gs ms : List (Nat × Nat)} {p : List Nat} (hp : IsPerm n p) (hg : ∀ l ∈ gs, l.1 < n ∧ l.2 < n) (hm : ms.Perm (gs.map (mapL p))) : ∀ l ∈ ms, l.1 < n ∧ l.2 < n := fun l hl => by
  obtain ⟨l', hl', rfl⟩ := List.mem_map.1 (hm.mem_iff.1 hl)
  exact ⟨hp.get_lt (hg l' hl').1, hp.get_lt (hg l' hl').2⟩
end Go.Proofs.Ythalhapbllbefaa
