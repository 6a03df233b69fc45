/- What lies beside, how many lines, under other numbers: no program in sight. -/
import Derived.Test.YthalhapbllbefaaStrongP
import Derived.Test.YthalhapbllbefaaSortP
namespace Go.Proofs.Ythalhapbllbefaa

theorem mem_move {n : Nat} {gs ms : List (Nat × Nat)} {p : List Nat} (hp : IsPerm n p) (hg : ∀ l ∈ gs, l.1 < n ∧ l.2 < n) (hm : ms.Perm (gs.map (mapL p))) {i j : Nat} (hi : i < n) (hj : j < n) : (at_ p i, at_ p j) ∈ ms ↔ (i, j) ∈ gs := by
  rw [hm.mem_iff, List.mem_map]
  constructor
  · rintro ⟨l, hl, e⟩
    simp only [mapL, Prod.mk.injEq] at e
    have h1 := hp.inj (hg l hl).1 hi e.1
    have h2 := hp.inj (hg l hl).2 hj e.2
    rw [← h1, ← h2]; exact hl
  · intro h; exact ⟨_, h, rfl⟩
theorem beside_move {n : Nat} {gs ms : List (Nat × Nat)} {p : List Nat} (hp : IsPerm n p) (hg : ∀ l ∈ gs, l.1 < n ∧ l.2 < n) (hm : ms.Perm (gs.map (mapL p))) {i j : Nat} (hi : i < n) (hj : j < n) :
    (at_ (besides n gs) i).testBit j = (at_ (besides n ms) (at_ p i)).testBit (at_ p j) := by
  have hml := moved_lt hp hg hm
  unfold at_
  rw [besides_testBit hg, besides_testBit hml]
  have h1 := mem_move hp hg hm hi hj
  have h2 := mem_move hp hg hm hj hi
  unfold at_ at h1 h2
  rw [decide_eq_decide.2 h1, decide_eq_decide.2 h2]
theorem out_move {n : Nat} {gs ms : List (Nat × Nat)} {p : List Nat} (hp : IsPerm n p) (hg : ∀ l ∈ gs, l.1 < n ∧ l.2 < n) (hm : ms.Perm (gs.map (mapL p))) {i j : Nat} (hi : i < n) (hj : j < n) :
    (at_ (outs n gs) i).testBit j = (at_ (outs n ms) (at_ p i)).testBit (at_ p j) := by
  have hml := moved_lt hp hg hm
  unfold at_
  rw [outs_testBit (fun l hl => (hg l hl).1), outs_testBit (fun l hl => (hml l hl).1)]
  have h1 := mem_move hp hg hm hi hj
  unfold at_ at h1
  rw [decide_eq_decide.2 h1]
theorem besides_lt {n : Nat} {gs : List (Nat × Nat)} (hg : ∀ l ∈ gs, l.1 < n ∧ l.2 < n) {i j : Nat} (h : (at_ (besides n gs) i).testBit j = true) : j < n := by
  unfold at_ at h
  rw [besides_testBit hg, Bool.or_eq_true, decide_eq_true_eq, decide_eq_true_eq] at h
  rcases h with h | h
  · exact (hg _ h).2
  · exact (hg _ h).1
theorem outs_lt {n : Nat} {gs : List (Nat × Nat)} (hg : ∀ l ∈ gs, l.1 < n ∧ l.2 < n) {i j : Nat} (h : (at_ (outs n gs) i).testBit j = true) : j < n := by
  unfold at_ at h
  rw [outs_testBit (fun l hl => (hg l hl).1), decide_eq_true_eq] at h
  exact (hg _ h).2
theorem besides_at_U64 {n : Nat} {gs : List (Nat × Nat)} (hn : n ≤ 64) (hg : ∀ l ∈ gs, l.1 < n ∧ l.2 < n) (i : Nat) : U64 (at_ (besides n gs) i) :=
  getD_U64 (besides_U64 (fun l hl => by have := hg l hl; omega)) i
theorem outs_at_U64 {n : Nat} {gs : List (Nat × Nat)} (hn : n ≤ 64) (hg : ∀ l ∈ gs, l.1 < n ∧ l.2 < n) (i : Nat) : U64 (at_ (outs n gs) i) :=
  getD_U64 (outs_U64 (fun l hl => by have := hg l hl; omega)) i
/-- A set under other numbers has as many. -/
theorem card_move {n s t : Nat} {p : List Nat} (hp : IsPerm n p) (hs : ∀ i, s.testBit i = true → i < n) (ht : ∀ i, t.testBit i = true → i < n) (hU : U64 s) (hU2 : U64 t) (h : ∀ i, i < n → s.testBit i = t.testBit (at_ p i)) : (pts s).length = (pts t).length := by
  have h1 := named_pts hp hs ht hU hU2 h
  have h2 := congrArg List.length h1
  rwa [namedF_length, List.length_map] at h2

/-- How many points lie beside each. -/
def degsF (n : Nat) (gs : List (Nat × Nat)) : List Nat := (besides n gs).map fun s => (pts s).length
theorem degsF_length (n : Nat) (gs : List (Nat × Nat)) : (degsF n gs).length = n := by simp [degsF, besides_length]
theorem degsF_at {n : Nat} {gs : List (Nat × Nat)} {i : Nat} (hi : i < n) : (degsF n gs)[i]? = some (pts (at_ (besides n gs) i)).length := by
  have : i < (besides n gs).length := by rw [besides_length]; exact hi
  simp [degsF, at_, this]
theorem degs_put {n : Nat} {gs ms : List (Nat × Nat)} {p : List Nat} (hn : n ≤ 64) (hp : IsPerm n p) (hg : ∀ l ∈ gs, l.1 < n ∧ l.2 < n) (hm : ms.Perm (gs.map (mapL p))) :
    putF ((degsF n gs).map fun (i : Nat) => (i : Int)) p = (degsF n ms).map fun (i : Nat) => (i : Int) := by
  have hml := moved_lt hp hg hm
  refine putF_eq hp (by rw [List.length_map, degsF_length]) (by rw [List.length_map, degsF_length]) fun i hi => ?_
  have hpi : at_ p i < n := hp.get_lt hi
  rw [List.getElem?_map, List.getElem?_map, degsF_at hi, degsF_at hpi]
  simp only [Option.map_some, Option.getD_some]
  rw [card_move hp (fun j => besides_lt hg) (fun j => besides_lt hml) (besides_at_U64 hn hg i) (besides_at_U64 hn hml _) fun j hj => beside_move hp hg hm hi hj]

/-- How many ends of lines lie at a point. -/
def degE (gs : List (Nat × Nat)) (i : Nat) : Nat := (gs.filter fun l => l.1 == i).length + (gs.filter fun l => l.2 == i).length
def degL (n : Nat) (gs : List (Nat × Nat)) : List Nat := (List.range n).map (degE gs)
theorem degL_length (n : Nat) (gs : List (Nat × Nat)) : (degL n gs).length = n := by simp [degL]
theorem degL_get {n : Nat} {gs : List (Nat × Nat)} {i : Nat} (hi : i < n) : (degL n gs)[i]? = some (degE gs i) := by simp [degL, hi]
theorem degL_nil (n : Nat) : degL n [] = List.replicate n 0 := by
  apply List.ext_getElem?
  intro i
  by_cases hi : i < n
  · simp [degL, degE, hi]
  · rw [List.getElem?_eq_none (by simp [degL]; omega), List.getElem?_eq_none (by simp; omega)]
theorem degE_snoc (gs : List (Nat × Nat)) (l : Nat × Nat) (i : Nat) : degE (gs ++ [l]) i = degE gs i + (if l.1 = i then 1 else 0) + (if l.2 = i then 1 else 0) := by
  simp only [degE, List.filter_append, List.length_append]
  have h1 : (List.filter (fun l => l.1 == i) [l]).length = if l.1 = i then 1 else 0 := by
    by_cases h : l.1 = i
    · simp [h]
    · simp [h]
  have h2 : (List.filter (fun l => l.2 == i) [l]).length = if l.2 = i then 1 else 0 := by
    by_cases h : l.2 = i
    · simp [h]
    · simp [h]
  rw [h1, h2]; omega
theorem degE_le (gs : List (Nat × Nat)) (i : Nat) : degE gs i ≤ 2 * gs.length := by
  have := List.length_filter_le (fun l : Nat × Nat => l.1 == i) gs
  have := List.length_filter_le (fun l : Nat × Nat => l.2 == i) gs
  unfold degE; omega
theorem degL_snoc {n : Nat} {gs : List (Nat × Nat)} {x y : Nat} (hx : x < n) (hy : y < n) (hne : x ≠ y) : degL n (gs ++ [(x, y)]) = ((degL n gs).set x (degE gs x + 1)).set y (degE gs y + 1) := by
  apply List.ext_getElem?
  intro i
  by_cases hi : i < n
  · rw [degL_get hi, degE_snoc]
    by_cases e1 : y = i
    · subst e1
      rw [List.getElem?_set_self (by rw [List.length_set, degL_length]; exact hy)]
      simp [hne]
    · rw [List.getElem?_set_ne e1]
      by_cases e2 : x = i
      · subst e2
        rw [List.getElem?_set_self (by rw [degL_length]; exact hx)]
        simp [e1]
      · rw [List.getElem?_set_ne e2, degL_get hi]
        simp [e1, e2]
  · rw [List.getElem?_eq_none (by rw [degL_length]; omega), List.getElem?_eq_none (by rw [List.length_set, List.length_set, degL_length]; omega)]
def oddE (gs : List (Nat × Nat)) (i : Nat) : Bool := degE gs i % 2 == 1
def endsF (n : Nat) (gs : List (Nat × Nat)) : List Nat := those n (oddE gs)
theorem degE_move {n : Nat} {gs ms : List (Nat × Nat)} {p : List Nat} (hp : IsPerm n p) (hg : ∀ l ∈ gs, l.1 < n ∧ l.2 < n) (hm : ms.Perm (gs.map (mapL p))) {i : Nat} (hi : i < n) : degE gs i = degE ms (at_ p i) := by
  unfold degE
  rw [(hm.filter _).length_eq, (hm.filter _).length_eq]
  simp only [List.filter_map, List.length_map]
  congr 2
  · apply List.filter_congr
    intro l hl
    simp only [Function.comp, mapL]
    rw [Bool.eq_iff_iff, beq_iff_eq, beq_iff_eq]
    exact ⟨fun e => by rw [e], fun e => hp.inj (hg l hl).1 hi e⟩
  · apply List.filter_congr
    intro l hl
    simp only [Function.comp, mapL]
    rw [Bool.eq_iff_iff, beq_iff_eq, beq_iff_eq]
    exact ⟨fun e => by rw [e], fun e => hp.inj (hg l hl).2 hi e⟩
theorem ends_named {n : Nat} {gs ms : List (Nat × Nat)} {p : List Nat} (hp : IsPerm n p) (hg : ∀ l ∈ gs, l.1 < n ∧ l.2 < n) (hm : ms.Perm (gs.map (mapL p))) :
    namedF (endsF n gs) p = (endsF n ms).map fun (i : Nat) => (i : Int) := named_those hp fun i hi => by unfold oddE; rw [degE_move hp hg hm hi]
theorem those_succ_yes {k : Nat} {c : Nat → Bool} (h : c k = true) : those (k + 1) c = those k c ++ [k] := by simp [those, List.range_succ, h]
theorem those_succ_no {k : Nat} {c : Nat → Bool} (h : c k = false) : those (k + 1) c = those k c := by simp [those, List.range_succ, h]
theorem those_length (k : Nat) (c : Nat → Bool) : (those k c).length ≤ k := by have := List.length_filter_le c (List.range k); simpa [those] using this
end Go.Proofs.Ythalhapbllbefaa
