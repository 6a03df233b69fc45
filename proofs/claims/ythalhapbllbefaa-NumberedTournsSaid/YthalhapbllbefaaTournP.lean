/- Who beats whom: no program in sight. -/
import Derived.Test.YthalhapbllbefaaDegP
namespace Go.Proofs.Ythalhapbllbefaa

/-- Of each two points there is one line. -/
def tOne (bs : List Nat) (a b : Nat) : Bool := (at_ bs a).testBit b != (at_ bs b).testBit a
def tOk (n : Nat) (gs : List (Nat × Nat)) : Bool := ((List.range n).all fun a => (List.range a).all fun b => tOne (outs n gs) a b) && gs.length == n * (n - 1) / 2
theorem out_bit {n : Nat} {gs : List (Nat × Nat)} (hg : ∀ l ∈ gs, l.1 < n ∧ l.2 < n) (i j : Nat) : (at_ (outs n gs) i).testBit j = decide ((i, j) ∈ gs) := outs_testBit (fun l hl => (hg l hl).1) i j
theorem tOne_symm (bs : List Nat) (a b : Nat) : tOne bs a b = tOne bs b a := by
  unfold tOne
  cases (at_ bs a).testBit b <;> cases (at_ bs b).testBit a <;> rfl
theorem tOk_iff {n : Nat} {gs : List (Nat × Nat)} : tOk n gs = true ↔ (∀ a b, a < n → b < n → a ≠ b → tOne (outs n gs) a b = true) ∧ gs.length = n * (n - 1) / 2 := by
  unfold tOk
  rw [Bool.and_eq_true, List.all_eq_true, beq_iff_eq]
  constructor
  · rintro ⟨h, e⟩
    refine ⟨fun a b ha hb hne => ?_, e⟩
    rcases Nat.lt_or_gt_of_ne hne with hlt | hgt
    · rw [tOne_symm]
      exact List.all_eq_true.1 (h b (List.mem_range.2 hb)) a (List.mem_range.2 hlt)
    · exact List.all_eq_true.1 (h a (List.mem_range.2 ha)) b (List.mem_range.2 hgt)
  · rintro ⟨h, e⟩
    refine ⟨fun a ha => List.all_eq_true.2 fun b hb => ?_, e⟩
    have h1 := List.mem_range.1 ha
    have h2 := List.mem_range.1 hb
    exact h a b h1 (by omega) (by omega)
theorem tOk_move {n : Nat} {gs ms : List (Nat × Nat)} {p : List Nat} (hp : IsPerm n p) (hg : ∀ l ∈ gs, l.1 < n ∧ l.2 < n) (hm : ms.Perm (gs.map (mapL p))) (h : tOk n gs = true) : tOk n ms = true := by
  rw [tOk_iff] at h ⊢
  refine ⟨fun a b ha hb hne => ?_, by rw [hm.length_eq, List.length_map]; exact h.2⟩
  obtain ⟨i, hi, rfl⟩ := hp.surj ha
  obtain ⟨j, hj, rfl⟩ := hp.surj hb
  have h1 := h.1 i j hi hj (fun e => hne (by rw [e]))
  unfold tOne at h1 ⊢
  rw [out_move hp hg hm hi hj, out_move hp hg hm hj hi] at h1
  exact h1
/-- How many each one beats. -/
def scoresF (n : Nat) (gs : List (Nat × Nat)) : List Nat := (outs n gs).map fun s => (pts s).length
theorem scoresF_length (n : Nat) (gs : List (Nat × Nat)) : (scoresF n gs).length = n := by simp [scoresF, outs_length]
theorem scoresF_at {n : Nat} {gs : List (Nat × Nat)} {i : Nat} (hi : i < n) : (scoresF n gs)[i]? = some (pts (at_ (outs n gs) i)).length := by
  have : i < (outs n gs).length := by rw [outs_length]; exact hi
  simp [scoresF, at_, this]
theorem scores_put {n : Nat} {gs ms : List (Nat × Nat)} {p : List Nat} (hn : n ≤ 64) (hp : IsPerm n p) (hg : ∀ l ∈ gs, l.1 < n ∧ l.2 < n) (hm : ms.Perm (gs.map (mapL p))) :
    putF ((scoresF n gs).map fun (i : Nat) => (i : Int)) p = (scoresF n ms).map fun (i : Nat) => (i : Int) := by
  have hml := moved_lt hp hg hm
  refine putF_eq hp (by rw [List.length_map, scoresF_length]) (by rw [List.length_map, scoresF_length]) fun i hi => ?_
  have hpi : at_ p i < n := hp.get_lt hi
  rw [List.getElem?_map, List.getElem?_map, scoresF_at hi, scoresF_at hpi]
  simp only [Option.map_some, Option.getD_some]
  rw [card_move hp (fun j => outs_lt hg) (fun j => outs_lt hml) (outs_at_U64 hn hg i) (outs_at_U64 hn hml _) fun j hj => out_move hp hg hm hi hj]
/-- What one beats, or one that it beats. -/
def ors (bs : List Nat) (l : List Nat) (s : Nat) : Nat := l.foldl (fun o j => o ||| at_ bs j) s
theorem ors_snoc (bs l : List Nat) (j s : Nat) : ors bs (l ++ [j]) s = ors bs l s ||| at_ bs j := by simp [ors]
theorem ors_bit (bs l : List Nat) (s j : Nat) : (ors bs l s).testBit j = (s.testBit j || l.any fun k => (at_ bs k).testBit j) := by
  induction l generalizing s with
  | nil => simp [ors]
  | cons x l ih =>
    have := ih (s ||| at_ bs x)
    simp only [ors, List.foldl_cons, List.any_cons] at this ⊢
    rw [this, Nat.testBit_or, Bool.or_assoc]
theorem ors_U64 {bs l : List Nat} {s : Nat} (hs : U64 s) (hb : ∀ s ∈ bs, U64 s) : U64 (ors bs l s) := by
  induction l generalizing s with
  | nil => exact hs
  | cons x l ih => exact ih (hs.or (getD_U64 hb x))
def overT (bs : List Nat) (i : Nat) : Nat := ors bs (pts (at_ bs i)) (sIns (at_ bs i) i)
def kingB (n : Nat) (gs : List (Nat × Nat)) (i : Nat) : Bool := overT (outs n gs) i == sBelow n
def kingsF (n : Nat) (gs : List (Nat × Nat)) : List Nat := those n (kingB n gs)
theorem overT_bit {n : Nat} {gs : List (Nat × Nat)} (hn : n ≤ 64) (hg : ∀ l ∈ gs, l.1 < n ∧ l.2 < n) (i j : Nat) : (overT (outs n gs) i).testBit j = true ↔ i = j ∨ (i, j) ∈ gs ∨ ∃ k, (i, k) ∈ gs ∧ (k, j) ∈ gs := by
  unfold overT
  rw [ors_bit, testBit_ins, Bool.or_eq_true, Bool.or_eq_true, List.any_eq_true, out_bit hg, decide_eq_true_eq, decide_eq_true_eq]
  constructor
  · rintro ((h | h) | ⟨k, hk, h⟩)
    · exact .inr (.inl h)
    · exact .inl h
    · rw [mem_pts' (outs_at_U64 hn hg i), out_bit hg, decide_eq_true_eq] at hk
      rw [out_bit hg, decide_eq_true_eq] at h
      exact .inr (.inr ⟨k, hk, h⟩)
  · rintro (h | h | ⟨k, hk, h⟩)
    · exact .inl (.inr h)
    · exact .inl (.inl h)
    · refine .inr ⟨k, ?_, ?_⟩
      · rw [mem_pts' (outs_at_U64 hn hg i), out_bit hg, decide_eq_true_eq]; exact hk
      · rw [out_bit hg, decide_eq_true_eq]; exact h
theorem overT_lt {n : Nat} {gs : List (Nat × Nat)} (hn : n ≤ 64) (hg : ∀ l ∈ gs, l.1 < n ∧ l.2 < n) {i j : Nat} (hi : i < n) (h : (overT (outs n gs) i).testBit j = true) : j < n := by
  rcases (overT_bit hn hg i j).1 h with h | h | ⟨k, _, h⟩
  · omega
  · exact (hg _ h).2
  · exact (hg _ h).2
theorem kingB_iff {n : Nat} {gs : List (Nat × Nat)} (hn : n ≤ 64) (hg : ∀ l ∈ gs, l.1 < n ∧ l.2 < n) {i : Nat} (hi : i < n) : kingB n gs i = true ↔ ∀ j, j < n → i = j ∨ (i, j) ∈ gs ∨ ∃ k, (i, k) ∈ gs ∧ (k, j) ∈ gs := by
  unfold kingB
  rw [beq_iff_eq]
  constructor
  · intro h j hj
    refine (overT_bit hn hg i j).1 ?_
    rw [h, testBit_below]; simpa using hj
  · intro h
    refine set_ext fun j => ?_
    rw [testBit_below]
    cases hb : (overT (outs n gs) i).testBit j with
    | true => have := overT_lt hn hg hi hb; simp [this]
    | false =>
      have : ¬ j < n := fun hj => by rw [(overT_bit hn hg i j).2 (h j hj)] at hb; cases hb
      simp [this]
theorem kings_named {n : Nat} {gs ms : List (Nat × Nat)} {p : List Nat} (hn : n ≤ 64) (hp : IsPerm n p) (hg : ∀ l ∈ gs, l.1 < n ∧ l.2 < n) (hm : ms.Perm (gs.map (mapL p))) :
    namedF (kingsF n gs) p = (kingsF n ms).map fun (i : Nat) => (i : Int) := named_those hp fun i hi => by
  have hml := moved_lt hp hg hm
  have hpl : ∀ {i}, i < n → at_ p i < n := fun hi => hp.get_lt hi
  rw [Bool.eq_iff_iff, kingB_iff hn hg hi, kingB_iff hn hml (hpl hi)]
  constructor
  · intro h x hx
    obtain ⟨j, hj, rfl⟩ := hp.surj hx
    rcases h j hj with e | e | ⟨k, e1, e2⟩
    · exact .inl (by rw [e]; rfl)
    · exact .inr (.inl ((mem_move hp hg hm hi hj).2 e))
    · exact .inr (.inr ⟨at_ p k, (mem_move hp hg hm hi (hg _ e1).2).2 e1, (mem_move hp hg hm (hg _ e1).2 hj).2 e2⟩)
  · intro h j hj
    rcases h (at_ p j) (hpl hj) with e | e | ⟨k, e1, e2⟩
    · exact .inl (hp.inj hi hj e)
    · exact .inr (.inl ((mem_move hp hg hm hi hj).1 e))
    · obtain ⟨q, hq, rfl⟩ := hp.surj (hml _ e1).2
      exact .inr (.inr ⟨q, (mem_move hp hg hm hi hq).1 e1, (mem_move hp hg hm hq hj).1 e2⟩)
end Go.Proofs.Ythalhapbllbefaa
