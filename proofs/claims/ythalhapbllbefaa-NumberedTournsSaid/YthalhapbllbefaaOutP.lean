/- Out, Beside: what they compute. Strong parts: what they are. No program in sight. -/
import Derived.Test.YthalhapbllbefaaReachP
namespace Go.Proofs.Ythalhapbllbefaa

def outStep (o : List Nat) (l : Nat × Nat) : List Nat := o.set l.1 (sIns (o[l.1]?.getD 0) l.2)
def outs (n : Nat) (gs : List (Nat × Nat)) : List Nat := gs.foldl outStep (List.replicate n 0)
def besStep (o : List Nat) (l : Nat × Nat) : List Nat := o.set l.2 (sIns (o[l.2]?.getD 0) l.1)
def besides (n : Nat) (gs : List (Nat × Nat)) : List Nat := gs.foldl besStep (outs n gs)
def lineIn (n m : Nat) (l : Nat × Nat) : Prop := l.1 < n ∧ l.2 < m

theorem outStep_length (o : List Nat) (l : Nat × Nat) : (outStep o l).length = o.length := by simp [outStep]
theorem foldl_length {f : List Nat → Nat × Nat → List Nat} (hf : ∀ o l, (f o l).length = o.length) (gs : List (Nat × Nat)) (o : List Nat) : (gs.foldl f o).length = o.length := by
  induction gs generalizing o with
  | nil => rfl
  | cons g gs ih => simp [ih, hf]
theorem outs_length (n : Nat) (gs : List (Nat × Nat)) : (outs n gs).length = n := by unfold outs; rw [foldl_length outStep_length]; simp
theorem besides_length (n : Nat) (gs : List (Nat × Nat)) : (besides n gs).length = n := by unfold besides; rw [foldl_length (fun o l => by simp [besStep])]; exact outs_length n gs
theorem foldl_U64 {f : List Nat → Nat × Nat → List Nat} {p : Nat × Nat → Prop} (hf : ∀ o l, p l → (∀ s ∈ o, U64 s) → ∀ s ∈ f o l, U64 s) (gs : List (Nat × Nat)) (hp : ∀ l ∈ gs, p l) (o : List Nat) (ho : ∀ s ∈ o, U64 s) : ∀ s ∈ gs.foldl f o, U64 s := by
  induction gs generalizing o with
  | nil => exact ho
  | cons g gs ih => exact ih (fun l hl => hp l (by simp [hl])) _ (hf o g (hp g (by simp)) ho)
theorem outStep_U64 (o : List Nat) (l : Nat × Nat) (hl : l.2 < 64) (ho : ∀ s ∈ o, U64 s) : ∀ s ∈ outStep o l, U64 s := by
  intro s hs
  rcases List.mem_or_eq_of_mem_set hs with h | h
  · exact ho s h
  · rw [h]; exact (getD_U64 ho _).ins hl
theorem besStep_U64 (o : List Nat) (l : Nat × Nat) (hl : l.1 < 64) (ho : ∀ s ∈ o, U64 s) : ∀ s ∈ besStep o l, U64 s := by
  intro s hs
  rcases List.mem_or_eq_of_mem_set hs with h | h
  · exact ho s h
  · rw [h]; exact (getD_U64 ho _).ins hl
theorem outs_U64 {n : Nat} {gs : List (Nat × Nat)} (hg : ∀ l ∈ gs, l.2 < 64) : ∀ s ∈ outs n gs, U64 s :=
  foldl_U64 (p := fun l => l.2 < 64) (fun o l hl ho => outStep_U64 o l hl ho) gs hg _ (fun s hs => by rw [(List.mem_replicate.1 hs).2]; exact U64.zero)

def besTo (n : Nat) (gs : List (Nat × Nat)) (k : Nat) : List Nat := (gs.take k).foldl besStep (outs n gs)
theorem besTo_length (n : Nat) (gs : List (Nat × Nat)) (k : Nat) : (besTo n gs k).length = n := by unfold besTo; rw [foldl_length (fun o l => by simp [besStep])]; exact outs_length n gs
theorem besTo_U64 {n : Nat} {gs : List (Nat × Nat)} (hg : ∀ l ∈ gs, l.1 < 64 ∧ l.2 < 64) (k : Nat) : ∀ s ∈ besTo n gs k, U64 s :=
  foldl_U64 (p := fun l => l.1 < 64 ∧ l.2 < 64) (fun o l hl ho => besStep_U64 o l hl.1 ho) _ (fun l hl => hg l (List.mem_of_mem_take hl)) _ (outs_U64 (fun l hl => (hg l hl).2))
theorem besides_U64 {n : Nat} {gs : List (Nat × Nat)} (hg : ∀ l ∈ gs, l.1 < 64 ∧ l.2 < 64) : ∀ s ∈ besides n gs, U64 s :=
  foldl_U64 (p := fun l => l.1 < 64 ∧ l.2 < 64) (fun o l hl ho => besStep_U64 o l hl.1 ho) gs hg _ (outs_U64 (fun l hl => (hg l hl).2))


/-! ### what stands in them -/
theorem outStep_get {o : List Nat} {l : Nat × Nat} {i : Nat} (hl : l.1 < o.length) : ((outStep o l)[i]?.getD 0) = if i = l.1 then sIns (o[i]?.getD 0) l.2 else o[i]?.getD 0 := by
  unfold outStep
  by_cases h : i = l.1
  · subst h; rw [if_pos rfl, List.getElem?_set_self hl]; rfl
  · rw [if_neg h, List.getElem?_set_ne (fun e => h e.symm)]
theorem foldl_outStep_testBit (gs : List (Nat × Nat)) (o : List Nat) (hg : ∀ l ∈ gs, l.1 < o.length) (i j : Nat) :
    ((gs.foldl outStep o)[i]?.getD 0).testBit j = ((o[i]?.getD 0).testBit j || decide ((i, j) ∈ gs)) := by
  induction gs generalizing o with
  | nil => simp
  | cons l gs ih =>
    rw [List.foldl_cons, ih _ (fun l' hl' => by rw [outStep_length]; exact hg l' (by simp [hl'])), outStep_get (hg l (by simp))]
    by_cases h : i = l.1
    · rw [if_pos h, testBit_ins]
      by_cases h2 : l.2 = j
      · have e : (i, j) = l := by rw [h, ← h2]
        simp [h2, e]
      · have : (i, j) ≠ l := fun e => h2 (by rw [← e])
        simp [h2, this]
    · have : (i, j) ≠ l := fun e => h (by rw [← e])
      simp [if_neg h, this]
theorem outs_testBit {n : Nat} {gs : List (Nat × Nat)} (hg : ∀ l ∈ gs, l.1 < n) (i j : Nat) : ((outs n gs)[i]?.getD 0).testBit j = decide ((i, j) ∈ gs) := by
  unfold outs
  rw [foldl_outStep_testBit gs _ (by simpa using hg)]
  have : ((List.replicate n 0)[i]?.getD 0) = 0 := by
    rw [List.getElem?_replicate]; split <;> rfl
  rw [this]; simp
theorem besStep_get {o : List Nat} {l : Nat × Nat} {i : Nat} (hl : l.2 < o.length) : ((besStep o l)[i]?.getD 0) = if i = l.2 then sIns (o[i]?.getD 0) l.1 else o[i]?.getD 0 := by
  unfold besStep
  by_cases h : i = l.2
  · subst h; rw [if_pos rfl, List.getElem?_set_self hl]; rfl
  · rw [if_neg h, List.getElem?_set_ne (fun e => h e.symm)]
theorem foldl_besStep_testBit (gs : List (Nat × Nat)) (o : List Nat) (hg : ∀ l ∈ gs, l.2 < o.length) (i j : Nat) :
    ((gs.foldl besStep o)[i]?.getD 0).testBit j = ((o[i]?.getD 0).testBit j || decide ((j, i) ∈ gs)) := by
  induction gs generalizing o with
  | nil => simp
  | cons l gs ih =>
    rw [List.foldl_cons, ih _ (fun l' hl' => by simpa [besStep] using hg l' (by simp [hl'])), besStep_get (hg l (by simp))]
    by_cases h : i = l.2
    · rw [if_pos h, testBit_ins]
      by_cases h2 : l.1 = j
      · have e : (j, i) = l := by rw [h, ← h2]
        simp [h2, e]
      · have : (j, i) ≠ l := fun e => h2 (by rw [← e])
        simp [h2, this]
    · have : (j, i) ≠ l := fun e => h (by rw [← e])
      simp [if_neg h, this]
theorem besides_testBit {n : Nat} {gs : List (Nat × Nat)} (hg : ∀ l ∈ gs, l.1 < n ∧ l.2 < n) (i j : Nat) : ((besides n gs)[i]?.getD 0).testBit j = (decide ((i, j) ∈ gs) || decide ((j, i) ∈ gs)) := by
  unfold besides
  rw [foldl_besStep_testBit gs _ (fun l hl => by rw [outs_length]; exact (hg l hl).2), outs_testBit (fun l hl => (hg l hl).1)]

/-! ### strong parts -/
def swapL (l : Nat × Nat) : Nat × Nat := (l.2, l.1)
def bothF (n : Nat) (gs : List (Nat × Nat)) (i : Nat) : Nat := reachF (outs n gs) (sBelow n) i &&& reachF (outs n (gs.map swapL)) (sBelow n) i
def partF (n : Nat) (gs : List (Nat × Nat)) (i : Nat) : Nat := (pts (bothF n gs i))[0]?.getD 0
def partsF (n : Nat) (gs : List (Nat × Nat)) : List Nat := (List.range n).map (partF n gs)
theorem lt_of_testBit_outs {n : Nat} {gs : List (Nat × Nat)} (hU : ∀ s ∈ outs n gs, U64 s) {f : Nat} (hf : f < 64) : (reachF (outs n gs) (sBelow n) f).testBit f = true := ((reachF_U64 hU hf).2 f).2 .refl
theorem bothF_self {n : Nat} {gs : List (Nat × Nat)} (h1 : ∀ l ∈ gs, l.1 < 64 ∧ l.2 < 64) {i : Nat} (hi : i < 64) : U64 (bothF n gs i) ∧ (bothF n gs i).testBit i = true := by
  have hU1 : ∀ s ∈ outs n gs, U64 s := outs_U64 (fun l hl => (h1 l hl).2)
  have hU2 : ∀ s ∈ outs n (gs.map swapL), U64 s := outs_U64 (fun l hl => by obtain ⟨l', hl', rfl⟩ := List.mem_map.1 hl; exact (h1 l' hl').1)
  refine ⟨(reachF_U64 hU1 hi).1.and, ?_⟩
  unfold bothF
  rw [testBit_and, lt_of_testBit_outs hU1 hi, lt_of_testBit_outs hU2 hi]; rfl
theorem bothF_pts {n : Nat} {gs : List (Nat × Nat)} (h1 : ∀ l ∈ gs, l.1 < 64 ∧ l.2 < 64) {i : Nat} (hi : i < 64) : ∃ r, pts (bothF n gs i) = partF n gs i :: r := by
  obtain ⟨hU, hb⟩ := bothF_self (n := n) h1 hi
  have hm := (mem_pts' hU).2 hb
  cases h : pts (bothF n gs i) with
  | nil => rw [h] at hm; cases hm
  | cons p r => exact ⟨r, by unfold partF; rw [h]; rfl⟩
theorem partsF_length (n : Nat) (gs : List (Nat × Nat)) : (partsF n gs).length = n := by simp [partsF]
end Go.Proofs.Ythalhapbllbefaa
