/- mixed: what it computes, no program in sight. -/
namespace Go.Proofs.Ythalhapbllbefaa

/-- The number of i, where a has no divisor with n. -/
def mixAt (n a b i : Nat) : Nat := (i * a + b) % n
def mixL (n a b : Nat) : List Nat := (List.range n).map (mixAt n a b)
theorem mixL_length (n a b : Nat) : (mixL n a b).length = n := by simp [mixL]
theorem mixAt_inj {n a b i j : Nat} (hc : Nat.gcd a n = 1) (hi : i < n) (hj : j < n) (h : mixAt n a b i = mixAt n a b j) : i = j := by
  have key : ∀ i j : Nat, i ≤ j → i < n → j < n → mixAt n a b i = mixAt n a b j → i = j := by
    intro i j hij hi hj h
    unfold mixAt at h
    have h1 : (j * a + b - (i * a + b)) % n = 0 := by
      have hle : i * a ≤ j * a := Nat.mul_le_mul_right a hij
      exact (Nat.sub_mod_eq_zero_of_mod_eq h.symm)
    have h2 : j * a + b - (i * a + b) = (j - i) * a := by rw [Nat.sub_mul]; omega
    rw [h2] at h1
    have h3 : n ∣ (j - i) * a := Nat.dvd_of_mod_eq_zero h1
    have hc' : Nat.Coprime n a := by unfold Nat.Coprime; rw [Nat.gcd_comm]; exact hc
    have h4 : n ∣ j - i := hc'.dvd_of_dvd_mul_right h3
    have h5 : j - i < n := by omega
    have := Nat.eq_zero_of_dvd_of_lt h4 h5
    omega
  rcases Nat.le_total i j with hij | hij
  · exact key i j hij hi hj h
  · exact (key j i hij hj hi h.symm).symm
/-- An order of the numbers below n. -/
structure IsPerm (n : Nat) (p : List Nat) : Prop where
  len : p.length = n
  lt : ∀ x ∈ p, x < n
  nodup : p.Nodup
theorem mixL_perm {n a b : Nat} (hc : Nat.gcd a n = 1) : IsPerm n (mixL n a b) := by
  refine ⟨mixL_length n a b, fun x hx => ?_, ?_⟩
  · obtain ⟨i, hi, rfl⟩ := List.mem_map.1 hx
    exact Nat.mod_lt _ (by have := List.mem_range.1 hi; omega)
  · unfold mixL
    rw [List.nodup_iff_pairwise_ne, List.pairwise_map]
    refine List.Pairwise.imp_of_mem ?_ List.nodup_range
    intro i j hi hj hne h
    exact hne (mixAt_inj hc (List.mem_range.1 hi) (List.mem_range.1 hj) h)
end Go.Proofs.Ythalhapbllbefaa
