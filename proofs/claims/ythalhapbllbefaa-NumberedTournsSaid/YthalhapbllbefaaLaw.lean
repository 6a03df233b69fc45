/- What the laws' walks have alike. -/
import Derived.Test.YthalhapbllbefaaEqual
import Derived.Test.YthalhapbllbefaaStrongP
namespace Go.Proofs.Ythalhapbllbefaa
open Go.RowKit

theorem iv_ivs (xs : List Nat) : xs.map iv = (xs.map fun (x : Nat) => (x : Int)).map ivs := by rw [List.map_map]; rfl
theorem equal_nat (a b : Option Addr) (ca cb : Nat) (xs ys : List Nat) (n m : Nat) (w : World) (hx : Rd w a (xs.map iv)) (hy : Rd w b (ys.map iv)) (hn : xs.length = n) (hm : ys.length = m) (h64 : n ≤ 1000000) :
    Calls Try.prog 15 #[.slice a n ca, .slice b m cb] w fun e w' => e = .returned (.bool (decide (xs = ys))) ∧ Ext w w' := by
  subst hn; subst hm
  have h := equal_any a b ca cb (xs.map fun (x : Nat) => (x : Int)) (ys.map fun (x : Nat) => (x : Int)) w (by rw [← iv_ivs]; exact hx) (by rw [← iv_ivs]; exact hy) (by simpa using h64)
  simp only [List.length_map] at h
  have e : decide ((xs.map fun (x : Nat) => (x : Int)) = ys.map fun (x : Nat) => (x : Int)) = decide (xs = ys) := by
    rw [decide_eq_decide]
    exact ⟨fun h => (List.map_inj_right (fun _ _ h => Int.ofNat.inj h)).1 h, fun h => by rw [h]⟩
  rw [e] at h
  exact h

theorem moved_gr {n : Nat} {gs ms : List (Nat × Nat)} {p : List Nat} (hG : Gr n gs) (hp : IsPerm n p) (hm : ms.Perm (gs.map (mapL p))) : Gr n ms where
  n1 := hG.n1
  n8 := hG.n8
  len := by have := hm.length_eq; rw [List.length_map] at this; have := hG.len; omega
  lt := moved_lt hp hG.lt hm
  ne := fun l hl => by
    obtain ⟨l', hl', rfl⟩ := List.mem_map.1 (hm.mem_iff.1 hl)
    exact fun e => hG.ne l' hl' (hp.inj (hG.lt l' hl').1 (hG.lt l' hl').2 e)
theorem equal_int (a b : Option Addr) (ca cb : Nat) (xs ys : List Int) (n m : Nat) (w : World) (hx : Rd w a (xs.map ivs)) (hy : Rd w b (ys.map ivs)) (hn : xs.length = n) (hm : ys.length = m) (h64 : n ≤ 1000000) :
    Calls Try.prog 15 #[.slice a n ca, .slice b m cb] w fun e w' => e = .returned (.bool (decide (xs = ys))) ∧ Ext w w' := by
  subst hn; subst hm
  exact equal_any a b ca cb xs ys w hx hy h64
/-- The path 0-1-2. -/
def wayL : List (Nat × Nat) := [(0, 1), (1, 2)]
theorem wayG : Gr 3 wayL := ⟨by decide, by decide, by decide, by decide, by decide⟩
theorem way_any (w : World) : Calls Try.prog 23 #[] w fun e w' => ∃ a, e = .returned (.slice a 2 2) ∧ Rd w' a (lcn wayL) ∧ Ext w w' := by
  have h := (RowAt.new w 37 (lcn wayL)).rd
  have hE : Ext w (w.alloc (.cells (lcn wayL).toArray 37)) := (Below.refl _ _).alloc (Nat.le_refl _) _
  go_enter Try.func23, Try.ntmps23
  go_wp2
  go_ret
  exact ⟨_, rfl, h, hE⟩
end Go.Proofs.Ythalhapbllbefaa
