/- mixed: the numbers from 0 to n - 1 in another order. -/
import Derived.Test.YthalhapbllbefaaReach
import Derived.Test.YthalhapbllbefaaMixedP
import Derived.IntWalk
namespace Go.Proofs.Ythalhapbllbefaa
open Go.RowKit

theorem ext_drewN (w : World) (k : Nat) : Ext w (w.drewN k) := ⟨rfl, rfl, rfl, Nat.le_refl _, fun _ _ => rfl⟩
theorem tmod_nat (a b : Nat) : (a : Int).tmod (b : Int) = ((a % b : Nat) : Int) := (Int.ofNat_tmod a b).symm

set_option maxRecDepth 100000 in
set_option maxHeartbeats 1000000 in
theorem apart_any (x y : Nat) (w : World) (hx : x ≤ 1000) (hy : y ≤ 1000) :
    Calls Try.prog 56 #[.int .i64 x, .int .i64 y] w fun e w' => e = .returned (.bool (Nat.gcd x y == 1)) ∧ Ext w w' := by
  go_enter Try.func56, Try.ntmps56
  go_wp2
  go_loopw [0, 1] (fun u v wr => ∃ a b : Nat, u = .int .i64 a ∧ v = .int .i64 b ∧ a ≤ 1000 ∧ b ≤ 1000 ∧ Nat.gcd a b = Nat.gcd x y ∧ Ext w wr) (fun _ v _ => (intOf v).toNat)
  case atStart => exact ⟨x, y, rfl, rfl, hx, hy, rfl, Below.refl _ _⟩
  case round =>
    obtain ⟨a, b, rfl, rfl, ha, hb, hg, hE⟩ := hrel
    have Hg := Lib.hid hg; clear hg
    by_cases hz : b = 0
    · subst hz
      go_wp2
      go_ret
      refine ⟨ret_bool ?_, hE⟩
      have := Hg.out
      rw [Nat.gcd_zero_right] at this
      rw [← this]
      exact decide_eq_decide.2 (by omega)
    · have hb0 : ((b : Int) != 0) = true := bne_iff_ne.2 (by omega)
      go_wp2
      go_still (by kernel_rfl)
      rw [tmod_nat]
      have hmod := Nat.mod_lt a (Nat.pos_of_ne_zero hz)
      go_wp2
      go_roundw
      case rel => exact ⟨b, a % b, rfl, rfl, hb, by have := Nat.mod_lt a (Nat.pos_of_ne_zero hz); omega, by rw [← Hg.out, Nat.gcd_comm b, ← Nat.gcd_rec, Nat.gcd_comm], hE.drew⟩
      case measure => exact (show (intOf (.int .i64 ((a % b : Nat) : Int))).toNat < (intOf (.int .i64 (b : Int))).toNat from Nat.mod_lt _ (Nat.pos_of_ne_zero hz))

theorem wrap_u64 (a : Int) : ∃ A : Nat, IntKind.u64.wrap a = (A : Int) := by
  simp only [IntKind.wrap, IntKind.bits, IntKind.signed, Bool.false_and, Bool.false_eq_true, if_false]
  exact ⟨(a % (2 ^ 64 : Int)).toNat, by omega⟩
theorem wrap_u64_nat (n : Nat) (h : n ≤ 1000) : IntKind.u64.wrap (n : Int) = (n : Int) := by
  simp only [IntKind.wrap, IntKind.bits, IntKind.signed, Bool.false_and, Bool.false_eq_true, if_false]
  omega
theorem wrap_i64_nat (n : Nat) (h : n ≤ 1000000) : IntKind.i64.wrap (n : Int) = (n : Int) := IntWalk.i64_in _ (by omega)
def mixMu (n a : Nat) : Nat := if a ≤ 1 then 1 - a else n + 2 - a

set_option maxRecDepth 100000 in
set_option maxHeartbeats 1000000 in
theorem mixed_pos (n : Nat) (a b : Int) (w : World) (hn : 0 < n) (hn2 : n ≤ 64) :
    Calls Try.prog 17 #[.int .i64 n, .int .i64 a, .int .i64 b] w fun e w' => ∃ v p, e = .returned v ∧ IsPerm n p ∧ NewRow w' w.heap.size 3 v (p.map iv) ∧ Ext w w' := by
  obtain ⟨A, hA⟩ := wrap_u64 a
  obtain ⟨B, hB⟩ := wrap_u64 b
  have hwn := wrap_u64_nat n (by omega)
  have hn0 : ¬ (n : Int) = 0 := by omega
  obtain ⟨x, hx⟩ : ∃ x, A % n = x := ⟨_, rfl⟩
  obtain ⟨y, hy⟩ : ∃ y, B % n = y := ⟨_, rfl⟩
  have hxn : x < n := by rw [← hx]; exact Nat.mod_lt _ hn
  have hyn : y < n := by rw [← hy]; exact Nat.mod_lt _ hn
  have htA : (A : Int).tmod (n : Int) = (x : Int) := by rw [tmod_nat, hx]
  have htB : (B : Int).tmod (n : Int) = (y : Int) := by rw [tmod_nat, hy]
  clear hx hy
  go_enter Try.func17, Try.ntmps17
  go_wp2
  go_still (by kernel_rfl)
  clear hA hB hwn htA htB
  rw [wrap_i64_nat x (by omega), wrap_i64_nat y (by omega)]
  go_wp2
  go_loopw [1] (fun u wr => ∃ x : Nat, u = .int .i64 x ∧ x ≤ n ∧ Ext w wr) (fun u _ => mixMu n (intOf u).toNat)
  case atStart => exact ⟨x, rfl, by omega, (Below.refl _ w).drew⟩
  case round =>
    clear hxn
    obtain ⟨x, rfl, hxn, hE⟩ := hrel
    cases hc : (Nat.gcd x n == 1) with
    | false =>
      have hx1 : x ≠ 1 := fun e => by subst e; simp at hc
      have Hc := Lib.hid hc; clear hc
      go_wp2_with (go_at_call 56; refine (apart_any x n _ (by omega) (by omega)).mono ?_; rintro e w1 ⟨rfl, hB1⟩; rw [Hc.out])
      have hcast : (((x : Int) + 1) % ((n : Int) + 1)) = (((x + 1) % (n + 1) : Nat) : Int) := by push_cast; rfl
      rw [hcast]
      refine ⟨⟨(x + 1) % (n + 1), rfl, by have := Nat.mod_lt (x + 1) (show 0 < n + 1 by omega); omega, ext_trans hE hB1⟩, ?_⟩
      show mixMu n ((x + 1) % (n + 1)) < mixMu n x
      unfold mixMu
      by_cases hxe : x = n
      · subst hxe
        have h2 : ¬ x ≤ 1 := by omega
        rw [Nat.mod_self, if_pos (by omega), if_neg h2]
        omega
      · rw [Nat.mod_eq_of_lt (by omega)]
        split <;> split <;> omega
    | true =>
      have hgcd : Nat.gcd x n = 1 := by simpa using hc
      have Hg := Lib.hid hgcd; have Hc := Lib.hid hc
      clear hgcd hc
      have hmk := run_make_row' 23 3 (.int .i64 0) 8 Try.underlying23 infoInt rfl .i64 .i64 n (by omega) (by omega)
      go_wp2_with (go_at_call 56; refine (apart_any x n _ (by omega) (by omega)).mono ?_; rintro e w1 ⟨rfl, hB1⟩; rw [Hc.out])
      clear hmk
      have hE1 := ext_trans hE hB1
      have hrow := RowAt.made w1 3 (.int .i64 0) n
      have hB2 := hE1.alloc hE1.size (.cells (madeCells #[.int .i64 0] n) 3)
      have hs1 := hE1.size
      clear hE hB1
      have hg1 : w1.heap.size < (w1.alloc (.cells (madeCells #[.int .i64 0] n) 3)).heap.size := by simp
      generalize w1.heap.size = g at *
      go_loopw [9] (fun i wr => ∃ (k : Nat) (cs : List Value), k ≤ n ∧ i = .int .i64 k ∧ RowAt wr g 3 cs ∧ cs.length = n ∧ (∀ j, j < k → cs[j]? = some (iv (mixAt n x y j))) ∧ Below w.heap.size w wr) (fun i _ => n - (intOf i).toNat)
      case atStart => exact ⟨0, _, by omega, rfl, hrow, by simp, fun j h => by omega, hB2⟩
      case round =>
        clear hrow hB2
        obtain ⟨k, cs, hk, rfl, hrw, hcl, hcs, hB⟩ := hrel
        have Hcs := Lib.hid hcs; have Hcl := Lib.hid hcl
        clear hcs
        by_cases hlt : k < n
        · have hm0 : 0 ≤ (k : Int) * (x : Int) := Int.mul_nonneg (by omega) (by omega)
          have hm1 : (k : Int) * (x : Int) ≤ 10000 := by
            have h1 : k * x ≤ 64 * 64 := Nat.mul_le_mul (by omega) (by omega)
            have h2 : ((k * x : Nat) : Int) ≤ 4096 := by omega
            push_cast at h2; omega
          have hcell : wr.cell? ⟨g, k, none⟩ = some (cs[k]'(by omega)) := hrw.cell (List.getElem?_eq_getElem (by omega))
          have hfr := hrw.frozen k
          have hlt2 := hrw.lt
          generalize cs[k]'(by omega) = old at hcell
          clear hcl
          go_wp2
          have e : Value.int .i64 (((k : Int) * (x : Int) + (y : Int)) % (n : Int)) = iv (mixAt n x y k) := by simp [iv, mixAt]
          rw [e]
          refine ⟨⟨k + 1, cs.set k (iv (mixAt n x y k)), by omega, by go_num, hrw.set k _, by simp [Hcl.out], fun j hj => ?_, hB.setCell (p := ⟨g, k, none⟩) (by omega) _⟩, by simp [intOf]; omega⟩
          by_cases hjk : j = k
          · subst hjk
            rw [List.getElem?_set_self (by rw [Hcl.out]; exact hlt)]
          · rw [List.getElem?_set_ne (fun e => hjk e.symm)]
            exact Hcs.out j (by omega)
        · have hfin : cs = (mixL n x y).map iv := by
            apply List.ext_getElem?
            intro j
            by_cases hj : j < n
            · rw [Hcs.out j (by omega)]; simp [mixL, hj]
            · rw [List.getElem?_eq_none (by omega), List.getElem?_eq_none (by simp [mixL_length]; omega)]
          rw [hfin] at hrw
          have hr : NewRow wr w.heap.size 3 (.slice (some ⟨g, 0, none⟩) n n) ((mixL n x y).map iv) := ⟨g, by simp [mixL_length], by omega, hrw⟩
          clear hfin hcl
          go_wp2
          go_ret
          exact ⟨_, _, rfl, mixL_perm Hg.out, hr, hB⟩

theorem mixed_none (n a b : Int) (w : World) (hn : n ≤ 0) :
    Calls Try.prog 17 #[.int .i64 n, .int .i64 a, .int .i64 b] w fun e w' => e = .returned (.slice none 0 0) ∧ w = w' := by
  go_enter Try.func17, Try.ntmps17
  go_wp2
  go_ret
  exact ⟨rfl, rfl⟩

/-- An order of the numbers below n as a slice. -/
def PermAt (W : World) (B : Nat) (v : Value) (p : List Nat) : Prop := ∃ a c, v = .slice a p.length c ∧ Rd W a (p.map iv) ∧ ∀ b off, a = some ⟨b, off, none⟩ → B ≤ b
theorem PermAt.ext {W W' : World} {B : Nat} {v : Value} {p : List Nat} (h : PermAt W B v p) (s : Ext W W') : PermAt W' B v p := let ⟨a, c, h1, h2, h3⟩ := h; ⟨a, c, h1, h2.ext s, h3⟩

theorem mixed_any (n : Nat) (a b : Int) (w : World) (hn2 : n ≤ 64) :
    Calls Try.prog 17 #[.int .i64 n, .int .i64 a, .int .i64 b] w fun e w' => ∃ v p, e = .returned v ∧ IsPerm n p ∧ PermAt w' w.heap.size v p ∧ Ext w w' := by
  by_cases h : n = 0
  · subst h
    exact (mixed_none 0 a b w (by omega)).mono fun e w' ⟨h1, h2⟩ => ⟨_, [], h1, ⟨rfl, by simp, by simp⟩, ⟨none, 0, rfl, Rd.nil _ _, by simp⟩, by rw [h2]; exact Below.refl _ _⟩
  · refine (mixed_pos n a b w (by omega) hn2).mono ?_
    rintro e w' ⟨v, p, rfl, hp, ⟨g, rfl, hg, hr⟩, hE⟩
    exact ⟨_, p, rfl, hp, ⟨_, _, by rw [List.length_map], hr.rd, fun b off e => by cases e; exact hg⟩, hE⟩
end Go.Proofs.Ythalhapbllbefaa
