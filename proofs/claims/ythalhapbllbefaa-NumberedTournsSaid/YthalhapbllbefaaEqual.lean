/- slices.Equal on ints; way; alike; put. -/
import Derived.Test.YthalhapbllbefaaMoved
namespace Go.Proofs.Ythalhapbllbefaa
open Go.RowKit

theorem take_ne {α : Type} {xs ys : List α} {k : Nat} {x y : α} (hx : xs[k]? = some x) (hy : ys[k]? = some y) (h : x ≠ y) : xs ≠ ys := fun e => by subst e; rw [hx] at hy; cases hy; exact h rfl

set_option maxRecDepth 100000 in
set_option maxHeartbeats 1000000 in
theorem equal_any (a b : Option Addr) (ca cb : Nat) (xs ys : List Int) (w : World) (hx : Rd w a (xs.map ivs)) (hy : Rd w b (ys.map ivs)) (hn : xs.length ≤ 1000000) :
    Calls Try.prog 15 #[.slice a xs.length ca, .slice b ys.length cb] w fun e w' => e = .returned (.bool (decide (xs = ys))) ∧ Ext w w' := by
  by_cases hl : xs.length = ys.length
  · have hlb : (((xs.length : Nat) : Int) != (ys.length : Nat)) = false := by simp [hl]
    go_enter Try.func15, Try.ntmps15
    rw [← hl]
    have Hl := Lib.hid hl; clear hl hlb
    go_wp2
    go_loopw [13] (fun i wr => ∃ k : Nat, k ≤ xs.length ∧ i = .int .i64 k ∧ xs.take k = ys.take k ∧ Ext w wr) (fun i _ => xs.length - (intOf i).toNat)
    case atStart => exact ⟨0, by omega, rfl, by simp, Below.refl _ _⟩
    case round =>
      obtain ⟨k, hk, rfl, ht, hE⟩ := hrel
      have Ht := Lib.hid ht; clear ht
      by_cases hlt : k < xs.length
      · obtain ⟨x, hxk, hcx⟩ := getIv hlt
        obtain ⟨y, hyk, hcy⟩ := getIv (xs := ys) (k := k) (by rw [← Hl.out]; exact hlt)
        obtain ⟨ba, oa, rfl, hca⟩ := (hx.ext hE).get hcx
        obtain ⟨bb, ob, rfl, hcb⟩ := (hy.ext hE).get hcy
        clear hx hy hcx hcy
        cases hxy : x != y with
        | true =>
          have hne := take_ne hxk.out hyk.out (bne_iff_ne.1 hxy)
          have Hne := Lib.hid hne; clear hne
          go_wp2
          refine region_still (by kernel_rfl) (by kernel_rfl) ?_
          repeat still_step
          refine wpStill_nil ?_
          go_wp2
          go_ret
          exact ⟨ret_bool (by simp [Hne.out]), hE.drew⟩
        | false =>
          have hxy' : x = y := by simpa using hxy
          have Hxy := Lib.hid hxy'; clear hxy'
          go_wp2
          refine region_still (by kernel_rfl) (by kernel_rfl) ?_
          repeat still_step
          refine wpStill_nil ?_
          go_wp2
          go_roundw
          case rel => exact ⟨k + 1, by omega, by go_num, by rw [take_snoc hxk.out, take_snoc hyk.out, Ht.out, Hxy.out], hE.drew⟩
          case measure => simp [intOf]; omega
      · have heq : xs = ys := by
          have := Ht.out
          rwa [List.take_of_length_le (by omega), List.take_of_length_le (by have := Hl.out; omega)] at this
        have Heq := Lib.hid heq; clear heq
        go_wp2
        go_ret
        exact ⟨ret_bool (by simp [Heq.out]), hE⟩
  · have hlb : (((xs.length : Nat) : Int) != (ys.length : Nat)) = true := bne_iff_ne.2 (by omega)
    have hne : xs ≠ ys := fun e => hl (by rw [e])
    have Hne := Lib.hid hne; clear hne
    go_enter Try.func15, Try.ntmps15
    go_wp2
    go_ret
    exact ⟨ret_bool (by simp [Hne.out]), Below.refl _ _⟩

/-- Two numbers of vertices are parted alike, where the second ones have others. -/
def Alike (n : Nat) (x y p : List Nat) : Prop := ∀ i j, i < n → j < n → (at_ x i = at_ x j ↔ at_ y (at_ p i) = at_ y (at_ p j))

theorem rdN {W : World} {a : Option Addr} {xs : List Nat} (h : Rd W a (xs.map iv)) {i : Nat} (hi : i < xs.length) : ∃ b off, a = some ⟨b, off, none⟩ ∧ W.cell? ⟨b, off + i, none⟩ = some (.int .i64 (at_ xs i : Nat)) :=
  h.get (v := iv (at_ xs i)) (by rw [List.getElem?_map, List.getElem?_eq_getElem hi]; simp [at_, hi])

set_option maxRecDepth 100000 in
set_option maxHeartbeats 2000000 in
theorem alike_true (n : Nat) (a b c : Option Addr) (ca cb cc : Nat) (x y p : List Nat) (w : World) (hx : Rd w a (x.map iv)) (hy : Rd w b (y.map iv)) (hpr : Rd w c (p.map iv)) (hn : n ≤ 64) (hxl : x.length = n) (hyl : y.length = n) (hp : IsPerm n p) (hal : Alike n x y p) :
    Calls Try.prog 32 #[.slice a n ca, .slice b n cb, .slice c n cc] w fun e w' => e = .returned (.bool true) ∧ Ext w w' := by
  have Hxl := Lib.hid hxl; have Hyl := Lib.hid hyl; have Hp := Lib.hid hp; have Hal := Lib.hid hal
  clear hxl hyl hp hal
  go_enter Try.func32, Try.ntmps32
  go_wp2
  go_loopw [7] (fun i wr => ∃ k : Nat, k ≤ n ∧ i = .int .i64 k ∧ Ext w wr) (fun i _ => n - (intOf i).toNat)
  case atStart => exact ⟨0, by omega, rfl, Below.refl _ _⟩
  case round =>
    obtain ⟨k, hk, rfl, hE⟩ := hrel
    by_cases hlt : k < n
    · obtain ⟨wo, rfl⟩ : ∃ wo : World, wo = wr := ⟨_, rfl⟩
      go_wp2
      go_loopw [8] (fun i wi => ∃ m : Nat, m ≤ n ∧ i = .int .i64 m ∧ Ext w wi) (fun i _ => n - (intOf i).toNat)
      case atStart => exact ⟨0, by omega, rfl, hE⟩
      case round =>
        obtain ⟨m, hm, rfl, hE2⟩ := hrel
        clear hE
        by_cases hlm : m < n
        · have hxk := rdN (hx.ext hE2) (i := k) (by rw [Hxl.out]; exact hlt)
          have hxm := rdN (hx.ext hE2) (i := m) (by rw [Hxl.out]; exact hlm)
          have hpk := rdN (hpr.ext hE2) (i := k) (by rw [Hp.out.len]; exact hlt)
          have hpm := rdN (hpr.ext hE2) (i := m) (by rw [Hp.out.len]; exact hlm)
          have hpkl := Hp.out.get_lt hlt
          have hpml := Hp.out.get_lt hlm
          have hyk := rdN (hy.ext hE2) (i := at_ p k) (by rw [Hyl.out]; exact hpkl)
          have hym := rdN (hy.ext hE2) (i := at_ p m) (by rw [Hyl.out]; exact hpml)
          have heq := Hal.out k m hlt hlm
          change at_ p k < n at hpkl
          change at_ p m < n at hpml
          clear hx hy hpr
          generalize at_ y (at_ p k) = yk at *
          generalize at_ y (at_ p m) = ym at *
          generalize at_ p k = pk at *
          generalize at_ p m = pm at *
          generalize at_ x k = xk at *
          generalize at_ x m = xm at *
          obtain ⟨xb, xo, rfl, hc1⟩ := hxk
          obtain ⟨_, _, e, hc2⟩ := hxm
          cases e
          obtain ⟨pb, po, rfl, hc3⟩ := hpk
          obtain ⟨_, _, e, hc4⟩ := hpm
          cases e
          obtain ⟨yb, yo, rfl, hc5⟩ := hyk
          obtain ⟨_, _, e, hc6⟩ := hym
          cases e
          have hbb : ((((xk : Nat) : Int) == (xm : Nat)) == (((yk : Nat) : Int) == (ym : Nat))) = true := by
            by_cases h : xk = xm
            · rw [h, heq.1 h]; simp
            · have h2 := fun e => h (heq.2 e)
              rw [beq_eq_false_iff_ne.2 (show (xk : Int) ≠ xm by omega), beq_eq_false_iff_ne.2 (show (yk : Int) ≠ ym by omega)]; rfl
          clear heq
          go_wp2
          refine region_still (by kernel_rfl) (by kernel_rfl) ?_
          repeat still_step
          refine wpStill_nil ?_
          go_wp2
          exact ⟨⟨m + 1, by omega, by go_num, hE2.drew⟩, by simp [intOf]; omega⟩
        · go_wp2
          go_roundw
          case rel => exact ⟨k + 1, by omega, by go_num, hE2⟩
          case measure => simp [intOf]; omega
    · go_wp2
      go_ret
      exact ⟨ret_bool (by simp), hE⟩
end Go.Proofs.Ythalhapbllbefaa
