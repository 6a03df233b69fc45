/- named: points by their other numbers, rising. -/
import Derived.Test.YthalhapbllbefaaSortP
import Derived.Test.YthalhapbllbefaaStrong
import Derived.Test.YthalhapbllbefaaShelf
import Derived.Sort.OwnSortedInts
namespace Go.Proofs.Ythalhapbllbefaa
open Go.RowKit Go.Sort Go.Shelf

theorem sort_row {base : Nat} {v : Value} {l : List Int} (w : World) (h : w.ownsRow base 3 1 v l.length (l.map ivs)) (hb : base ≤ w.heap.size) (hl : l.length ≤ 1000000) :
    Calls Try.prog 76 #[v] w fun e w' => e = .returned (.tuple #[]) ∧ w'.ownsRow base 3 1 v l.length ((srt l).map ivs) ∧ Below base w w' := by
  rcases h.2 with ⟨rfl, h0⟩ | ⟨g, cap, cur, rfl, hg, hcur, h1, h2, h3, h4⟩
  · have hz : l = [] := List.eq_nil_of_length_eq_zero (by simpa using h0)
    subst hz
    refine (Try.slices_Sort_int_none none 0 w).mono ?_
    rintro e w' ⟨rfl, rfl⟩
    exact ⟨rfl, by simpa [srt] using h, Below.refl _ _⟩
  · have hh := holds_of_blockI (ss := l) hcur (by rw [Nat.mul_one] at h4; exact h4)
    refine (Try.slices_Sort_int g 0 cap l w hh (Array.getElem?_eq_some_iff.1 hcur).1 (by omega)).mono ?_
    rintro e w' ⟨rfl, n, os, rfl⟩
    refine ⟨rfl, ownsRow_sortedI (n := n) (os := os) (srt_length l) hg hcur h1 h2 h3, ?_⟩
    exact (Below.refl base w).grown (grownBy_sortedI (w := w) (g := g) (n := n) (os := os) _) hb (fun k e => by have := Option.some.inj e; omega)

set_option maxRecDepth 100000 in
set_option maxHeartbeats 2000000 in
theorem named_any (n : Nat) (a b : Option Addr) (ca cb : Nat) (l p : List Nat) (len np : Nat) (w : World) (hx : Rd w a (l.map iv)) (hpr : Rd w b (p.map iv)) (hl : l.length = len) (hnp : np = n) (hp : IsPerm n p) (hlt : ∀ i ∈ l, i < n) (hn : len ≤ 1000) (hn2 : n ≤ 1000) :
    Calls Try.prog 28 #[.slice a len ca, .slice b np cb] w fun e w' => ∃ v, e = .returned v ∧ w'.ownsRow w.heap.size 3 1 v len ((namedF l p).map ivs) ∧ Ext w w' := by
  subst hnp
  obtain ⟨i0, hi, hz0, hz1, hz2⟩ := info_parts infoInt
  have Hl := Lib.hid hl; have Hp := Lib.hid hp; have Hlt := Lib.hid hlt
  clear hl hp hlt
  go_enter Try.func28, Try.ntmps28
  go_wp2
  go_loopw [5, 6] (fun t i wr => ∃ k : Nat, k ≤ len ∧ i = .int .i64 k ∧ wr.ownsRow w.heap.size 3 1 t k (((l.take k).map fun i => (at_ p i : Int)).map ivs) ∧ Ext w wr) (fun _ i _ => len - (intOf i).toNat)
  case atStart => exact ⟨0, by omega, rfl, by simpa using World.ownsRow_nil _ _ _ _, Below.refl _ _⟩
  case round =>
    obtain ⟨k, hk, rfl, hown, hE⟩ := hrel
    have hEs := hE.size
    by_cases hlt : k < len
    · have hxk : l[k]? = some (at_ l k) := by rw [List.getElem?_eq_getElem (by rw [Hl.out]; exact hlt)]; simp [at_, Hl.out, hlt]
      obtain ⟨b1, o1, rfl, hc1⟩ := (hx.ext hE).get (i := k) (v := iv (at_ l k)) (by rw [List.getElem?_map, hxk]; rfl)
      have hxn := Hlt.out _ (mem_of_get hxk)
      obtain ⟨b2, o2, rfl, hc2⟩ := (hpr.ext hE).get (i := at_ l k) (v := iv (at_ p (at_ l k))) (by rw [List.getElem?_map, Hp.out.get hxn]; rfl)
      have htk := take_snoc hxk
      obtain ⟨x, hxx⟩ : ∃ x, at_ l k = x := ⟨_, rfl⟩
      rw [hxx] at hc1 hc2 hxn htk
      obtain ⟨y, hy⟩ : ∃ y, at_ p x = y := ⟨_, rfl⟩
      rw [hy] at hc2
      simp only [iv] at hc1 hc2
      have Htk := Lib.hid htk; have Hx := Lib.hid hx; have Hpr := Lib.hid hpr; have Hy := Lib.hid hy
      clear htk hxk hxx hx hpr hy
      go_wp2_with (at_builtin; refine wpList_append_own _ rfl _ _ 23 rfl w.heap.size 3 i0 (.int .i64 0) 1 8 Try.underlying23 hi hz0 hz1 hz2 rfl (by decide) _ k _ rfl (hown.alloc _) ⟨wr.heap.size, 0, none⟩ 1 1 [.int .i64 (y : Nat)] rfl rfl (cell_one_new _ _ _) (by simp [Value.oneCell']) (by unfold maxLen; omega) (by omega) (by simp; omega) ?_; intro v' w6 hown' hgrow _)
      refine ⟨⟨k + 1, by omega, by go_num, ?_, (hE.alloc (by omega) _).grown hgrow (by simp; omega) (fun j e => (hown.lt j e).1)⟩, by simp [intOf]; omega⟩
      rw [Htk.out, List.map_append, List.map_append, List.map_cons, List.map_nil, List.map_cons, List.map_nil, Hy.out]
      exact hown'
    · obtain rfl : len = k := by omega
      rw [List.take_of_length_le (by rw [Hl.out]; omega)] at hown
      have hml : (l.map fun i => (at_ p i : Int)).length = len := by rw [List.length_map, Hl.out]
      have hsort := sort_row (base := w.heap.size) (v := u5) (l := l.map fun i => (at_ p i : Int)) wr (by rw [hml]; exact hown) hEs (by rw [hml]; omega)
      rw [hml] at hsort
      have Hs := Lib.hid hsort
      clear hown hsort hml
      go_wp2_with (go_at_call 76; refine Hs.out.mono ?_; rintro e w2 ⟨rfl, hr2, hb2⟩)
      go_ret
      exact ⟨_, rfl, hr2, hE.trans hb2⟩
end Go.Proofs.Ythalhapbllbefaa
