/- strong.Parts and strong.Fold. -/
import Derived.Test.YthalhapbllbefaaEqual
namespace Go.Proofs.Ythalhapbllbefaa
open Go.RowKit

theorem lcn_snoc (gs : List (Nat × Nat)) (l : Nat × Nat) : lcn (gs ++ [l]) = lcn gs ++ [iv l.1, iv l.2] := by simp [lcn, nv]
theorem rd_new2 (w : World) (x y : Value) (t : TypeId) : ∀ j u, [x, y][j]? = some u → (w.alloc (.cells #[x, y] t)).cell? ((⟨w.heap.size, 0, none⟩ : Addr).add j) = some u := by
  intro j u h
  obtain ⟨b, off, e, hc⟩ := rd_two w x y t j u h
  cases e
  rw [show (⟨w.heap.size, 0, none⟩ : Addr).add j = ⟨w.heap.size, 0 + j, none⟩ by unfold Addr.add; split <;> simp_all]
  exact hc
theorem row_lines {base n : Nat} {W : World} {e : TypeId} {v : Value} {gs : List (Nat × Nat)} (h : W.ownsRow base e 2 v n (lcn gs)) : n = gs.length ∧ LinesAt W base v gs := by
  have hl := h.1
  rw [lcn_length] at hl
  have hn : n = gs.length := by omega
  refine ⟨hn, ?_⟩
  obtain ⟨a, c, rfl, hr, _⟩ := row_rd h
  refine ⟨a, c, by rw [hn], hr, fun b off e => ?_⟩
  subst e
  exact (h.lt b rfl).1

set_option maxRecDepth 100000 in
set_option maxHeartbeats 2000000 in
theorem parts_any (n : Nat) (al : Option Addr) (cap : Nat) (gs : List (Nat × Nat)) (w : World) (hx : Rd w al (lcn gs)) (hG : Gr n gs) :
    Calls Try.prog 30 #[.int .i64 n, .slice al gs.length cap] w fun e w' => ∃ v, e = .returned (.tuple #[v, .nilIface]) ∧ w'.ownsRow w.heap.size 3 1 v n ((partsF n gs).map iv) ∧ Ext w w' := by
  obtain ⟨iL, hiL, hzL, hsL, hbL⟩ := info_parts infoLine
  obtain ⟨i0, hi, hz0, hz1, hz2⟩ := info_parts infoInt
  have hn8 := hG.n8
  have hl24 := hG.len
  have hok := gr_okG hG
  have hlen : (gs.map fun l => ((l.1 : Int), (l.2 : Int))).length = gs.length := by simp
  have hchk := fun (w : World) (hx : Rd w al (lcn gs)) => gcheck_any n al cap (gs.map fun l => ((l.1 : Int), (l.2 : Int))) w (by rw [lcells_cast]; exact hx) (by unfold maxLen; omega)
  rw [hlen] at hchk
  have Hchk := Lib.hid hchk; have Hok := Lib.hid hok
  have hlt2 : ∀ l ∈ gs, l.1 < n ∧ l.2 < 64 := fun l hl => ⟨(hG.lt l hl).1, by have := (hG.lt l hl).2; omega⟩
  have Hlt2 := Lib.hid hlt2
  have HG := Lib.hid hG
  clear hok hlen hchk hlt2 hG
  go_enter Try.func30, Try.ntmps30
  go_wp2_with (first
    | (go_at_call 64; refine (Hchk.out _ hx).mono ?_; rintro e w1 ⟨v, rfl, h1, h2⟩; obtain rfl := h1.1 Hok.out; clear h1)
    | (go_at_call 59; refine (out_any n al cap gs _ (hx.ext h2) (by omega) (by omega) Hlt2.out).mono ?_; rintro e w2 ⟨v, rfl, hr0, hB0⟩))
  obtain ⟨og, rfl, hog, hor⟩ := hr0
  rw [List.length_map, outs_length]
  have hE2 := ext_trans h2 hB0
  have hgs := hE2.size
  go_loopw [8, 26] (fun t i wr => ∃ k : Nat, k ≤ gs.length ∧ i = .int .i64 k ∧ wr.ownsRow w2.heap.size 37 2 t k (lcn ((gs.take k).map swapL)) ∧ Ext w2 wr) (fun _ i _ => gs.length - (intOf i).toNat)
  case atStart => exact ⟨0, by omega, rfl, by simpa [lcn] using World.ownsRow_nil _ _ _ _, Below.refl _ _⟩
  case round =>
    obtain ⟨k, hk, rfl, hown, hE⟩ := hrel
    by_cases hlt : k < gs.length
    · obtain ⟨x, y, b, off, hlk, rfl, hc1, hc2⟩ := (hx.ext (ext_trans hE2 hE)).nline hlt
      have hnew := rd_new2 (wr.alloc (.cells #[.int .i64 (x : Nat), .int .i64 (y : Nat)] 37)) (.int .i64 (y : Nat)) (.int .i64 (x : Nat)) 37
      rw [World.size_alloc] at hnew
      have hEs := hE.size
      have Hx := Lib.hid hx; have Hor := Lib.hid hor
      clear hx hor
      go_wp2_with (at_builtin; refine wpList_append_own _ rfl _ _ 33 rfl w2.heap.size 37 iL _ 2 16 Try.underlying33 hiL hzL hsL hbL rfl (by decide) _ k _ rfl ((hown.alloc _).alloc _) ⟨wr.heap.size + 1, 0, none⟩ 1 1 [.int .i64 (y : Nat), .int .i64 (x : Nat)] rfl rfl hnew (by simp [Value.oneCell']) (by unfold maxLen; omega) (by omega) (by simp; omega) ?_; intro v' w4 hown' hgrow _)
      refine ⟨⟨k + 1, by omega, by go_num, ?_, ((hE.alloc (by omega) _).alloc (by simp; omega) _).grown hgrow (by simp; omega) (fun j e => (hown.lt j e).1)⟩, by simp [intOf]; omega⟩
      rw [take_snoc hlk.out, List.map_append, List.map_cons, List.map_nil, lcn_snoc]
      exact hown'
    · rw [List.take_of_length_le (by omega)] at hown
      obtain ⟨rfl, ta, tc, rfl, htr, _⟩ := row_lines hown
      have ho2 := fun (W : World) (hE : Ext wr W) => out_any n ta tc (gs.map swapL) W (htr.ext hE) (by simp; omega) (by omega) (fun l hl => by
        obtain ⟨l', hl', rfl⟩ := List.mem_map.1 hl
        have := HG.out.lt l' hl'
        simp only [swapL]; omega)
      rw [List.length_map] at ho2
      have Ho2 := Lib.hid ho2
      have hE3 := ext_trans hE2 hE
      have hE3' := hE
      have Hor := Lib.hid hor; have Hx := Lib.hid hx; have Htr := Lib.hid htr
      clear ho2 hown hor hx htr
      simp only [List.length_map] at hk hlt ⊢
      clear hk hlt
      go_wp2_with (go_at_call 59; refine (Ho2.out _ (Below.refl _ _)).mono ?_; rintro e w5 ⟨v, rfl, ⟨tg, rfl, htg, htrow⟩, hB5⟩)
      rw [outs_length]
      have hg64 : ∀ l ∈ gs, l.1 < 64 ∧ l.2 < 64 := fun l hl => by have := HG.out.lt l hl; omega
      have hU1 : ∀ s ∈ outs n gs, U64 s := outs_U64 (fun l hl => (hg64 l hl).2)
      have hU2 : ∀ s ∈ outs n (gs.map swapL), U64 s := outs_U64 (fun l hl => by obtain ⟨l', hl', rfl⟩ := List.mem_map.1 hl; exact (hg64 l' hl').1)
      have hrA := fun (k : Nat) (hk : k < n) (W : World) (hE : Ext w5 W) => reachF_any k (outs n gs) (sBelow n) (some ⟨og, 0, none⟩) n W ((((Hor.out.ext hE3').ext hB5).ext hE).rd) (by rw [outs_length]; exact hk) (by rw [outs_length]; omega) hU1 (U64.below (by omega)) (fun j hj => by rw [testBit_below] at hj; rw [outs_length]; simpa using hj)
      have hrB := fun (k : Nat) (hk : k < n) (W : World) (hE : Ext w5 W) => reachF_any k (outs n (gs.map swapL)) (sBelow n) (some ⟨tg, 0, none⟩) n W ((htrow.ext hE).rd) (by rw [outs_length]; exact hk) (by rw [outs_length]; omega) hU2 (U64.below (by omega)) (fun j hj => by rw [testBit_below] at hj; rw [outs_length]; simpa using hj)
      rw [outs_length] at hrA hrB
      have HrA := Lib.hid hrA; have HrB := Lib.hid hrB; have Hg64 := Lib.hid hg64; have Hhtrow := Lib.hid htrow; have HU1 := Lib.hid hU1; have HU2 := Lib.hid hU2
      have hE5 := ext_trans hE3 hB5
      have hgs5 := hE5.size
      clear hrA hrB hU1 hU2 hg64 htrow
      go_loopw [12, 43] (fun o i wz => ∃ k : Nat, k ≤ n ∧ i = .int .i64 k ∧ wz.ownsRow w5.heap.size 3 1 o k (((List.range k).map (partF n gs)).map iv) ∧ Ext w5 wz) (fun _ i _ => n - (intOf i).toNat)
      case atStart => exact ⟨0, by omega, rfl, by simpa using World.ownsRow_nil _ _ _ _, Below.refl _ _⟩
      case round =>
        obtain ⟨k, hk, rfl, hown, hE⟩ := hrel
        by_cases hlt : k < n
        · have hk64 : k < 64 := by omega
          obtain ⟨rest, hpts⟩ := bothF_pts (n := n) Hg64.out hk64
          have hUb := (bothF_self (n := n) Hg64.out hk64).1
          have Hpts := Lib.hid hpts; have HUb := Lib.hid hUb
          obtain ⟨Bk, hBk⟩ : ∃ Bk, bothF n gs k = Bk := ⟨_, rfl⟩
          obtain ⟨p0, hp0⟩ : ∃ p0, partF n gs k = p0 := ⟨_, rfl⟩
          have HBk := Lib.hid hBk; have Hp0 := Lib.hid hp0
          have hua := (reachF_U64 (within := sBelow n) (HU1.out) hk64).1
          have hub := (reachF_U64 (within := sBelow n) (HU2.out) hk64).1
          have Hua := Lib.hid hua; have Hub := Lib.hid hub
          clear hpts hUb hBk hp0 hua hub
          go_wp2_with (go_at_call 51; refine (below_any n _ (by omega)).mono ?_; rintro e w' ⟨rfl, rfl⟩)
          refine (HrA.out k hlt _ hE).mono ?_
          rintro e wa ⟨rfl, hEa⟩
          go_wp2_with (go_at_call 51; refine (below_any n _ (by omega)).mono ?_; rintro e w' ⟨rfl, rfl⟩)
          refine (HrB.out k hlt _ (ext_trans hE hEa)).mono ?_
          rintro e wb ⟨rfl, hEb⟩
          go_wp2_with fail
          rw [and_eq Hua.out Hub.out, show (reachF (outs n gs) (sBelow n) k &&& reachF (outs n (gs.map swapL)) (sBelow n) k) = Bk from HBk.out]
          refine (list_any Bk _ (by rw [← HBk.out]; exact HUb.out)).mono ?_
          rintro e wc ⟨lv, rfl, hlr, hEc⟩
          have hptsB : pts Bk = p0 :: rest := by rw [← HBk.out, Hpts.out, Hp0.out]
          rw [hptsB] at hlr
          obtain ⟨la, lc, rfl, hlrd, _⟩ := row_rd hlr
          obtain ⟨lb, lo, rfl, hc0⟩ := hlrd.get (i := 0) (v := iv p0) (by simp)
          simp only [iv, Nat.add_zero] at hc0
          have hEk := ext_trans (ext_trans hEa hEb) hEc
          have hown2 := row_ext hown hEk
          have hE2k := ext_trans hE hEk
          have hs5 := hE2k.size
          have hnew := cell_one_new wc (.int .i64 (p0 : Nat)) 3
          simp only [List.length_cons]
          clear hlr hlrd hptsB hown
          go_wp2_with (at_builtin; refine wpList_append_own _ rfl _ _ 23 rfl w5.heap.size 3 i0 (.int .i64 0) 1 8 Try.underlying23 hi hz0 hz1 hz2 rfl (by decide) _ k _ rfl (hown2.alloc _) ⟨wc.heap.size, 0, none⟩ 1 1 [.int .i64 (p0 : Nat)] rfl rfl hnew (by simp [Value.oneCell']) (by unfold maxLen; omega) (by omega) (by simp; omega) ?_; intro v' w6 hown' hgrow _)
          refine ⟨⟨k + 1, by omega, by go_num, ?_, (hE2k.alloc (by omega) _).grown hgrow (by simp; omega) (fun j e => (hown2.lt j e).1)⟩, by simp [intOf]; omega⟩
          rw [List.range_succ, List.map_append, List.map_append, List.map_cons, List.map_nil, List.map_cons, List.map_nil, Hp0.out]
          exact hown'
        · obtain rfl : k = n := by omega
          have hfin := row_base hown (base' := w.heap.size) (by omega)
          have hEf := ext_trans hE5 hE
          clear hown
          go_wp2
          go_ret2
          exact ⟨_, rfl, hfin, hEf⟩
end Go.Proofs.Ythalhapbllbefaa
