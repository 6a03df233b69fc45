/- graph.Beside, degree.Of, trail.Ends, put. -/
import Derived.Test.YthalhapbllbefaaDegP
import Derived.Test.YthalhapbllbefaaStrong
namespace Go.Proofs.Ythalhapbllbefaa
open Go.RowKit

/-- Rows of numbers, each a slice of the call's own. -/
def Rows2 (W : World) (base : Nat) (vs : List Value) (xss : List (List Nat)) : Prop := vs.length = xss.length ∧ ∀ (i : Nat) (xs : List Nat), xss[i]? = some xs → ∃ u, vs[i]? = some u ∧ W.ownsRow base 3 1 u xs.length (xs.map iv)
theorem Rows2.nil (W : World) (base : Nat) : Rows2 W base [] [] := ⟨rfl, fun i xs h => by simp at h⟩
theorem Rows2.ext {W W' : World} {base : Nat} {vs : List Value} {xss : List (List Nat)} (h : Rows2 W base vs xss) (s : Ext W W') : Rows2 W' base vs xss := ⟨h.1, fun i xs hx => let ⟨u, h1, h2⟩ := h.2 i xs hx; ⟨u, h1, row_ext h2 s⟩⟩
theorem Rows2.sim {B : Nat} {W W' : World} {base : Nat} {vs : List Value} {xss : List (List Nat)} (h : Rows2 W base vs xss) (s : Sim B W W') : Rows2 W' base vs xss := ⟨h.1, fun i xs hx => let ⟨u, h1, h2⟩ := h.2 i xs hx; ⟨u, h1, row_sim h2 s⟩⟩
theorem Rows2.base {W : World} {base base' : Nat} {vs : List Value} {xss : List (List Nat)} (h : Rows2 W base vs xss) (hb : base' ≤ base) : Rows2 W base' vs xss := ⟨h.1, fun i xs hx => let ⟨u, h1, h2⟩ := h.2 i xs hx; ⟨u, h1, row_base h2 hb⟩⟩
theorem rows_part {W : World} {b1 b2 : Nat} {e1 e2 : TypeId} {s1 s2 n1 n2 : Nat} {v1 v2 : Value} {xs1 xs2 : List Value} (h1 : W.ownsRow b1 e1 s1 v1 n1 xs1) (h2 : W.ownsRow b2 e2 s2 v2 n2 xs2) (he : e1 ≠ e2) : v1.ownBlock = none ∨ v1.ownBlock ≠ v2.ownBlock := by
  rcases h1.2 with ⟨rfl, _⟩ | ⟨g, cap, cur, rfl, _, hg, _⟩
  · exact .inl (by simp [Value.ownBlock])
  · refine .inr fun e => ?_
    rcases h2.2 with ⟨rfl, _⟩ | ⟨g2, cap2, cur2, rfl, _, hg2, _⟩
    · simp [Value.ownBlock] at e
    · obtain rfl : g = g2 := by simpa [Value.ownBlock] using e
      rw [hg] at hg2
      simp at hg2
      exact he hg2.2
theorem Rows2.grown {W W' : World} {base b2 : Nat} {e2 : TypeId} {s2 n2 : Nat} {v2 : Value} {xs2 : List Value} {vs : List Value} {xss : List (List Nat)} (h : Rows2 W base vs xss) (h2 : W.ownsRow b2 e2 s2 v2 n2 xs2) (he : 3 ≠ e2) (hg : W.grownBy W' v2.ownBlock) : Rows2 W' base vs xss :=
  ⟨h.1, fun i xs hx => let ⟨u, h1, h3⟩ := h.2 i xs hx; ⟨u, h1, h3.kept hg (rows_part h3 h2 he)⟩⟩
theorem Rows2.snoc {W : World} {base : Nat} {vs : List Value} {xss : List (List Nat)} {u : Value} {xs : List Nat} (h : Rows2 W base vs xss) (hu : W.ownsRow base 3 1 u xs.length (xs.map iv)) : Rows2 W base (vs ++ [u]) (xss ++ [xs]) := by
  refine ⟨by simp [h.1], fun i ys hy => ?_⟩
  by_cases hi : i < xss.length
  · rw [List.getElem?_append_left hi] at hy
    obtain ⟨w, h1, h2⟩ := h.2 i ys hy
    exact ⟨w, by rw [List.getElem?_append_left (by rw [h.1]; exact hi)]; exact h1, h2⟩
  · have hlt := (List.getElem?_eq_some_iff.1 hy).1
    rw [List.length_append] at hlt
    simp only [List.length_cons, List.length_nil] at hlt
    obtain rfl : i = xss.length := by omega
    rw [List.getElem?_concat_length] at hy
    cases hy
    exact ⟨u, by rw [← h.1, List.getElem?_concat_length], hu⟩
theorem infoRow : (Try.prog.info? 23).map (fun i => (i.zero, i.size, i.bytes)) = some (some (.slice none 0 0), 1, 24) := by kernel_rfl

set_option maxRecDepth 100000 in
set_option maxHeartbeats 2000000 in
theorem gbeside_any (n : Nat) (al : Option Addr) (cap : Nat) (gs : List (Nat × Nat)) (w : World) (hx : Rd w al (lcn gs)) (hG : Gr n gs) :
    Calls Try.prog 78 #[.int .i64 n, .slice al gs.length cap] w fun e w' => ∃ v vs, e = .returned (.tuple #[v, .nilIface]) ∧ w'.ownsRow w.heap.size 23 1 v n vs ∧ Rows2 w' w.heap.size vs ((besides n gs).map pts) ∧ Ext w w' := by
  obtain ⟨iR, hiR, hzR, hsR, hbR⟩ := info_parts infoRow
  have hn8 := hG.n8
  have hl24 := hG.len
  have hok := gr_okG hG
  have hlen : (gs.map fun l => ((l.1 : Int), (l.2 : Int))).length = gs.length := by simp
  have hchk := fun (w : World) (hx : Rd w al (lcn gs)) => gcheck_any n al cap (gs.map fun l => ((l.1 : Int), (l.2 : Int))) w (by rw [lcells_cast]; exact hx) (by unfold maxLen; omega)
  rw [hlen] at hchk
  have Hchk := Lib.hid hchk; have Hok := Lib.hid hok; have HG := Lib.hid hG
  clear hchk hok hlen hG
  go_enter Try.func78, Try.ntmps78
  go_wp2_with (first
    | (go_at_call 64; refine (Hchk.out _ hx).mono ?_; rintro e w1 ⟨v, rfl, h1, h2⟩; obtain rfl := h1.1 Hok.out; clear h1)
    | (go_at_call 65; refine (beside_any n al cap gs _ (hx.ext h2) (by omega) (by omega) HG.out.lt).mono ?_; rintro e w2 ⟨v, rfl, ⟨g, rfl, hg, hrow⟩, hB0⟩))
  rw [besides_length]
  have hE2 := ext_trans h2 hB0
  have hgs := hE2.size
  have hU : ∀ s ∈ besides n gs, U64 s := besides_U64 (fun l hl => by have := HG.out.lt l hl; omega)
  have hbl := besides_length n gs
  obtain ⟨bs, hbs⟩ : ∃ bs, besides n gs = bs := ⟨_, rfl⟩
  rw [hbs] at hrow hU hbl
  have Hbs := Lib.hid hbs; have HU := Lib.hid hU
  clear hbs hU
  go_loopw [7, 20] (fun t i wr => ∃ (k : Nat) (vs : List Value), k ≤ n ∧ i = .int .i64 k ∧ wr.ownsRow w2.heap.size 23 1 t k vs ∧ Rows2 wr w2.heap.size vs ((bs.take k).map pts) ∧ Ext w2 wr) (fun _ i _ => n - (intOf i).toNat)
  case atStart => exact ⟨0, [], by omega, rfl, by simpa using World.ownsRow_nil _ _ _ _, by simpa using Rows2.nil _ _, Below.refl _ _⟩
  case round =>
    obtain ⟨k, vs, hk, rfl, hown, hR, hE⟩ := hrel
    by_cases hlt : k < n
    · have hget : bs[k]? = some (at_ bs k) := by rw [List.getElem?_eq_getElem (by omega)]; simp [at_, hbl, hlt]
      have hcs := (hrow.ext hE).cell (v := sv (at_ bs k)) (by rw [List.getElem?_map, hget]; rfl)
      have hrl := (hrow.ext hE).lt
      have hsU : U64 (at_ bs k) := getD_U64 HU.out k
      have htk := take_snoc hget
      obtain ⟨s, hs⟩ : ∃ s, at_ bs k = s := ⟨_, rfl⟩
      rw [hs] at hcs hsU htk
      rw [sv] at hcs
      have Htk := Lib.hid htk; have HR := Lib.hid hR; have Hrow := Lib.hid hrow
      have hEs := hE.size
      clear htk hget hs hR hrow
      go_wp2_with fail
      refine (list_any s _ hsU).mono ?_
      rintro e w3 ⟨lv, rfl, hlr, hE3⟩
      have hown3 := row_ext hown hE3
      have hR3 := HR.out.ext hE3
      have hs3 := hE3.size
      obtain ⟨la, lc, rfl, _⟩ := row_rd hlr
      go_wp2_with (at_builtin; refine wpList_append_own _ rfl _ _ 22 rfl w2.heap.size 23 iR _ 1 24 Try.underlying22 hiR hzR hsR hbR rfl (by decide) _ k vs rfl (hown3.alloc _) ⟨w3.heap.size, 0, none⟩ 1 1 [.slice la (pts s).length lc] rfl rfl (cell_one_new _ _ _) (by simp [Value.oneCell']) (by unfold maxLen; omega) (by omega) (by simp; omega) ?_; intro v' w4 hown' hgrow _)
      have hEk := ext_trans hE hE3
      refine ⟨⟨k + 1, vs ++ [.slice la (pts s).length lc], by omega, by go_num, hown', ?_, (hEk.alloc (by omega) _).grown hgrow (by simp; omega) (fun j e => (hown3.lt j e).1)⟩, by simp [intOf]; omega⟩
      rw [Htk.out, List.map_append, List.map_cons, List.map_nil]
      refine Rows2.snoc ?_ ?_
      · exact Rows2.grown (W := w3.alloc (.cells #[.slice la (pts s).length lc] 23)) (hR3.ext ((Below.refl _ _).alloc (Nat.le_refl _) _)) (hown3.alloc _) (by decide) hgrow
      · exact (row_base (hlr.alloc (.cells #[.slice la (pts s).length lc] 23)) (by omega)).kept hgrow (rows_part (hlr.alloc (.cells #[.slice la (pts s).length lc] 23)) (hown3.alloc (.cells #[.slice la (pts s).length lc] 23)) (by decide))
    · obtain rfl : n = k := by omega
      rw [List.take_of_length_le (by omega)] at hR
      have hfin := row_base hown (base' := w.heap.size) (by omega)
      have hRf := hR.base (base' := w.heap.size) (by omega)
      have hEf := ext_trans hE2 hE
      clear hown hR
      go_wp2
      go_ret2
      exact ⟨_, _, rfl, hfin, by rw [Hbs.out]; exact hRf, hEf⟩

set_option maxRecDepth 100000 in
set_option maxHeartbeats 2000000 in
theorem degree_any (n : Nat) (al : Option Addr) (cap : Nat) (gs : List (Nat × Nat)) (w : World) (hx : Rd w al (lcn gs)) (hG : Gr n gs) :
    Calls Try.prog 44 #[.int .i64 n, .slice al gs.length cap] w fun e w' => ∃ v, e = .returned (.tuple #[v, .nilIface]) ∧ w'.ownsRow w.heap.size 3 1 v n ((degsF n gs).map iv) ∧ Ext w w' := by
  obtain ⟨i0, hi, hz0, hz1, hz2⟩ := info_parts infoInt
  have hn8 := hG.n8
  go_enter Try.func44, Try.ntmps44
  go_wp2_with (go_at_call 78; refine (gbeside_any n al cap gs _ hx hG).mono ?_; rintro e w1 ⟨v, vs, rfl, hrow, hR, hB0⟩; obtain ⟨ra, rc, rfl, hrd, _⟩ := row_rd hrow)
  have hgs := hB0.size
  have hvl := hrow.1
  have hbl := besides_length n gs
  obtain ⟨bs, hbs⟩ : ∃ bs, besides n gs = bs := ⟨_, rfl⟩
  have hdf : degsF n gs = bs.map fun s => (pts s).length := by unfold degsF; rw [hbs]
  rw [hbs] at hR hbl
  have Hdf := Lib.hid hdf; have HR := Lib.hid hR
  clear hbs hdf hR hrow hG
  go_loopw [8, 22] (fun t i wr => ∃ k : Nat, k ≤ n ∧ i = .int .i64 k ∧ wr.ownsRow w1.heap.size 3 1 t k (((bs.take k).map fun s => (pts s).length).map iv) ∧ Ext w1 wr) (fun _ i _ => n - (intOf i).toNat)
  case atStart => exact ⟨0, by omega, rfl, by simpa using World.ownsRow_nil _ _ _ _, Below.refl _ _⟩
  case round =>
    obtain ⟨k, hk, rfl, hown, hE⟩ := hrel
    by_cases hlt : k < n
    · have hget : bs[k]? = some (at_ bs k) := by rw [List.getElem?_eq_getElem (by omega)]; simp [at_, hbl, hlt]
      obtain ⟨u, hu, hur⟩ := HR.out.2 k (pts (at_ bs k)) (by rw [List.getElem?_map, hget]; rfl)
      obtain ⟨b, off, rfl, hc0⟩ := (hrd.ext hE).get hu
      obtain ⟨ua, uc, rfl, _⟩ := row_rd hur
      have htk := take_snoc hget
      have hpl := pts_length (at_ bs k)
      obtain ⟨m, hm⟩ : ∃ m, (pts (at_ bs k)).length = m := ⟨_, rfl⟩
      rw [hm] at hc0 hpl
      have Htk := Lib.hid htk; have Hm := Lib.hid hm
      have hEs := hE.size
      clear htk hget hu hur hm
      go_wp2_with (at_builtin; refine wpList_append_own _ rfl _ _ 23 rfl w1.heap.size 3 i0 (.int .i64 0) 1 8 Try.underlying23 hi hz0 hz1 hz2 rfl (by decide) _ k _ rfl (hown.alloc _) ⟨wr.heap.size, 0, none⟩ 1 1 [.int .i64 (m : Nat)] rfl rfl (cell_one_new _ _ _) (by simp [Value.oneCell']) (by unfold maxLen; omega) (by omega) (by simp; omega) ?_; intro v' w6 hown' hgrow _)
      refine ⟨⟨k + 1, by omega, by go_num, ?_, (hE.alloc (by omega) _).grown hgrow (by simp; omega) (fun j e => (hown.lt j e).1)⟩, by simp [intOf]; omega⟩
      rw [Htk.out, List.map_append, List.map_append, List.map_cons, List.map_nil, List.map_cons, List.map_nil, Hm.out]
      exact hown'
    · obtain rfl : n = k := by omega
      rw [List.take_of_length_le (by omega), ← Hdf.out] at hown
      have hfin := row_base hown (base' := w.heap.size) (by omega)
      have hEf := ext_trans hB0 hE
      clear hown
      go_wp2
      go_ret2
      exact ⟨_, rfl, hfin, hEf⟩

set_option maxRecDepth 100000 in
set_option maxHeartbeats 2000000 in
theorem ends_any (n : Nat) (al : Option Addr) (cap : Nat) (gs : List (Nat × Nat)) (w : World) (hx : Rd w al (lcn gs)) (hG : Gr n gs) :
    Calls Try.prog 45 #[.int .i64 n, .slice al gs.length cap] w fun e w' => ∃ v, e = .returned (.tuple #[v, .nilIface]) ∧ w'.ownsRow w.heap.size 3 1 v (endsF n gs).length ((endsF n gs).map iv) ∧ Ext w w' := by
  obtain ⟨i0, hi, hz0, hz1, hz2⟩ := info_parts infoInt
  have hmk := fun (k : Nat) (hk : k ≤ 64) => run_make_row' 23 3 (.int .i64 0) 8 Try.underlying23 infoInt rfl .i64 .i64 k (by omega) (by omega)
  have hn8 := hG.n8
  have hl24 := hG.len
  have hok := gr_okG hG
  have hlen : (gs.map fun l => ((l.1 : Int), (l.2 : Int))).length = gs.length := by simp
  have hchk := fun (w : World) (hx : Rd w al (lcn gs)) => gcheck_any n al cap (gs.map fun l => ((l.1 : Int), (l.2 : Int))) w (by rw [lcells_cast]; exact hx) (by unfold maxLen; omega)
  rw [hlen] at hchk
  have Hchk := Lib.hid hchk; have Hok := Lib.hid hok; have HG := Lib.hid hG
  have hmk := hmk n (by omega)
  clear hchk hok hlen hG
  go_enter Try.func45, Try.ntmps45
  go_wp2_with (go_at_call 64; refine (Hchk.out _ hx).mono ?_; rintro e w1 ⟨v, rfl, h1, h2⟩; obtain rfl := h1.1 Hok.out; clear h1)
  clear hmk
  have rN := RowAt.made w1 3 (.int .i64 0) n
  have hE1 : Ext w1 (w1.alloc (.cells (madeCells #[.int .i64 0] n) 3)) := (Below.refl _ _).alloc (Nat.le_refl _) _
  have hs1 := h2.size
  go_loopw [23] (fun i wr => ∃ k : Nat, k ≤ gs.length ∧ i = .int .i64 k ∧ RowAt wr w1.heap.size 3 ((degL n (gs.take k)).map iv) ∧ Ext w1 wr) (fun i _ => gs.length - (intOf i).toNat)
  case atStart => exact ⟨0, by omega, rfl, by simpa [degL_nil, iv] using rN, hE1⟩
  case round =>
    obtain ⟨k, hk, rfl, hrow, hE⟩ := hrel
    clear rN hE1
    by_cases hlt : k < gs.length
    · obtain ⟨x, y, b, off, hlk, rfl, hc1, hc2⟩ := (hx.ext (ext_trans h2 hE)).nline hlt
      have hmem := mem_of_get hlk.out
      obtain ⟨hx1, hy1⟩ := HG.out.lt _ hmem
      have hne := HG.out.ne _ hmem
      have hlow := hrow.lt
      have hsn := take_snoc hlk.out
      have hcx := hrow.cell (i := x) (v := iv (degE (gs.take k) x)) (by rw [List.getElem?_map, degL_get hx1]; rfl)
      have hcy := hrow.cell (i := y) (v := iv (degE (gs.take k) y)) (by rw [List.getElem?_map, degL_get hy1]; rfl)
      have hfx := hrow.frozen x
      have hfy := hrow.frozen y
      have hbx := degE_le (gs.take k) x
      have hby := degE_le (gs.take k) y
      have htl : (gs.take k).length ≤ 24 := by rw [List.length_take]; omega
      have hstep : degL n (gs.take (k + 1)) = ((degL n (gs.take k)).set x (degE (gs.take k) x + 1)).set y (degE (gs.take k) y + 1) := by rw [hsn]; exact degL_snoc hx1 hy1 hne
      obtain ⟨dx, hdx⟩ : ∃ d, degE (gs.take k) x = d := ⟨_, rfl⟩
      obtain ⟨dy, hdy⟩ : ∃ d, degE (gs.take k) y = d := ⟨_, rfl⟩
      rw [hdx] at hcx hbx hstep
      rw [hdy] at hcy hby hstep
      simp only [iv] at hcx hcy
      have Hst := Lib.hid hstep; have Hx := Lib.hid hx
      have hxy : ¬ x = y := hne
      clear hstep hdx hdy hsn hmem hx
      go_wp2
      refine ⟨⟨k + 1, by omega, by go_num, ?_, ((hE.setCell (p := ⟨w1.heap.size, x, none⟩) (Nat.le_refl _) _).setCell (p := ⟨w1.heap.size, y, none⟩) (Nat.le_refl _) _).alloc (by simp; omega) _⟩, by simp [intOf]; omega⟩
      rw [Hst.out, List.map_set, List.map_set]
      exact ((hrow.set x (iv (dx + 1))).set y (iv (dy + 1))).alloc _
    · rw [List.take_of_length_le (by omega)] at hrow
      obtain ⟨w2, hw2⟩ : ∃ w2, w2 = wr := ⟨_, rfl⟩
      subst hw2
      have hE2 := ext_trans h2 hE
      have hs2 := hE2.size
      go_wp2
      clear hk hlt
      go_loopw [10, 44] (fun t i wr => ∃ k : Nat, k ≤ n ∧ i = .int .i64 k ∧ wr.ownsRow w2.heap.size 3 1 t (those k (oddE gs)).length ((those k (oddE gs)).map iv) ∧ Ext w2 wr) (fun _ i _ => n - (intOf i).toNat)
      case atStart => exact ⟨0, by omega, rfl, by simpa [those] using World.ownsRow_nil _ _ _ _, Below.refl _ _⟩
      case round =>
        obtain ⟨k, hk, rfl, hown, hE3⟩ := hrel
        have hEs := hE3.size
        have htl := those_length k (oddE gs)
        by_cases hlt : k < n
        · have hcx := (hrow.ext hE3).cell (i := k) (v := iv (degE gs k)) (by rw [List.getElem?_map, degL_get hlt]; rfl)
          have hlow := (hrow.ext hE3).lt
          obtain ⟨d, hd⟩ : ∃ d, degE gs k = d := ⟨_, rfl⟩
          have hoe : oddE gs k = (d % 2 == 1) := by unfold oddE; rw [hd]
          rw [hd] at hcx
          simp only [iv] at hcx
          have Hrow := Lib.hid hrow
          clear hrow hd
          cases ho : oddE gs k with
          | true =>
            have hst := those_succ_yes ho
            rw [ho] at hoe
            have hm1 : d % 2 = 1 := by simpa using hoe.symm
            have hbe : ((d : Int) % 2 == 1) = true := by simp; omega
            have Hst := Lib.hid hst
            clear hst hoe hm1 ho
            go_wp2_with (at_builtin; refine wpList_append_own _ rfl _ _ 23 rfl w2.heap.size 3 i0 (.int .i64 0) 1 8 Try.underlying23 hi hz0 hz1 hz2 rfl (by decide) _ _ _ rfl (hown.alloc _) ⟨wr.heap.size, 0, none⟩ 1 1 [.int .i64 (k : Nat)] rfl rfl (cell_one_new _ _ _) (by simp [Value.oneCell']) (by unfold maxLen; omega) (by omega) (by simp; omega) ?_; intro v' w6 hown' hgrow _)
            refine ⟨⟨k + 1, by omega, by go_num, ?_, (hE3.alloc (by omega) _).grown hgrow (by simp; omega) (fun j e => (hown.lt j e).1)⟩, by simp [intOf]; omega⟩
            rw [Hst.out, List.map_append, List.map_cons, List.map_nil, List.length_append]
            exact hown'
          | false =>
            have hst := those_succ_no ho
            rw [ho] at hoe
            have hm1 : ¬ d % 2 = 1 := by simpa using hoe.symm
            have hbe : ((d : Int) % 2 == 1) = false := by simp; omega
            have Hst := Lib.hid hst
            clear hst hoe hm1 ho
            go_wp2
            exact ⟨⟨k + 1, by omega, by go_num, by rw [Hst.out]; exact hown, hE3⟩, by simp [intOf]; omega⟩
        · obtain rfl : n = k := by omega
          have hfin := row_base hown (base' := w.heap.size) (by omega)
          have hEf := ext_trans hE2 hE3
          clear hown hrow
          go_wp2
          go_ret2
          exact ⟨_, rfl, hfin, hEf⟩

def ivs' (x : Int) : Value := .int .i64 x
set_option maxRecDepth 100000 in
set_option maxHeartbeats 2000000 in
theorem put_any (n : Nat) (a b : Option Addr) (ca cb : Nat) (l : List Int) (p : List Nat) (w : World) (hx : Rd w a (l.map ivs)) (hpr : Rd w b (p.map iv)) (hl : l.length = n) (hp : IsPerm n p) (hn : n ≤ 64) :
    Calls Try.prog 36 #[.slice a n ca, .slice b n cb] w fun e w' => ∃ v, e = .returned v ∧ w'.ownsRow w.heap.size 3 1 v n ((putF l p).map ivs) ∧ Ext w w' := by
  have hmk := run_make_row' 23 3 (.int .i64 0) 8 Try.underlying23 infoInt rfl .i64 .i64 n (by omega) (by omega)
  have Hl := Lib.hid hl; have Hp := Lib.hid hp
  clear hl hp
  go_enter Try.func36, Try.ntmps36
  go_wp2
  clear hmk
  have rN := RowAt.made w 3 (.int .i64 0) n
  have hE1 : Ext w (w.alloc (.cells (madeCells #[.int .i64 0] n) 3)) := (Below.refl _ _).alloc (Nat.le_refl _) _
  go_loopw [6] (fun i wr => ∃ k : Nat, k ≤ n ∧ i = .int .i64 k ∧ RowAt wr w.heap.size 3 ((putTo l p k).map ivs) ∧ Ext w wr) (fun i _ => n - (intOf i).toNat)
  case atStart => exact ⟨0, by omega, rfl, by simpa [putTo, Hl.out, ivs] using rN, hE1⟩
  case round =>
    obtain ⟨k, hk, rfl, hrow, hE⟩ := hrel
    clear rN hE1
    have hEs := hE.size
    by_cases hlt : k < n
    · have hxk : l[k]? = some (l[k]?.getD 0) := by rw [List.getElem?_eq_getElem (by rw [Hl.out]; exact hlt)]; rfl
      obtain ⟨b1, o1, rfl, hc1⟩ := (hx.ext hE).get (i := k) (v := ivs (l[k]?.getD 0)) (by rw [List.getElem?_map, hxk]; simp)
      obtain ⟨b2, o2, rfl, hc2⟩ := (hpr.ext hE).get (i := k) (v := iv (at_ p k)) (by rw [List.getElem?_map, Hp.out.get hlt]; rfl)
      have hpk : at_ p k < n := Hp.out.get_lt hlt
      have hst := putTo_succ l p k
      have hlow := hrow.lt
      obtain ⟨x, hxx⟩ : ∃ x, l[k]?.getD 0 = x := ⟨_, rfl⟩
      obtain ⟨q, hq⟩ : ∃ q, at_ p k = q := ⟨_, rfl⟩
      rw [hxx] at hc1 hst
      rw [hq] at hc2 hpk hst
      have hfz := hrow.frozen q
      obtain ⟨c0, hc0'⟩ : ∃ c0, wr.cell? ⟨w.heap.size, q, none⟩ = some c0 := ⟨_, hrow.cell (i := q) (v := ivs ((putTo l p k)[q]'(by rw [putTo_length, Hl.out]; exact hpk))) (by rw [List.getElem?_map, List.getElem?_eq_getElem]; rfl)⟩
      simp only [iv, ivs] at hc1 hc2
      have Hst := Lib.hid hst; have Hx := Lib.hid hx; have Hpr := Lib.hid hpr
      clear hst hxk hxx hq hx hpr
      go_wp2_with fail
      refine region_tail 9 (by kernel_rfl) (by kernel_rfl) ?_
      simp only [List.take_succ_cons, List.take_zero, List.drop_succ_cons, List.drop_zero]
      repeat still_step
      refine wpStill_nil ?_
      go_wp2
      refine ⟨⟨k + 1, by omega, by go_num, ?_, (hE.setCell (p := ⟨w.heap.size, q, none⟩) (Nat.le_refl _) _).drew⟩, by simp [intOf]; omega⟩
      rw [Hst.out, List.map_set]
      exact (hrow.set q (ivs x)).drew
    · obtain rfl : n = k := by omega
      have hfin : wr.ownsRow w.heap.size 3 1 (.slice (some ⟨w.heap.size, 0, none⟩) n n) n ((putF l p).map ivs) := by
        have : putTo l p n = putF l p := by rw [putF, Hl.out]
        rw [← this]
        exact hrow.owns (Nat.le_refl _) (by rw [List.length_map, putTo_length, Hl.out]) (by unfold maxLen; omega)
      clear hrow
      go_wp2
      go_ret
      exact ⟨_, rfl, hfin, hE⟩
end Go.Proofs.Ythalhapbllbefaa
