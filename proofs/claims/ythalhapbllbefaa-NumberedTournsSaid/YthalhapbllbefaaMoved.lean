/- moved: a graph with other numbers, its lines in another order. -/
import Derived.Test.YthalhapbllbefaaMixed
import Derived.Test.YthalhapbllbefaaPermP
namespace Go.Proofs.Ythalhapbllbefaa
open Go.RowKit

def nl (ls : List (Int × Int)) : List (Nat × Nat) := ls.map fun l => (l.1.toNat, l.2.toNat)
/-- A graph that may be. -/
structure Gr (n : Nat) (gs : List (Nat × Nat)) : Prop where
  n1 : 1 ≤ n
  n8 : n ≤ 8
  len : gs.length ≤ 24
  lt : ∀ l ∈ gs, l.1 < n ∧ l.2 < n
  ne : ∀ l ∈ gs, l.1 ≠ l.2
theorem okG_gr {n : Int} {ls : List (Int × Int)} (h : okG n ls = true) : (n = ((n.toNat : Nat) : Int)) ∧ Gr n.toNat (nl ls) ∧ lcells ls = lcn (nl ls) ∧ (nl ls).length = ls.length := by
  simp only [okG, Bool.and_eq_true, decide_eq_true_eq, within_iff, List.all_eq_true] at h
  obtain ⟨⟨⟨h1, h8⟩, hl⟩, ha⟩ := h
  have ha' : ∀ l ∈ ls, 0 ≤ l.1 ∧ l.1 < n ∧ 0 ≤ l.2 ∧ l.2 < n ∧ l.1 ≠ l.2 := fun l hm => by
    have := ha l hm
    simp only [okL, Bool.and_eq_true, within_iff, Bool.not_eq_true', beq_eq_false_iff_ne] at this
    omega
  refine ⟨by omega, ⟨by omega, by omega, by simpa [nl] using hl, fun l hm => ?_, fun l hm => ?_⟩, ?_, by simp [nl]⟩
  · obtain ⟨k, hk, rfl⟩ := List.mem_map.1 hm
    have := ha' k hk; simp only; omega
  · obtain ⟨k, hk, rfl⟩ := List.mem_map.1 hm
    have := ha' k hk; simp only; omega
  · clear hl ha
    induction ls with
    | nil => rfl
    | cons l ls ih =>
      have := ha' l (by simp)
      have h1 : ((l.1.toNat : Nat) : Int) = l.1 := by omega
      have h2 : ((l.2.toNat : Nat) : Int) = l.2 := by omega
      have ih' := ih (fun l hm => ha' l (by simp [hm]))
      simp only [lcells, lcn, nl, List.flatMap_cons, List.map_cons, nv, iv] at ih' ⊢
      rw [ih', h1, h2]
theorem gr_okG {n : Nat} {gs : List (Nat × Nat)} (h : Gr n gs) : okG n (gs.map fun l => ((l.1 : Int), (l.2 : Int))) = true := by
  simp only [okG, Bool.and_eq_true, decide_eq_true_eq, within_iff, List.all_eq_true]
  refine ⟨⟨⟨by have := h.n1; omega, by have := h.n8; omega⟩, by simpa using h.len⟩, fun l hm => ?_⟩
  obtain ⟨k, hk, rfl⟩ := List.mem_map.1 hm
  have := h.lt k hk; have := h.ne k hk
  simp only [okL, Bool.and_eq_true, within_iff, Bool.not_eq_true', beq_eq_false_iff_ne]
  omega
theorem lcells_cast (gs : List (Nat × Nat)) : lcells (gs.map fun l => ((l.1 : Int), (l.2 : Int))) = lcn gs := by
  induction gs with
  | nil => rfl
  | cons l gs ih => simp only [lcells, lcn, List.map_cons, List.flatMap_cons, nv, iv] at ih ⊢; rw [ih]
theorem lcn_length (gs : List (Nat × Nat)) : (lcn gs).length = gs.length * 2 := by
  induction gs with
  | nil => rfl
  | cons l gs ih => simp [lcn, nv] at *; omega
theorem lcn_set {os : List (Nat × Nat)} {j : Nat} (hj : j < os.length) (x y : Nat) : lcn (os.set j (x, y)) = ((lcn os).set (j * 2) (iv x)).set (j * 2 + 1) (iv y) := by
  induction os generalizing j with
  | nil => simp at hj
  | cons l os ih =>
    cases j with
    | zero => simp [lcn, nv]
    | succ j =>
      have := ih (j := j) (by simpa using hj)
      simp only [lcn, List.set_cons_succ, List.flatMap_cons, Nat.add_mul] at *
      rw [this]
      simp [nv]
theorem lcn_replicate (n : Nat) : lcn (List.replicate n (0, 0)) = List.replicate (n * 2) (.int .i64 0) := by
  induction n with
  | zero => rfl
  | succ n ih =>
    rw [List.replicate_succ]
    simp only [lcn, List.flatMap_cons] at ih ⊢
    rw [ih, show (n + 1) * 2 = n * 2 + 1 + 1 by omega, List.replicate_succ, List.replicate_succ]
    rfl
theorem madeLine (n : Nat) : madeCells #[.int .i64 0, .int .i64 0] (n * 2) = (List.replicate (n * 2) (Value.int .i64 0)).toArray := by
  apply Array.ext
  · simp [madeCells]
  · intro i h1 h2
    simp [madeCells] at h1 ⊢
    rcases Nat.mod_two_eq_zero_or_one i with h | h <;> simp [h]
theorem infoLine : (Try.prog.info? 37).map (fun i => (i.zero, i.size, i.bytes)) = some (some (.agg #[.int .i64 0, .int .i64 0]), 2, 16) := by kernel_rfl

/-- Lines as a slice. -/
def LinesAt (W : World) (B : Nat) (v : Value) (gs : List (Nat × Nat)) : Prop := ∃ a c, v = .slice a gs.length c ∧ Rd W a (lcn gs) ∧ ∀ b off, a = some ⟨b, off, none⟩ → B ≤ b
theorem LinesAt.ext {W W' : World} {B : Nat} {v : Value} {gs : List (Nat × Nat)} (h : LinesAt W B v gs) (s : Ext W W') : LinesAt W' B v gs := let ⟨a, c, h1, h2, h3⟩ := h; ⟨a, c, h1, h2.ext s, h3⟩

theorem moved_no (n : Int) (al : Option Addr) (cap : Nat) (ls : List (Int × Int)) (a b : Int) (w : World) (hx : Rd w al (lcells ls)) (hn : ls.length ≤ maxLen) (hok : okG n ls = false) :
    Calls Try.prog 24 #[.int .i64 n, .slice al ls.length cap, .int .i64 a, .int .i64 b] w fun e w' => e = .returned (.tuple #[.slice none 0 0, .slice none 0 0, .bool false]) ∧ Ext w w' := by
  by_cases h : n < 1
  · clear hx hok hn
    go_enter Try.func24, Try.ntmps24
    go_wp2
    go_ret3
    exact ⟨rfl, Below.refl _ _⟩
  · go_enter Try.func24, Try.ntmps24
    go_wp2_with (go_at_call 64; refine (gcheck_any n al cap ls _ hx hn).mono ?_; rintro e w1 ⟨v, rfl, h1, h2⟩; obtain ⟨c, rfl⟩ := h1.2 hok)
    go_ret3
    exact ⟨rfl, h2⟩

set_option maxRecDepth 100000 in
set_option maxHeartbeats 2000000 in
theorem moved_yes (n : Nat) (al : Option Addr) (cap : Nat) (gs : List (Nat × Nat)) (a b : Int) (w : World) (hx : Rd w al (lcn gs)) (hG : Gr n gs) :
    Calls Try.prog 24 #[.int .i64 n, .slice al gs.length cap, .int .i64 a, .int .i64 b] w fun e w' =>
      ∃ vm vp p ms, e = .returned (.tuple #[vm, vp, .bool true]) ∧ IsPerm n p ∧ ms.Perm (gs.map (mapL p)) ∧ PermAt w' w.heap.size vp p ∧ LinesAt w' w.heap.size vm ms ∧ Ext w w' := by
  obtain ⟨iL, hiL, hzL, hsL, hbL⟩ := info_parts infoLine
  have hn8 := hG.n8
  have hl24 := hG.len
  have hok := gr_okG hG
  have hlen : (gs.map fun l => ((l.1 : Int), (l.2 : Int))).length = gs.length := by simp
  have hchk := fun (w : World) (hx : Rd w al (lcn gs)) => gcheck_any n al cap (gs.map fun l => ((l.1 : Int), (l.2 : Int))) w (by rw [lcells_cast]; exact hx) (by unfold maxLen; omega)
  rw [hlen] at hchk
  have Hchk := Lib.hid hchk; have Hok := Lib.hid hok
  have hmk := fun w => run_make (P := Try.prog) w 33 37 iL _ Try.underlying33 hiL hzL .i64 .i64 gs.length gs.length (by omega) (by omega) (by rw [hbL]; omega) (by omega)
  rw [hsL] at hmk
  simp only [Int.toNat_natCast, Value.cells, madeLine] at hmk
  have hn1 : ¬ (n : Int) < 1 := by have := hG.n1; omega
  clear hok hlen hchk
  go_enter Try.func24, Try.ntmps24
  go_wp2_with (go_at_call 64; refine (Hchk.out _ hx).mono ?_; rintro e w1 ⟨v, rfl, h1, h2⟩; obtain rfl := h1.1 Hok.out)
  clear h1
  refine (mixed_any n a b _ (by omega)).mono ?_
  rintro e w2 ⟨vp, p, rfl, hp, ⟨pa, pc, hvp, hprd, hpb⟩, hB2⟩
  rw [hp.len] at hvp
  subst hvp
  have hpl := Lib.hid hp
  clear hp
  go_wp2_with fail
  refine (mixed_any gs.length b a _ (by omega)).mono ?_
  rintro e w3 ⟨vq, q, rfl, hq, ⟨qa, qc, hvq, hqrd, hqb⟩, hB3⟩
  rw [hq.len] at hvq
  subst hvq
  have hql := Lib.hid hq
  clear hq
  go_wp2
  clear hmk
  have hE1 := h2
  have hE2 := ext_trans h2 hB2
  have hE3 := ext_trans hE2 hB3
  have hprd3 := hprd.ext hB3
  have hqrd3 := hqrd
  have hB0 := hE3.alloc hE3.size (.cells (List.replicate (gs.length * 2) (Value.int .i64 0)).toArray 37)
  have hB03 := (Below.refl w3.heap.size w3).alloc (Nat.le_refl _) (.cells (List.replicate (gs.length * 2) (Value.int .i64 0)).toArray 37)
  have hrow : RowAt (w3.alloc (.cells (Array.replicate (gs.length * 2) (Value.int .i64 0)) 37)) w3.heap.size 37 (lcn (List.replicate gs.length (0, 0))) := by
    rw [lcn_replicate]; have := RowAt.new w3 37 (List.replicate (gs.length * 2) (.int .i64 0)); simpa using this
  have hg3 : w3.heap.size < (w3.alloc (.cells (List.replicate (gs.length * 2) (Value.int .i64 0)).toArray 37)).heap.size := by simp
  have hgw := hE3.size
  go_loopw [14] (fun i wr => ∃ (k : Nat) (os : List (Nat × Nat)), k ≤ gs.length ∧ i = .int .i64 k ∧ RowAt wr w3.heap.size 37 (lcn os) ∧ os.length = gs.length ∧ (∀ j l, j < k → gs[j]? = some l → os[at_ q j]? = some (mapL p l)) ∧ Below w.heap.size w wr ∧ Below w3.heap.size w3 wr) (fun i _ => gs.length - (intOf i).toNat)
  case atStart => exact ⟨0, List.replicate gs.length (0, 0), by omega, rfl, hrow, by simp, fun j l h => by omega, by simpa using hB0, by simpa using hB03⟩
  case round =>
    clear hrow hB0 hB03 hg3
    obtain ⟨k, os, hk, rfl, hrw, hol, hos, hB, hBq⟩ := hrel
    have Hos := Lib.hid hos; have Hol := Lib.hid hol
    have hlt2 := hrw.lt
    clear hos hol
    by_cases hlt : k < gs.length
    · obtain ⟨x, y, lb, loff, hlk, rfl, hc1, hc2⟩ := (hx.ext hB).nline hlt
      have hxy := hG.lt _ (mem_of_get hlk.out)
      obtain ⟨px, hpx⟩ : ∃ px, at_ p x = px := ⟨_, rfl⟩
      obtain ⟨py, hpy⟩ : ∃ py, at_ p y = py := ⟨_, rfl⟩
      obtain ⟨qk, hqk⟩ : ∃ qk, at_ q k = qk := ⟨_, rfl⟩
      obtain ⟨pb, poff, rfl, hcx⟩ := (hprd3.ext hBq).get (i := x) (v := iv px) (by rw [List.getElem?_map, hpl.out.get hxy.1, ← hpx]; rfl)
      obtain ⟨_, _, e, hcy⟩ := (hprd3.ext hBq).get (i := y) (v := iv py) (by rw [List.getElem?_map, hpl.out.get hxy.2, ← hpy]; rfl)
      cases e
      obtain ⟨qb, qoff, rfl, hcq⟩ := (hqrd3.ext hBq).get (i := k) (v := iv qk) (by rw [List.getElem?_map, hql.out.get hlt, ← hqk]; rfl)
      simp only [iv] at hcx hcy hcq
      have hqlt : qk < gs.length := by rw [← hqk]; exact hql.out.get_lt hlt
      obtain ⟨o1, ho1⟩ : ∃ o1, (lcn os)[qk * 2]? = some o1 := ⟨_, List.getElem?_eq_getElem (by rw [lcn_length, Hol.out]; omega)⟩
      obtain ⟨o2, ho2⟩ : ∃ o2, (lcn os)[qk * 2 + 1]? = some o2 := ⟨_, List.getElem?_eq_getElem (by rw [lcn_length, Hol.out]; omega)⟩
      have hco1 := hrw.cell ho1
      have hco2 := hrw.cell ho2
      have hf1 := hrw.frozen (qk * 2)
      have hf2 := hrw.frozen (qk * 2 + 1)
      obtain ⟨hx1, hy1⟩ := hxy
      have Hpx := Lib.hid hpx; have Hpy := Lib.hid hpy; have Hqk := Lib.hid hqk; have HG := Lib.hid hG
      clear hpx hpy hqk hG hx hprd hprd3 hqrd hqrd3 ho1 ho2 hpb hqb
      simp only at hx1 hy1
      go_wp2_with fail
      refine region_tail 22 (by kernel_rfl) (by kernel_rfl) ?_
      simp only [List.take_succ_cons, List.take_zero, List.drop_succ_cons, List.drop_zero]
      repeat still_step
      refine wpStill_nil ?_
      go_wp2
      refine ⟨⟨k + 1, os.set qk (px, py), by omega, by go_num, ?_, by simp [Hol.out], fun j l hj hl => ?_, ((hB.setCell (p := ⟨w3.heap.size, qk * 2, none⟩) hgw _).setCell (p := ⟨w3.heap.size, qk * 2 + 1, none⟩) hgw _).drew, ((hBq.setCell (p := ⟨w3.heap.size, qk * 2, none⟩) (Nat.le_refl _) _).setCell (p := ⟨w3.heap.size, qk * 2 + 1, none⟩) (Nat.le_refl _) _).drew⟩, by simp [intOf]; omega⟩
      · rw [lcn_set (by rw [Hol.out]; exact hqlt)]
        exact ((hrw.set (qk * 2) (iv px)).set (qk * 2 + 1) (iv py)).drew
      · by_cases hjk : j = k
        · subst hjk
          rw [hlk.out] at hl
          cases hl
          rw [Hqk.out, List.getElem?_set_self (by rw [Hol.out]; exact hqlt)]
          simp only [mapL, Hpx.out, Hpy.out]
        · have hjm : j < gs.length := (List.getElem?_eq_some_iff.1 hl).1
          rw [List.getElem?_set_ne (fun e => hjk (hql.out.inj hjm hlt (by rw [← Hqk.out] at e; exact e.symm)))]
          exact Hos.out j l (by omega) hl
    · have hperm := placed_perm (f := mapL p) (0, 0) hql.out Hol.out (fun i g hg => Hos.out i g (by have := (List.getElem?_eq_some_iff.1 hg).1; omega) hg)
      have hfin : PermAt wr w.heap.size (.slice pa n pc) p := ⟨pa, pc, by rw [hpl.out.len], hprd3.ext hBq, fun b off e => by have := hpb b off e; have := hE1.size; omega⟩
      have hfm : LinesAt wr w.heap.size (.slice (some ⟨w3.heap.size, 0, none⟩) gs.length gs.length) os := ⟨_, _, by rw [Hol.out], hrw.rd, fun b off e => by cases e; exact hgw⟩
      have Hperm := Lib.hid hperm; have HG := Lib.hid hG
      clear hperm hG
      go_wp2
      go_ret3
      exact ⟨_, _, p, os, rfl, hpl.out, Hperm.out, hfin, hfm, hB⟩
end Go.Proofs.Ythalhapbllbefaa
