/- NumberedStrongs answers true. -/
import Derived.Test.YthalhapbllbefaaFold
namespace Go.Proofs.Ythalhapbllbefaa
open Go.RowKit Go.Shelf
attribute [local go_sem] Oper.semAt_some

theorem strong_way : partsF 3 [(0, 1), (1, 0), (1, 2)] = [0, 0, 2] := by decide +kernel
theorem parts_alike {n : Nat} {gs ms : List (Nat × Nat)} {p : List Nat} (hn : n ≤ 64) (hp : IsPerm n p) (hg : ∀ l ∈ gs, l.1 < n ∧ l.2 < n) (hm : ms.Perm (gs.map (mapL p))) : Alike n (partsF n gs) (partsF n ms) p := fun i j hi hj => by
  have hpl : ∀ {i}, i < n → at_ p i < n := fun hi => hp.get_lt hi
  rw [at_partsF hi, at_partsF hj, at_partsF (hpl hi), at_partsF (hpl hj), partF_eq_iff hn hg hi hj, partF_eq_iff hn (moved_lt hp hg hm) (hpl hi) (hpl hj)]
  exact both_map_iff hp hg hm hi hj

theorem iv_ivs (xs : List Nat) : xs.map iv = (xs.map fun (x : Nat) => (x : Int)).map ivs := by rw [List.map_map]; rfl
theorem equal_nat (a b : Option Addr) (ca cb : Nat) (xs ys : List Nat) (n m : Nat) (w : World) (hx : Rd w a (xs.map iv)) (hy : Rd w b (ys.map iv)) (hn : xs.length = n) (hm : ys.length = m) (h64 : n ≤ 1000000) :
    Calls Try.prog 15 #[.slice a n ca, .slice b m cb] w fun e w' => e = .returned (.bool (decide (xs = ys))) ∧ Ext w w' := by
  subst hn; subst hm
  have h := equal_any a b ca cb (xs.map fun (x : Nat) => (x : Int)) (ys.map fun (x : Nat) => (x : Int)) w (by rw [← iv_ivs]; exact hx) (by rw [← iv_ivs]; exact hy) (by simpa using h64)
  simp only [List.length_map] at h
  have e : decide ((xs.map fun (x : Nat) => (x : Int)) = ys.map fun (x : Nat) => (x : Int)) = decide (xs = ys) := by
    rw [decide_eq_decide]
    exact ⟨fun h => (List.map_inj_right (fun _ _ h => Int.ofNat.inj h)).1 h, fun h => by rw [h]⟩
  rw [e] at h
  exact h

theorem moved_gr {n : Nat} {gs ms : List (Nat × Nat)} {p : List Nat} (hG : Gr n gs) (hp : IsPerm n p) (hm : ms.Perm (gs.map (mapL p))) : Gr n ms where
  n1 := hG.n1
  n8 := hG.n8
  len := by have := hm.length_eq; rw [List.length_map] at this; have := hG.len; omega
  lt := moved_lt hp hG.lt hm
  ne := fun l hl => by
    obtain ⟨l', hl', rfl⟩ := List.mem_map.1 (hm.mem_iff.1 hl)
    exact fun e => hG.ne l' hl' (hp.inj (hG.lt l' hl').1 (hG.lt l' hl').2 e)

set_option maxRecDepth 100000 in
set_option maxHeartbeats 2000000 in
theorem strongs_law (n : Int) (al : Option Addr) (cap : Nat) (ls : List (Int × Int)) (a b : Int) (w : World) (hx : Rd w al (lcells ls)) (hn : ls.length ≤ maxLen) :
    Calls Try.prog 7 #[.int .i64 n, .slice al ls.length cap, .int .i64 a, .int .i64 b] w fun e w' => e = .returned (.bool true) ∧ Ext w w' := by
  have hway := (RowAt.new w 37 (lcn [(0, 1), (1, 0), (1, 2)])).rd
  have hwayG : Gr 3 [(0, 1), (1, 0), (1, 2)] := ⟨by decide, by decide, by decide, by decide, by decide⟩
  have hE1 : Ext w (w.alloc (.cells (lcn [(0, 1), (1, 0), (1, 2)]).toArray 37)) := (Below.refl _ _).alloc (Nat.le_refl _) _
  have hp1 := parts_any 3 (some ⟨w.heap.size, 0, none⟩) 3 _ _ hway hwayG
  rw [strong_way] at hp1
  have Hp1 := Lib.hid hp1; have Hx := Lib.hid hx
  clear hway hwayG hp1 hx
  go_enter Try.func7, Try.ntmps7
  go_wp2_with (go_at_call 30; refine Hp1.out.mono ?_; rintro e w1 ⟨v1, rfl, hr1, hE2⟩; obtain ⟨a1, c1, rfl, hd1, _⟩ := row_rd hr1)
  refine (equal_nat a1 (some ⟨w1.heap.size, 0, none⟩) c1 3 [0, 0, 2] [0, 0, 2] 3 3 _ (hd1.ext ((Below.refl _ _).alloc (Nat.le_refl _) _)) (RowAt.new w1 3 (List.map iv [0, 0, 2])).rd rfl rfl (by decide)).mono ?_
  rintro e w2 ⟨rfl, hE3⟩
  have hE0 : Ext w w2 := ext_trans (ext_trans hE1 hE2) (ext_trans ((Below.refl _ _).alloc (Nat.le_refl _) _) hE3)
  have hs2 := hE0.size
  rw [show decide ([0, 0, 2] = [0, 0, 2]) = true from rfl]
  clear hr1 hd1 hE1 hE2 hE3
  cases hok : okG n ls with
  | false =>
    have hmv := moved_no n al cap ls a b w2 (Hx.out.ext hE0) hn hok
    clear hok
    go_wp2_with (go_at_call 24; refine hmv.mono ?_; rintro e w3 ⟨rfl, hE4⟩)
    go_ret
    exact ⟨rfl, ext_trans hE0 hE4⟩
  | true =>
    obtain ⟨hnn, hG, hlc, hll⟩ := okG_gr hok
    have hx2 := Hx.out.ext hE0
    obtain ⟨N, hN⟩ : ∃ N, n.toNat = N := ⟨_, rfl⟩
    obtain ⟨gs, hgs⟩ : ∃ gs, nl ls = gs := ⟨_, rfl⟩
    rw [hN] at hnn hG
    rw [hgs] at hG hlc hll
    subst hnn
    rw [hlc] at hx2
    rw [← hll]
    have hn8 := hG.n8
    have hmv := moved_yes N al cap gs a b w2 hx2 hG
    clear hok Hx Hp1 hn hN hgs hlc hll
    go_wp2_with (go_at_call 24; refine hmv.mono ?_; rintro e w3 ⟨vm, vp, p, ms, rfl, hp, hm, hP, ⟨am, cm, rfl, hmr, _⟩, hE4⟩; clear hmv)
    obtain ⟨ap, cp, rfl, hpr, _⟩ := hP
    have hpl := hp.len
    have hG2 := moved_gr hG hp hm
    have h64 : N ≤ 64 := by omega
    have hal := parts_alike h64 hp hG.lt hm
    have hfs := folded_same h64 hp hG.lt hm
    have hPA := fun (W : World) (h : Ext w3 W) => parts_any N al cap gs W (hx2.ext (ext_trans hE4 h)) hG
    have hPB := fun (W : World) (h : Ext w3 W) => parts_any N am cm ms W (hmr.ext h) hG2
    have hFA := fun (W : World) (h : Ext w3 W) => fold_any N al cap gs W (hx2.ext (ext_trans hE4 h)) hG
    have hFB := fun (W : World) (h : Ext w3 W) => fold_any N am cm ms W (hmr.ext h) hG2
    have hlA := partsF_length N gs
    have hlB := partsF_length N ms
    have hAl := fun (aA aB : Option Addr) (cA cB : Nat) (W : World) (h1 : Rd W aA ((partsF N gs).map iv)) (h2 : Rd W aB ((partsF N ms).map iv)) (h3 : Rd W ap (p.map iv)) => alike_true N aA aB ap cA cB cp _ _ p W h1 h2 h3 h64 hlA hlB hp hal
    obtain ⟨X, hX⟩ : ∃ X, foldedF N (partsF N gs) gs = X := ⟨_, rfl⟩
    obtain ⟨Y, hY⟩ : ∃ Y, foldedF N (partsF N ms) ms = Y := ⟨_, rfl⟩
    rw [hX, hY] at hfs
    simp only [hX] at hFA
    simp only [hY] at hFB
    rw [hpl]
    have hlq : (((X.length : Nat) : Int) == ((Y.length : Nat) : Int)) = true := by simp [hfs]
    have HPA := Lib.hid hPA; have HPB := Lib.hid hPB; have HFA := Lib.hid hFA; have HFB := Lib.hid hFB; have HAl := Lib.hid hAl; have HE := Lib.hid (ext_trans hE0 hE4); have Hpr := Lib.hid hpr
    clear hPA hPB hFA hFB hlA hlB hX hY hfs hal hG2 hmr hx2 hG hp hm hpl hAl hE0 hE4 hpr
    refine (HPA.out _ (Below.refl _ _)).mono ?_
    rintro e w4 ⟨vA, rfl, hrA, hE5⟩
    obtain ⟨aA, cA, rfl, hdA, _⟩ := row_rd hrA
    go_wp2_with fail
    refine (HPB.out _ hE5).mono ?_
    rintro e w5 ⟨vB, rfl, hrB, hE6⟩
    obtain ⟨aB, cB, rfl, hdB, _⟩ := row_rd hrB
    go_wp2_with fail
    refine (HFA.out _ (ext_trans hE5 hE6)).mono ?_
    rintro e w6 ⟨vC, uC, rfl, hrC, hE7⟩
    obtain ⟨aC, cC, rfl, hdC, _⟩ := row_rd hrC
    go_wp2_with fail
    refine (HFB.out _ (ext_trans (ext_trans hE5 hE6) hE7)).mono ?_
    rintro e w7 ⟨vD, uD, rfl, hrD, hE8⟩
    obtain ⟨aD, cD, rfl, hdD, _⟩ := row_rd hrD
    have hE67 := ext_trans hE7 hE8
    have HAl' := Lib.hid (HAl.out aA aB cA cB w7 (hdA.ext (ext_trans hE6 hE67)) (hdB.ext hE67) (Hpr.out.ext (ext_trans (ext_trans hE5 hE6) hE67)))
    have HE' := Lib.hid (ext_trans HE.out (ext_trans (ext_trans hE5 hE6) hE67))
    clear hrA hdA hrB hdB hrC hdC hrD hdD hE5 hE6 hE7 hE8 hE67
    go_wp2_with (go_at_call 32; refine HAl'.out.mono ?_; rintro e w8 ⟨rfl, hE9⟩)
    go_ret
    exact ⟨rfl, ext_trans HE'.out hE9⟩
end Go.Proofs.Ythalhapbllbefaa
