/- NumberedTourns answers true. -/
import Derived.Test.YthalhapbllbefaaKings
import Derived.Test.YthalhapbllbefaaNamed
import Derived.Test.YthalhapbllbefaaLaw
namespace Go.Proofs.Ythalhapbllbefaa
open Go.RowKit

theorem kings_way : kingsF 2 [(1, 0)] = [1] := by decide +kernel
theorem kings_wayT : tOk 2 [(1, 0)] = true := by decide +kernel

set_option maxRecDepth 100000 in
set_option maxHeartbeats 2000000 in
theorem tourns_law (n : Int) (al : Option Addr) (cap : Nat) (ls : List (Int × Int)) (a b : Int) (w : World) (hx : Rd w al (lcells ls)) (hn : ls.length ≤ maxLen) :
    Calls Try.prog 10 #[.int .i64 n, .slice al ls.length cap, .int .i64 a, .int .i64 b] w fun e w' => e = .returned (.bool true) ∧ Ext w w' := by
  have hway := (RowAt.new w 37 (lcn [(1, 0)])).rd
  have hwayG : Gr 2 [(1, 0)] := ⟨by decide, by decide, by decide, by decide, by decide⟩
  have hE1 : Ext w (w.alloc (.cells (lcn [(1, 0)]).toArray 37)) := (Below.refl _ _).alloc (Nat.le_refl _) _
  have hp1 := kings_any 2 (some ⟨w.heap.size, 0, none⟩) 1 _ _ hway hwayG kings_wayT
  rw [kings_way] at hp1
  have Hp1 := Lib.hid hp1; have Hx := Lib.hid hx
  clear hway hwayG hp1 hx
  go_enter Try.func10, Try.ntmps10
  go_wp2_with (go_at_call 41; refine Hp1.out.mono ?_; rintro e w1 ⟨v1, rfl, hr1, hE2⟩; obtain ⟨a1, c1, rfl, hd1, _⟩ := row_rd hr1)
  refine (equal_nat a1 (some ⟨w1.heap.size, 0, none⟩) c1 1 [1] [1] 1 1 _ (hd1.ext ((Below.refl _ _).alloc (Nat.le_refl _) _)) (RowAt.new w1 3 (List.map iv [1])).rd rfl rfl (by decide)).mono ?_
  rintro e w2 ⟨rfl, hE3⟩
  have hE0 : Ext w w2 := ext_trans (ext_trans hE1 hE2) (ext_trans ((Below.refl _ _).alloc (Nat.le_refl _) _) hE3)
  have hs2 := hE0.size
  rw [show decide ([1] = [1]) = true from rfl]
  clear hr1 hd1 hE1 hE2 hE3
  cases hok : okG n ls with
  | false =>
    have hck := tcheck_no n al cap ls w2 (Hx.out.ext hE0) hn hok
    clear hok
    go_wp2_with (go_at_call 42; refine hck.mono ?_; rintro e w3 ⟨c, rfl, hE4⟩)
    go_ret
    exact ⟨rfl, ext_trans hE0 hE4⟩
  | true =>
    obtain ⟨hnn, hG, hlc, hll⟩ := okG_gr hok
    have hx2 := Hx.out.ext hE0
    obtain ⟨N, hN⟩ : ∃ N, n.toNat = N := ⟨_, rfl⟩
    obtain ⟨gs, hgs⟩ : ∃ gs, nl ls = gs := ⟨_, rfl⟩
    rw [hN] at hnn hG
    rw [hgs] at hG hlc hll
    subst hnn
    rw [hlc] at hx2
    rw [← hll]
    have hn8 := hG.n8
    have hck := tcheck_any N al cap gs w2 hx2 hG
    cases hT : tOk N gs with
    | false =>
      rw [hT] at hck
      clear hok Hx Hp1 hn hN hgs hlc hll hG hT
      go_wp2_with (go_at_call 42; refine hck.mono ?_; rintro e w3 ⟨v, rfl, h1, hE4⟩; obtain ⟨c, rfl⟩ := h1.2 rfl)
      go_ret
      exact ⟨rfl, ext_trans hE0 hE4⟩
    | true =>
    rw [hT] at hck
    have HT := Lib.hid hT
    have hmv := fun (W : World) (h : Ext w2 W) => moved_yes N al cap gs a b W (hx2.ext h) hG
    have Hmv := Lib.hid hmv
    clear hok Hx Hp1 hn hN hgs hlc hll hT hmv
    go_wp2_with (first
      | (go_at_call 42; refine hck.mono ?_; rintro e w2a ⟨v, rfl, h1, hE4a⟩; obtain rfl := h1.1 rfl; clear h1)
      | (go_at_call 24; refine (Hmv.out _ hE4a).mono ?_; rintro e w3 ⟨vm, vp, p, ms, rfl, hp, hm, hP, ⟨am, cm, rfl, hmr, _⟩, hE4b⟩))
    have hE4 := ext_trans hE4a hE4b
    clear hck Hmv
    obtain ⟨ap, cp, rfl, hpr, _⟩ := hP
    have hpl := hp.len
    have hG2 := moved_gr hG hp hm
    have h64 : N ≤ 64 := by omega
    have hT2 := tOk_move hp hG.lt hm HT.out
    have hPA := fun (W : World) (h : Ext w3 W) => scores_any N al cap gs W (hx2.ext (ext_trans hE4 h)) hG HT.out
    have hPB := fun (W : World) (h : Ext w3 W) => scores_any N am cm ms W (hmr.ext h) hG2 hT2
    have hFA := fun (W : World) (h : Ext w3 W) => kings_any N al cap gs W (hx2.ext (ext_trans hE4 h)) hG HT.out
    have hFB := fun (W : World) (h : Ext w3 W) => kings_any N am cm ms W (hmr.ext h) hG2 hT2
    have hput := scores_put h64 hp hG.lt hm
    have hnam := kings_named h64 hp hG.lt hm
    have hlA := scoresF_length N gs
    have hlB := scoresF_length N ms
    have heA : (kingsF N gs).length ≤ N := those_length _ _
    have heB : (kingsF N ms).length ≤ N := those_length _ _
    have hel : ∀ i ∈ kingsF N gs, i < N := fun i hi => (mem_those.1 hi).1
    have hen : (namedF (kingsF N gs) p).length = (kingsF N ms).length := by rw [hnam, List.length_map]
    rw [namedF_length] at hen
    have hPut := fun (aA : Option Addr) (cA : Nat) (W : World) (h1 : Rd W aA ((scoresF N gs).map iv)) (h3 : Rd W ap (p.map iv)) => put_any N aA ap cA cp _ p W (by rw [iv_ivs] at h1; exact h1) h3 (by rw [List.length_map]; exact hlA) hp h64
    rw [hput] at hPut
    have hNam := fun (aA : Option Addr) (cA : Nat) (W : World) (h1 : Rd W aA ((kingsF N gs).map iv)) (h3 : Rd W ap (p.map iv)) => named_any N aA ap cA cp (kingsF N gs) p (kingsF N gs).length N W h1 h3 rfl rfl hp hel (by omega) (by omega)
    rw [hnam] at hNam
    simp only [← iv_ivs] at hPut hNam
    obtain ⟨X, hX⟩ : ∃ X, kingsF N gs = X := ⟨_, rfl⟩
    obtain ⟨Y, hY⟩ : ∃ Y, kingsF N ms = Y := ⟨_, rfl⟩
    rw [hX, hY] at hen
    simp only [hX] at hFA hNam heA
    simp only [hY] at hFB hNam heB
    obtain ⟨U, hU⟩ : ∃ U, scoresF N gs = U := ⟨_, rfl⟩
    obtain ⟨V, hV⟩ : ∃ V, scoresF N ms = V := ⟨_, rfl⟩
    simp only [hU] at hPA hPut
    simp only [hV] at hPB hPut hlB
    rw [hpl]
    have HPA := Lib.hid hPA; have HPB := Lib.hid hPB; have HFA := Lib.hid hFA; have HFB := Lib.hid hFB; have HPut := Lib.hid hPut; have HNam := Lib.hid hNam; have HE := Lib.hid (ext_trans hE0 hE4); have Hpr := Lib.hid hpr; have HlB := Lib.hid hlB; have Hen := Lib.hid hen
    clear hT2 hPA hPB hFA hFB hlA hlB hX hY hU hV hG2 hmr hx2 hG hp hm hpl hPut hNam hE0 hE4 hpr hput hnam hen hel
    refine (HPA.out _ (Below.refl _ _)).mono ?_
    rintro e w4 ⟨vA, rfl, hrA, hE5⟩
    obtain ⟨aA, cA, rfl, hdA, _⟩ := row_rd hrA
    go_wp2_with fail
    refine (HPB.out _ hE5).mono ?_
    rintro e w5 ⟨vB, rfl, hrB, hE6⟩
    obtain ⟨aB, cB, rfl, hdB, _⟩ := row_rd hrB
    go_wp2_with fail
    refine (HFA.out _ (ext_trans hE5 hE6)).mono ?_
    rintro e w6 ⟨vC, rfl, hrC, hE7⟩
    obtain ⟨aC, cC, rfl, hdC, _⟩ := row_rd hrC
    go_wp2_with fail
    refine (HFB.out _ (ext_trans (ext_trans hE5 hE6) hE7)).mono ?_
    rintro e w7 ⟨vD, rfl, hrD, hE8⟩
    obtain ⟨aD, cD, rfl, hdD, _⟩ := row_rd hrD
    have hE67 := ext_trans hE7 hE8
    have hE37 := ext_trans (ext_trans hE5 hE6) hE67
    have HdA := Lib.hid (hdA.ext (ext_trans hE6 hE67)); have HdB := Lib.hid (hdB.ext hE67); have HdC := Lib.hid (hdC.ext hE8); have HdD := Lib.hid hdD; have Hpr7 := Lib.hid (Hpr.out.ext hE37)
    have HE' := Lib.hid (ext_trans HE.out hE37)
    clear hrA hdA hrB hdB hrC hdC hrD hdD hE5 hE6 hE7 hE8 hE67 hE37
    go_wp2_with fail
    refine (HPut.out aA cA w7 HdA.out Hpr7.out).mono ?_
    rintro e w8 ⟨vE, rfl, hrE, hE9⟩
    obtain ⟨aE, cE, rfl, hdE, _⟩ := row_rd hrE
    have hq1 := equal_nat aE aB cE cB V V N N w8 hdE (HdB.out.ext hE9) HlB.out HlB.out (by omega)
    rw [show decide (V = V) = true by simp] at hq1
    have Hq1 := Lib.hid hq1; have HE9 := Lib.hid hE9
    clear hq1 hrE hdE hE9
    go_wp2_with fail
    refine Hq1.out.mono ?_
    rintro e w9 ⟨rfl, hE10⟩
    have HE10 := Lib.hid (ext_trans HE9.out hE10)
    clear hE10
    go_wp2_with fail
    refine (HNam.out aC cC w9 (HdC.out.ext HE10.out) (Hpr7.out.ext HE10.out)).mono ?_
    rintro e w10 ⟨vF, rfl, hrF, hE11⟩
    obtain ⟨aF, cF, rfl, hdF, _⟩ := row_rd hrF
    have hq2 := equal_nat aF aD cF cD Y Y X.length Y.length w10 hdF (HdD.out.ext (ext_trans HE10.out hE11)) Hen.out.symm rfl (by omega)
    rw [show decide (Y = Y) = true by simp] at hq2
    have Hq2 := Lib.hid hq2; have HE11 := Lib.hid (ext_trans HE10.out hE11)
    clear hq2 hrF hdF hE11
    go_wp2_with fail
    refine Hq2.out.mono ?_
    rintro e w11 ⟨rfl, hE12⟩
    go_wp2
    go_ret
    exact ⟨rfl, ext_trans HE'.out (ext_trans HE11.out hE12)⟩
end Go.Proofs.Ythalhapbllbefaa
