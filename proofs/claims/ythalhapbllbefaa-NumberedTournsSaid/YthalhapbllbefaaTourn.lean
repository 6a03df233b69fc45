/- tourn: Check, Scores, Kings. -/
import Derived.Test.YthalhapbllbefaaTournP
import Derived.Test.YthalhapbllbefaaDegree
import Derived.Test.YthalhapbllbefaaReach
import Derived.Test.YthalhapbllbefaaGet
namespace Go.Proofs.Ythalhapbllbefaa
open Go.RowKit Go.Shelf
attribute [local go_sem] Oper.semAt_some

theorem tcheck_no (n : Int) (al : Option Addr) (cap : Nat) (ls : List (Int × Int)) (w : World) (hx : Rd w al (lcells ls)) (hn : ls.length ≤ maxLen) (hok : okG n ls = false) :
    Calls Try.prog 42 #[.int .i64 n, .slice al ls.length cap] w fun e w' => ∃ c, e = .returned (.iface 71 (.int .i64 c)) ∧ Ext w w' := by
  have Hok := Lib.hid hok
  clear hok
  go_enter Try.func42, Try.ntmps42
  go_wp2_with (go_at_call 64; refine (gcheck_any n al cap ls _ hx hn).mono ?_; rintro e w1 ⟨v, rfl, h1, h2⟩; obtain ⟨c, rfl⟩ := h1.2 Hok.out; clear h1)
  go_ret
  exact ⟨_, rfl, h2⟩

theorem two_mul {n : Nat} (h : n ≤ 8) : ∃ q : Nat, (n : Int) * ((n : Int) - 1) = q ∧ n * (n - 1) = q ∧ q ≤ 56 := by
  refine ⟨n * (n - 1), ?_, rfl, ?_⟩
  · rcases (by omega : n = 0 ∨ n = 1 ∨ n = 2 ∨ n = 3 ∨ n = 4 ∨ n = 5 ∨ n = 6 ∨ n = 7 ∨ n = 8) with h | h | h | h | h | h | h | h | h <;> subst h <;> rfl
  · rcases (by omega : n = 0 ∨ n = 1 ∨ n = 2 ∨ n = 3 ∨ n = 4 ∨ n = 5 ∨ n = 6 ∨ n = 7 ∨ n = 8) with h | h | h | h | h | h | h | h | h <;> subst h <;> decide

set_option maxRecDepth 100000 in
set_option maxHeartbeats 2000000 in
theorem tcheck_any (n : Nat) (al : Option Addr) (cap : Nat) (gs : List (Nat × Nat)) (w : World) (hx : Rd w al (lcn gs)) (hG : Gr n gs) :
    Calls Try.prog 42 #[.int .i64 n, .slice al gs.length cap] w fun e w' => ∃ v, e = .returned v ∧ ErrIf (tOk n gs) v ∧ Ext w w' := by
  have hn8 := hG.n8
  have hn1 := hG.n1
  have hl24 := hG.len
  have hok := gr_okG hG
  have hlen : (gs.map fun l => ((l.1 : Int), (l.2 : Int))).length = gs.length := by simp
  have hchk := fun (w : World) (hx : Rd w al (lcn gs)) => gcheck_any n al cap (gs.map fun l => ((l.1 : Int), (l.2 : Int))) w (by rw [lcells_cast]; exact hx) (by unfold maxLen; omega)
  rw [hlen] at hchk
  have hlt2 : ∀ l ∈ gs, l.1 < n ∧ l.2 < 64 := fun l hl => ⟨(hG.lt l hl).1, by have := (hG.lt l hl).2; omega⟩
  have Hchk := Lib.hid hchk; have Hok := Lib.hid hok; have HG := Lib.hid hG; have Hlt2 := Lib.hid hlt2
  clear hchk hok hlen hG hlt2
  go_enter Try.func42, Try.ntmps42
  go_wp2_with (first
    | (go_at_call 64; refine (Hchk.out _ hx).mono ?_; rintro e w1 ⟨v, rfl, h1, h2⟩; obtain rfl := h1.1 Hok.out; clear h1)
    | (go_at_call 59; refine (out_any n al cap gs _ (hx.ext h2) (by omega) (by omega) Hlt2.out).mono ?_; rintro e w2 ⟨v, rfl, ⟨g, rfl, hg, hrow⟩, hB0⟩))
  rw [outs_length]
  have hE2 := ext_trans h2 hB0
  have hU : ∀ s ∈ outs n gs, U64 s := outs_U64 (fun l hl => by have := HG.out.lt l hl; omega)
  have hbl := outs_length n gs
  have hiff := tOk_iff (n := n) (gs := gs)
  obtain ⟨bs, hbs⟩ : ∃ bs, outs n gs = bs := ⟨_, rfl⟩
  rw [hbs] at hrow hU hbl hiff
  have HU := Lib.hid hU; have Hiff := Lib.hid hiff; have Hbl := Lib.hid hbl
  clear hbs hU hiff hbl
  go_loopw [19] (fun i wr => ∃ k : Nat, k ≤ n ∧ i = .int .i64 k ∧ Hid (∀ a b, a < k → b < a → tOne bs a b = true) ∧ Ext w2 wr) (fun i _ => n - (intOf i).toNat)
  case atStart => exact ⟨0, by omega, rfl, Lib.hid (fun a b h => by omega), Below.refl _ _⟩
  case round =>
    obtain ⟨k, hk, rfl, hall, hE⟩ := hrel
    by_cases hlt : k < n
    · obtain ⟨w3, hw3⟩ : ∃ w3, w3 = wr := ⟨_, rfl⟩
      subst hw3
      go_wp2
      go_loopw [23] (fun i wr => ∃ m : Nat, m ≤ k ∧ i = .int .i64 m ∧ Hid (∀ b, b < m → tOne bs k b = true) ∧ Ext w2 wr) (fun i _ => k - (intOf i).toNat)
      case atStart => exact ⟨0, by omega, rfl, Lib.hid (fun b h => by omega), hE⟩
      case round =>
        obtain ⟨m, hm, rfl, hall2, hE3⟩ := hrel
        by_cases hlm : m < k
        · have hr3 := hrow.ext hE3
          have hlow := hr3.lt
          have hmn : m < n := by omega
          have hk2 : bs[k]? = some (at_ bs k) := at_get (by rw [Hbl.out]; exact hlt)
          have hm2 : bs[m]? = some (at_ bs m) := at_get (by rw [Hbl.out]; omega)
          have hck := hr3.cell (sv_get hk2)
          have hcm := hr3.cell (sv_get hm2)
          have hsk := getD_U64 HU.out k
          have hsm := getD_U64 HU.out m
          have hdef : tOne bs k m = ((at_ bs k).testBit m != (at_ bs m).testBit k) := rfl
          change U64 (at_ bs k) at hsk
          change U64 (at_ bs m) at hsm
          obtain ⟨s, hs⟩ : ∃ s, at_ bs k = s := ⟨_, rfl⟩
          obtain ⟨t, ht⟩ : ∃ t, at_ bs m = t := ⟨_, rfl⟩
          rw [hs] at hck hsk hdef
          rw [ht] at hcm hsm hdef
          obtain ⟨X, hX⟩ : ∃ X, s.testBit m = X := ⟨_, rfl⟩
          obtain ⟨Y, hY⟩ : ∃ Y, t.testBit k = Y := ⟨_, rfl⟩
          rw [hX, hY] at hdef
          have h1 := fun (w : World) => has_any s m w hsk (by omega)
          have h2' := fun (w : World) => has_any t k w hsm (by omega)
          simp only [hX] at h1
          simp only [hY] at h2'
          have H1 := Lib.hid h1; have H2 := Lib.hid h2'
          have Hdef := Lib.hid hdef
          have Hrow := Lib.hid hrow
          clear hr3 hk2 hm2 hs ht hX hY h1 h2' hdef hsk hsm hrow
          cases hT : tOne bs k m with
          | true =>
            have hbe : (X == Y) = false := by
              have h := Hdef.out
              rw [hT] at h
              revert h
              cases X <;> cases Y <;> decide
            have HT := Lib.hid hT
            clear hT
            go_wp2_with fail
            refine region_still (by kernel_rfl) (by kernel_rfl) ?_
            repeat still_step
            still_call ((H1.out _).mono fun e w' h => ⟨h.1, h.2.symm⟩)
            repeat still_step
            still_call ((H2.out _).mono fun e w' h => ⟨h.1, h.2.symm⟩)
            repeat still_step
            refine wpStill_nil ?_
            go_wp2
            refine ⟨⟨m + 1, by omega, by go_num, Lib.hid (fun b hb => ?_), hE3.drew⟩, by simp [intOf]; omega⟩
            rcases (by omega : b < m ∨ b = m) with h | h
            · exact hall2.out b h
            · rw [h]; exact HT.out
          | false =>
            have hbe : (X == Y) = true := by
              have h := Hdef.out
              rw [hT] at h
              revert h
              cases X <;> cases Y <;> decide
            have HT := Lib.hid hT
            clear hT
            go_wp2_with fail
            refine region_still (by kernel_rfl) (by kernel_rfl) ?_
            repeat still_step
            still_call ((H1.out _).mono fun e w' h => ⟨h.1, h.2.symm⟩)
            repeat still_step
            still_call ((H2.out _).mono fun e w' h => ⟨h.1, h.2.symm⟩)
            repeat still_step
            refine wpStill_nil ?_
            go_wp2
            go_ret
            refine ⟨_, rfl, ErrIf.no ?_, (ext_trans hE2 hE3).drew⟩
            cases ho : tOk n gs with
            | false => rfl
            | true =>
              have := (Hiff.out.1 ho).1 k m hlt (by omega) (by omega)
              rw [HT.out] at this; cases this
        · go_wp2
          refine ⟨⟨k + 1, by omega, by go_num, Lib.hid (fun a b ha hb => ?_), hE3⟩, by simp [intOf]; omega⟩
          rcases (by omega : a < k ∨ a = k) with h | h
          · exact hall.out a b h hb
          · subst h; exact hall2.out b (by omega)
    · obtain ⟨q, hq1, hq2, hq3⟩ := two_mul hn8
      have hEf := ext_trans hE2 hE
      have hyes : gs.length = q / 2 → tOk n gs = true := fun e => Hiff.out.2 ⟨fun a b ha hb hne => by
        rcases Nat.lt_or_gt_of_ne hne with h | h
        · rw [tOne_symm]; exact hall.out b a (by omega) h
        · exact hall.out a b (by omega) h, by rw [hq2]; exact e⟩
      have hno : gs.length ≠ q / 2 → tOk n gs = false := fun e => by
        cases ho : tOk n gs with
        | false => rfl
        | true => have := (Hiff.out.1 ho).2; rw [hq2] at this; exact absurd this e
      have Hyes := Lib.hid hyes; have Hno := Lib.hid hno
      clear hyes hno hq2 hrow
      by_cases hlq : gs.length = q / 2
      · have hbe : (!(((gs.length : Nat) : Int) == (q : Int) / 2)) = false := by simp; omega
        go_wp2
        go_ret
        exact ⟨_, rfl, ErrIf.yes (Hyes.out hlq), hEf⟩
      · have hbe : (!(((gs.length : Nat) : Int) == (q : Int) / 2)) = true := by simp; omega
        go_wp2
        go_ret
        exact ⟨_, rfl, ErrIf.no (Hno.out hlq), hEf⟩

set_option maxRecDepth 100000 in
set_option maxHeartbeats 2000000 in
theorem scores_any (n : Nat) (al : Option Addr) (cap : Nat) (gs : List (Nat × Nat)) (w : World) (hx : Rd w al (lcn gs)) (hG : Gr n gs) (hT : tOk n gs = true) :
    Calls Try.prog 43 #[.int .i64 n, .slice al gs.length cap] w fun e w' => ∃ v, e = .returned (.tuple #[v, .nilIface]) ∧ w'.ownsRow w.heap.size 3 1 v n ((scoresF n gs).map iv) ∧ Ext w w' := by
  obtain ⟨i0, hi, hz0, hz1, hz2⟩ := info_parts infoInt
  have hn8 := hG.n8
  have hl24 := hG.len
  have hlt2 : ∀ l ∈ gs, l.1 < n ∧ l.2 < 64 := fun l hl => ⟨(hG.lt l hl).1, by have := (hG.lt l hl).2; omega⟩
  have HG := Lib.hid hG; have Hlt2 := Lib.hid hlt2; have HT := Lib.hid hT
  clear hG hlt2 hT
  go_enter Try.func43, Try.ntmps43
  go_wp2_with (first
    | (go_at_call 42; refine (tcheck_any n al cap gs _ hx HG.out).mono ?_; rintro e w1 ⟨v, rfl, h1, h2⟩; obtain rfl := h1.1 HT.out; clear h1)
    | (go_at_call 59; refine (out_any n al cap gs _ (hx.ext h2) (by omega) (by omega) Hlt2.out).mono ?_; rintro e w2 ⟨v, rfl, ⟨g, rfl, hg, hrow⟩, hB0⟩))
  rw [outs_length]
  have hE2 := ext_trans h2 hB0
  have hs2 := hE2.size
  have hU : ∀ s ∈ outs n gs, U64 s := outs_U64 (fun l hl => by have := HG.out.lt l hl; omega)
  have hbl := outs_length n gs
  obtain ⟨bs, hbs⟩ : ∃ bs, outs n gs = bs := ⟨_, rfl⟩
  have hdf : scoresF n gs = bs.map fun s => (pts s).length := by unfold scoresF; rw [hbs]
  rw [hbs] at hrow hU hbl
  have HU := Lib.hid hU; have Hdf := Lib.hid hdf; have Hbl := Lib.hid hbl
  clear hbs hU hdf hbl
  go_loopw [7, 20] (fun t i wr => ∃ k : Nat, k ≤ n ∧ i = .int .i64 k ∧ wr.ownsRow w2.heap.size 3 1 t k (((bs.take k).map fun s => (pts s).length).map iv) ∧ Ext w2 wr) (fun _ i _ => n - (intOf i).toNat)
  case atStart => exact ⟨0, by omega, rfl, by simpa using World.ownsRow_nil _ _ _ _, Below.refl _ _⟩
  case round =>
    obtain ⟨k, hk, rfl, hown, hE⟩ := hrel
    by_cases hlt : k < n
    · have hget : bs[k]? = some (at_ bs k) := at_get (by rw [Hbl.out]; exact hlt)
      have hcs := (hrow.ext hE).cell (sv_get hget)
      have hrl := (hrow.ext hE).lt
      have hsU : U64 (at_ bs k) := getD_U64 HU.out k
      have htk := take_snoc hget
      obtain ⟨s, hs⟩ : ∃ s, at_ bs k = s := ⟨_, rfl⟩
      rw [hs] at hcs hsU htk
      have hpl := pts_length s
      have hLen := fun (w : World) => len_any s w hsU
      obtain ⟨m, hm⟩ : ∃ m, (pts s).length = m := ⟨_, rfl⟩
      simp only [hm] at hLen hpl
      have Htk := Lib.hid htk; have Hm := Lib.hid hm; have HLen := Lib.hid hLen; have Hrow := Lib.hid hrow
      clear htk hget hs hm hLen hrow
      go_wp2_with fail
      refine (HLen.out _).mono ?_
      rintro e w3 ⟨rfl, hE3⟩
      have hown3 := row_ext hown hE3
      have hEk := ext_trans hE hE3
      have hs3 := hEk.size
      go_wp2_with (at_builtin; refine wpList_append_own _ rfl _ _ 23 rfl w2.heap.size 3 i0 (.int .i64 0) 1 8 Try.underlying23 hi hz0 hz1 hz2 rfl (by decide) _ k _ rfl (hown3.alloc _) ⟨w3.heap.size, 0, none⟩ 1 1 [.int .i64 (m : Nat)] rfl rfl (cell_one_new _ _ _) (by simp [Value.oneCell']) (by unfold maxLen; omega) (by omega) (by simp; omega) ?_; intro v' w6 hown' hgrow _)
      refine ⟨⟨k + 1, by omega, by go_num, ?_, (hEk.alloc (by omega) _).grown hgrow (by simp; omega) (fun j e => (hown3.lt j e).1)⟩, by simp [intOf]; omega⟩
      rw [Htk.out, List.map_append, List.map_append, List.map_cons, List.map_nil, List.map_cons, List.map_nil, Hm.out]
      exact hown'
    · obtain rfl : n = k := by omega
      rw [List.take_of_length_le (by rw [Hbl.out]; omega), ← Hdf.out] at hown
      have hfin := row_base hown (base' := w.heap.size) (by omega)
      have hEf := ext_trans hE2 hE
      clear hown
      go_wp2
      go_ret2
      exact ⟨_, rfl, hfin, hEf⟩
end Go.Proofs.Ythalhapbllbefaa
