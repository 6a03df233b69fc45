/- tourn.Kings. -/
import Derived.Test.YthalhapbllbefaaTourn
import Derived.Test.YthalhapbllbefaaReach
import Derived.Test.YthalhapbllbefaaRegion
namespace Go.Proofs.Ythalhapbllbefaa
open Go.RowKit Go.Shelf
attribute [local go_sem] Oper.semAt_some

set_option maxRecDepth 100000 in
set_option maxHeartbeats 2000000 in
theorem kings_any (n : Nat) (al : Option Addr) (cap : Nat) (gs : List (Nat × Nat)) (w : World) (hx : Rd w al (lcn gs)) (hG : Gr n gs) (hT : tOk n gs = true) :
    Calls Try.prog 41 #[.int .i64 n, .slice al gs.length cap] w fun e w' => ∃ v, e = .returned (.tuple #[v, .nilIface]) ∧ w'.ownsRow w.heap.size 3 1 v (kingsF n gs).length ((kingsF n gs).map iv) ∧ Ext w w' := by
  obtain ⟨i0, hi, hz0, hz1, hz2⟩ := info_parts infoInt
  have hn8 := hG.n8
  have hl24 := hG.len
  have hlt2 : ∀ l ∈ gs, l.1 < n ∧ l.2 < 64 := fun l hl => ⟨(hG.lt l hl).1, by have := (hG.lt l hl).2; omega⟩
  have HG := Lib.hid hG; have Hlt2 := Lib.hid hlt2; have HT := Lib.hid hT
  clear hG hlt2 hT
  refine (callsIn_wide (n := 6)).1 (callsIn_of_wp_marks Try.func41 rfl trivial ?_ rfl)
  simp only [Try.ntmps41, List.size_toArray, List.length_cons, List.length_nil, Nat.reduceAdd, Nat.reduceSub, Array.replicate_succ, Array.replicate_zero, List.push_toArray, List.append_toArray, List.nil_append, List.cons_append]
  refine wpIn_wide.2 ?_
  go_wp2_with (first
    | (go_at_call 42; refine (tcheck_any n al cap gs _ hx HG.out).mono ?_; rintro e w1 ⟨v, rfl, h1, h2⟩; obtain rfl := h1.1 HT.out; clear h1)
    | (go_at_call 59; refine (out_any n al cap gs _ (hx.ext h2) (by omega) (by omega) Hlt2.out).mono ?_; rintro e w2 ⟨v, rfl, ⟨g, rfl, hg, hrow⟩, hB0⟩))
  rw [outs_length]
  have hE2 := ext_trans h2 hB0
  have hs2 := hE2.size
  have hU : ∀ s ∈ outs n gs, U64 s := outs_U64 (fun l hl => by have := HG.out.lt l hl; omega)
  have hbl := outs_length n gs
  have hkd : ∀ i, kingB n gs i = (overT (outs n gs) i == sBelow n) := fun i => rfl
  have hovn : ∀ i j, i < n → j ∈ pts (at_ (outs n gs) i) → j < n := fun i j hi hj => outs_lt HG.out.lt ((mem_pts.1 hj).2)
  obtain ⟨bs, hbs⟩ : ∃ bs, outs n gs = bs := ⟨_, rfl⟩
  rw [hbs] at hrow hU hbl hovn
  simp only [hbs] at hkd
  have HU := Lib.hid hU; have Hbl := Lib.hid hbl; have Hkd := Lib.hid hkd; have Hovn := Lib.hid hovn
  clear hbs hU hbl hkd hovn
  have bB := Boxed.new w2 78 (.slice (some ⟨g, 0, none⟩) n n)
  have hE3 : Ext w2 (w2.alloc (.cells #[.slice (some ⟨g, 0, none⟩) n n] 78)) := (Below.refl _ _).alloc (Nat.le_refl _) _
  refine (wpIn_wide (n := 6)).1 ?_
  refine wpIn_loop_ghost (γ := Nat) (fun k a' W => ∃ (v u9 u10 u23 u24 u25 u26 u27 u28 u29 u30 u31 u32 u33 u34 u35 u43 u44 u45 u46 u47 u48 u49 u50 u51 : Value) (Ds : List Nat), a' = { tmps := #[.int IntKind.i64 ↑n, .slice al gs.length cap, undef, undef, .slice none 0 0, .nilIface, .nilIface, .pointer (some { block := w2.heap.size, off := 0 }), v, u9, u10, undef, .int IntKind.i64 ↑n, .slice al gs.length cap, .nilIface, .nilIface, .bool false, undef, .int IntKind.i64 ↑n, .slice al gs.length cap, .slice (some { block := g, off := 0 }) n n, .int IntKind.i64 ↑n, .int .i64 (k : Nat), u23, u24, u25, u26, u27, u28, u29, u30, u31, u32, u33, u34, u35, undef, undef, undef, undef, undef, undef, undef, u43, u44, u45, u46, u47, u48, u49, u50, u51, undef], defers := Ds.map mark } ∧ k ≤ n ∧
      W.ownsRow w2.heap.size 3 1 v (those k (kingB n gs)).length ((those k (kingB n gs)).map iv) ∧ Boxed W w2.heap.size 78 (.slice (some ⟨g, 0, none⟩) n n) ∧ MarksOk w2.heap.size Ds W ∧ Ext w2 W)
    (fun k => n - k) 0 ?start ?round
  case start => exact ⟨_, _, _, _, _, _, _, _, _, _, _, _, _, _, _, _, _, _, _, _, _, _, _, _, _, [], rfl, by omega, World.ownsRow_nil _ _ _ _, bB, MarksOk.nil _ _, hE3⟩
  case round =>
    clear bB hE3
    rintro k a' W ⟨v, u9, u10, u23, u24, u25, u26, u27, u28, u29, u30, u31, u32, u33, u34, u35, u43, u44, u45, u46, u47, u48, u49, u50, u51, Ds, rfl, hk, hown, hBx, hm, hE⟩
    have hcB := hBx.cell
    have hBlt := hBx.lt
    have htl := those_length k (kingB n gs)
    have hEs := hE.size
    by_cases hlt : k < n
    · have hget : bs[k]? = some (at_ bs k) := at_get (by rw [Hbl.out]; exact hlt)
      have hcs := (hrow.ext hE).cell (sv_get hget)
      have hrl := (hrow.ext hE).lt
      have hsU : U64 (at_ bs k) := getD_U64 HU.out k
      have hkd := Hkd.out k
      have hvl := Hovn.out k
      have hov : overT bs k = ors bs (pts (at_ bs k)) (sIns (at_ bs k) k) := rfl
      obtain ⟨s, hs⟩ : ∃ s, at_ bs k = s := ⟨_, rfl⟩
      rw [hs] at hcs hsU hov
      simp only [hs] at hvl
      rw [hov] at hkd
      have Hkk := Lib.hid hkd; have Hvl := Lib.hid hvl; have Hm := Lib.hid hm; have Hrow := Lib.hid hrow
      clear hkd hget hs hov hvl hm hrow
      gi_wp2_with (first
        | (refine ⟨trivial, ?_⟩; gi_at_call 62; refine (callsIn_wide.2 (with_any s k _ hsU (by omega))).mono ?_; rintro e w' ⟨rfl, rfl⟩)
        | (refine ⟨trivial, ?_⟩; gi_at_call 61; refine (callsIn_wide.2 (each_any s _)).mono ?_; rintro e w' ⟨rfl, rfl⟩))
      have bO := Boxed.new W 67 (.int .u64 (sIns s k : Nat))
      have bS := Boxed.new (W.alloc (.cells #[.int .u64 (sIns s k : Nat)] 67)) 67 (.int .u64 s)
      rw [World.size_alloc] at bS
      have hBW : Ext w2 ((W.alloc (.cells #[.int .u64 (sIns s k : Nat)] 67)).alloc (.cells #[.int .u64 s] 67)) := (hE.alloc hEs _).alloc (by simp; omega) _
      have k1 : KeepsOthers W ((W.alloc (.cells #[.int .u64 (sIns s k : Nat)] 67)).alloc (.cells #[.int .u64 s] 67)) := (KeepsOthers.alloc _ _).trans (KeepsOthers.alloc _ _)
      have Hm1 := Lib.hid (Hm.out.keeps k1)
      have hsI : U64 (sIns s k) := hsU.ins (by omega)
      refine wp_each (by omega) _ s hsU bS rfl (fun pre W2 => Boxed W2 W.heap.size 67 (.int .u64 (ors bs pre (sIns s k) : Nat)) ∧ Boxed W2 w2.heap.size 78 (.slice (some ⟨g, 0, none⟩) n n) ∧ W2.ownsRow w2.heap.size 3 1 v (those k (kingB n gs)).length ((those k (kingB n gs)).map iv) ∧ (∀ x ∈ pre, x ∈ pts s) ∧ MarksOk w2.heap.size Ds W2 ∧ Ext w2 W2) (fun _ _ => False)
        ?hI (fun _ _ _ _ h => h) ?h0 (fun x => { tmps := #[.int IntKind.i64 ↑n, .slice al gs.length cap, undef, undef, .slice none 0 0, .nilIface, .nilIface, .pointer (some { block := w2.heap.size, off := 0 }), v, .int IntKind.i64 ↑k, .pointer (some { block := W.heap.size, off := 0 }), .int .i64 (x : Nat), .int IntKind.i64 ↑n, .slice al gs.length cap, .nilIface, .nilIface, .bool false, undef, .int IntKind.i64 ↑n, .slice al gs.length cap, .slice (some { block := g, off := 0 }) n n, .int IntKind.i64 ↑n, .int IntKind.i64 ↑k, .bool true, .int IntKind.i64 ↑k, .slice (some { block := g, off := 0 }) n n, .int IntKind.i64 ↑k, .pointer (some { block := g, off := k }), .int IntKind.u64 ↑s, .int IntKind.i64 ↑k, .int IntKind.u64 ↑(sIns s k), .slice (some { block := g, off := 0 }) n n, .int IntKind.i64 ↑k, .pointer (some { block := g, off := k }), .int IntKind.u64 ↑s, .func (Fn.func 85) #[] #[.pointer (some { block := W.heap.size + 1, off := 0 })], .int .i64 (x : Nat), undef, undef, undef, undef, undef, undef, u43, u44, u45, u46, u47, u48, u49, u50, u51, undef], defers := [] }) ?assign ?body ?done (fun _ _ _ _ _ _ h => h.elim)
      case hI =>
        have hl := Hm1.out.lt
        exact fun _ _ _ h ⟨h1, h2, h3, h4, h5, h6⟩ => ⟨boxed_sim h1 h, boxed_sim h2 h, row_sim h3 h, h4, h5.sim hl h, h.below h6 (by simp; omega)⟩
      case h0 => exact ⟨bO.alloc _, (hBx.alloc _).alloc _, (hown.alloc _).alloc _, by simp, Hm1.out, hBW⟩
      case assign =>
        intro l x W2 K hK
        simp only [List.setIfInBounds_toArray, List.set_cons_zero, List.set_cons_succ]
        gi_wp2
        exact hK
      case body =>
        intro l pre x W2 hx2 hx64 hpl hl hr hsz hsb ⟨h1, h2, h3, h4, h5, h6⟩
        have hxs : x ∈ pts s := mem_pts.2 ⟨hx64, hx2⟩
        have hxn := Hvl.out x hlt hxs
        have hc1 := h1.cell
        have hf1 := h1.frozen
        have hc2 := h2.cell
        have hgx : bs[x]? = some (at_ bs x) := at_get (by rw [Hbl.out]; exact hxn)
        have hcx := (Hrow.out.ext h6).cell (sv_get hgx)
        have hrg := (Hrow.out.ext h6).lt
        have hxU : U64 (at_ bs x) := getD_U64 HU.out x
        have hoU : U64 (ors bs pre (sIns s k)) := ors_U64 hsI HU.out
        have hsn := ors_snoc bs pre x (sIns s k)
        obtain ⟨o, ho⟩ : ∃ o, ors bs pre (sIns s k) = o := ⟨_, rfl⟩
        obtain ⟨q, hq⟩ : ∃ q, at_ bs x = q := ⟨_, rfl⟩
        rw [ho] at hc1 hoU hsn
        rw [hq] at hcx hxU hsn
        have hor := or_eq hoU hxU
        have H4 := Lib.hid h4; have H5 := Lib.hid h5; have Hsn := Lib.hid hsn; have Hor := Lib.hid hor; have H1 := Lib.hid h1
        clear h4 h5 hgx hsn hor ho hq h1
        gi_wp2_with fail
        refine region_tail_in (fun _ _ h => h) (by rfl) 6 (by kernel_rfl) (by kernel_rfl) ?_
        simp only [List.take_succ_cons, List.take_zero, List.drop_succ_cons, List.drop_zero]
        repeat still_step
        refine wpStill_nil ?_
        go_wp2
        rw [Hor.out]
        have kk : KeepsOthers W2 (W2.setCell ⟨W.heap.size, 0, none⟩ (.int .u64 (o ||| q : Nat))).drew := (KeepsOthers.setCell _ _ _).trans (KeepsOthers.drew _)
        have h3' : (W2.setCell ⟨W.heap.size, 0, none⟩ (.int .u64 (o ||| q : Nat))).ownsRow w2.heap.size 3 1 v (those k (kingB n gs)).length ((those k (kingB n gs)).map iv) := h3.kept (grownBy_cell W2 ⟨W.heap.size, 0, none⟩ _) (.inr (H1.out.not_row (by decide) h3).symm)
        refine ⟨kk, hsb.other (by omega) _, by rw [Hsn.out]; exact H1.out.set _, h2.other (by omega) _, h3', ?_, H5.out.keeps kk, (h6.setCell (p := ⟨W.heap.size, 0, none⟩) hEs _).drew⟩
        intro y hy
        rcases List.mem_append.1 hy with h | h
        · exact H4.out y h
        · simp at h; rw [h]; exact hxs
      case done =>
        intro D W2 hD hDW hsz ⟨h1, h2, h3, h4, h5, h6⟩
        have hcO := h1.cell
        have hl := Hm1.out.lt
        have hs6 := h6.size
        have hoU : U64 (ors bs (pts s) (sIns s k)) := ors_U64 hsI HU.out
        obtain ⟨o, ho⟩ : ∃ o, ors bs (pts s) (sIns s k) = o := ⟨_, rfl⟩
        have hkk := Hkk.out
        rw [ho] at hcO hoU hkk
        have H4 := Lib.hid h4; have H5 := Lib.hid h5
        simp at hD
        have Hl := Lib.hid hl
        clear h4 h5 h1 ho hl
        cases hK : kingB n gs k with
        | true =>
          have hst := those_succ_yes hK
          rw [hK] at hkk
          have hbe : (((o : Nat) : Int) == ((sBelow n : Nat) : Int)) = true := by have := hkk.symm; simp at this; simp [this]
          have Hst := Lib.hid hst
          clear hst hkk hK
          gi_wp2
          refine wpIn_wide.2 ?_
          refine region_still (by kernel_rfl) (by kernel_rfl) ?_
          repeat still_step
          still_call ((below_any n _ (by omega)).mono fun e w' h => ⟨h.1, h.2.symm⟩)
          repeat still_step
          refine wpStill_nil ?_
          gi_wp2_with (gi_at_builtin; refine wpListIn_append_own _ rfl _ _ 23 rfl w2.heap.size 3 i0 (.int .i64 0) 1 8 Try.underlying23 hi hz0 hz1 hz2 rfl (by decide) _ _ _ rfl (h3.alloc _) ⟨W2.heap.size, 0, none⟩ 1 1 [.int .i64 (k : Nat)] rfl rfl (cell_one_new _ _ _) (by simp [Value.oneCell']) (by unfold maxLen; omega) (by omega) (by simp; omega) ?_; intro v' w6 hown' hgrow _)
          have hg' : (W2.drew.alloc (.cells #[.int .i64 (k : Nat)] 3)).grownBy w6 v.ownBlock := hgrow
          have kk : KeepsOthers W2 w6 := (KeepsOthers.drew W2).trans (keeps_append (W := W2.drew) h3 hg')
          refine ⟨k + 1, ⟨_, _, _, _, _, _, _, _, _, _, _, _, _, _, _, _, _, _, _, _, _, _, _, _, _, D :: Ds, rfl, by omega, ?_, ?_, (H5.out.keeps kk).cons (by omega) (kk.same _ _ hDW rfl) (fun D' hD' => by have := Hl.out D' hD'; simp at this; omega), ?_⟩, by omega⟩
          · rw [Hst.out, List.map_append, List.map_cons, List.map_nil, List.length_append]
            exact hown'
          · have hb : Boxed (W2.drew.alloc (.cells #[.int .i64 (k : Nat)] 3)) w2.heap.size 78 (.slice (some ⟨g, 0, none⟩) n n) := h2.alloc _
            exact hb.kept hg' (h2.not_row (by decide) h3)
          · exact (h6.drew.alloc hs6 _).grown hg' (by simp; omega) (fun j e => (h3.lt j e).1)
        | false =>
          have hst := those_succ_no hK
          rw [hK] at hkk
          have hbe : (((o : Nat) : Int) == ((sBelow n : Nat) : Int)) = false := by have := hkk.symm; simp at this; simp; omega
          have Hst := Lib.hid hst
          clear hst hkk hK
          gi_wp2
          refine wpIn_wide.2 ?_
          refine region_still (by kernel_rfl) (by kernel_rfl) ?_
          repeat still_step
          still_call ((below_any n _ (by omega)).mono fun e w' h => ⟨h.1, h.2.symm⟩)
          repeat still_step
          refine wpStill_nil ?_
          gi_wp2
          have kk : KeepsOthers W2 W2.drew := KeepsOthers.drew _
          refine ⟨k + 1, ⟨_, _, _, _, _, _, _, _, _, _, _, _, _, _, _, _, _, _, _, _, _, _, _, _, _, D :: Ds, rfl, by omega, by rw [Hst.out]; exact h3, h2, (H5.out.keeps kk).cons (by omega) hDW (fun D' hD' => by have := Hl.out D' hD'; simp at this; omega), h6.drew⟩, by omega⟩
    · obtain rfl : n = k := by omega
      have Hm := Lib.hid hm
      clear hm hrow
      gi_wp2
      go_wp2
      exact leavesInM_marks (B := w2.heap.size) (Ds := Ds) (results_tmp2 rfl _ _) (fun _ _ h ⟨v, h1, h2, h3⟩ => ⟨v, h1, row_sim h2 h, h.below h3 hs2⟩) W hE.size Hm.out.1 Hm.out.2 ⟨_, rfl, row_base hown hs2, ext_trans hE2 hE⟩
end Go.Proofs.Ythalhapbllbefaa
