/- Reach: the points that one comes to. -/
import Derived.Test.YthalhapbllbefaaOut
import Derived.Test.YthalhapbllbefaaQueue
namespace Go.Proofs.Ythalhapbllbefaa
open Go.RowKit Go.Shelf
attribute [local go_sem] Oper.semAt_some

/-- The blocks of marks. -/
def MarksOk (B : Nat) (Ds : List Nat) (W : World) : Prop := (∀ D ∈ Ds, B ≤ D ∧ W.heap[D]? = some (.deferred (some []))) ∧ Ds.Nodup
theorem MarksOk.nil (B : Nat) (W : World) : MarksOk B [] W := ⟨fun _ h => by simp at h, by simp⟩
theorem MarksOk.keeps {B : Nat} {Ds : List Nat} {W W' : World} (h : MarksOk B Ds W) (k : KeepsOthers W W') : MarksOk B Ds W' := ⟨fun D hD => ⟨(h.1 D hD).1, k.same _ _ (h.1 D hD).2 rfl⟩, h.2⟩
theorem MarksOk.lt {B : Nat} {Ds : List Nat} {W : World} (h : MarksOk B Ds W) : ∀ D ∈ Ds, D < W.heap.size := fun D hD => (Array.getElem?_eq_some_iff.1 (h.1 D hD).2).1
theorem MarksOk.sim {B B' : Nat} {Ds : List Nat} {W W' : World} (h : MarksOk B Ds W) (hl : ∀ D ∈ Ds, D < B') (s : Sim B' W W') : MarksOk B Ds W' := ⟨fun D hD => ⟨(h.1 D hD).1, (s.low D (hl D hD)).trans (h.1 D hD).2⟩, h.2⟩
theorem MarksOk.cons {B D : Nat} {Ds : List Nat} {W : World} (h : MarksOk B Ds W) (hB : B ≤ D) (hD : W.heap[D]? = some (.deferred (some []))) (hl : ∀ D' ∈ Ds, D' < D) : MarksOk B (D :: Ds) W :=
  ⟨fun D' hD' => by
    rcases List.mem_cons.1 hD' with rfl | h'
    · exact ⟨hB, hD⟩
    · exact h.1 _ h', List.nodup_cons.2 ⟨fun hm => Nat.lt_irrefl _ (hl D hm), h.2⟩⟩

set_option maxRecDepth 100000 in
set_option maxHeartbeats 2000000 in
theorem reach_any (f : Nat) (next : List Nat) (within : Nat) (a : Option Addr) (cap : Nat) (w : World) (hx : Rd w a (next.map sv)) (hf : f < next.length) (hn : next.length ≤ 64) (hU : ∀ s ∈ next, U64 s) (hw : U64 within)
    (hin : ∀ j, within.testBit j = true → j < next.length) :
    Calls Try.prog 70 #[.int .i64 f, .slice a next.length cap, .int .u64 within] w fun e w' => ∃ r, e = .returned (.int .u64 (r : Nat)) ∧ U64 r ∧ (∀ j, r.testBit j = true ↔ Reach next within f j) ∧ Ext w w' := by
  obtain ⟨i0, hi, hz0, hz1, hz2⟩ := info_parts infoInt
  have hf64 : f < 64 := by omega
  refine (callsIn_wide (n := 6)).1 (callsIn_of_wp_marks Try.func70 rfl trivial ?_ rfl)
  simp only [Try.ntmps70, List.size_toArray, List.length_cons, List.length_nil, Nat.reduceAdd, Nat.reduceSub, Array.replicate_succ, Array.replicate_zero, List.push_toArray, List.append_toArray, List.nil_append, List.cons_append]
  gi_wp2_with (refine ⟨trivial, ?_⟩; gi_at_call 62; refine (callsIn_wide.2 (with_any 0 f _ U64.zero hf64)).mono ?_; rintro e w' ⟨rfl, rfl⟩)
  have bS := Boxed.new w 67 (.int .u64 (sIns 0 f : Nat))
  have rQ := RowAt.new (w.alloc (.cells #[.int .u64 (sIns 0 f : Nat)] 67)) 3 [iv f]
  rw [World.size_alloc] at rQ
  have oQ := own1_of_row (rQ.owns (base := w.heap.size) (n := 1) (by omega) rfl (by unfold maxLen; omega))
  have bQ := Boxed.new ((w.alloc (.cells #[.int .u64 (sIns 0 f : Nat)] 67)).alloc (.cells #[.int .i64 f] 3)) 23 (.slice (some ⟨w.heap.size + 1, 0, none⟩) 1 1)
  rw [World.size_alloc, World.size_alloc] at bQ
  refine wpIn_loop_ghost (γ := Nat × List Nat) (fun g a' W => ∃ (bt : Nat) (v u9 u10 u15 u16 u17 u18 u19 u20 u21 u22 u23 u24 u25 u26 u27 u28 u29 u30 u31 u32 u33 u34 u35 u36 u37 u38 u39 u40 : Value) (Ds : List Nat),
      a' = { tmps := #[.int .i64 f, .slice a next.length cap, .int .u64 within, undef, undef, undef, .int .u64 0, .pointer (some ⟨w.heap.size, 0, none⟩), .pointer (some ⟨bt, 0, none⟩), u9, u10, .int .i64 f, .int .u64 (sIns 0 f : Nat), .int .i64 f, .slice (some ⟨w.heap.size + 1, 0, none⟩) 1 1, u15, u16, u17, u18, u19, u20, u21, u22, u23, u24, u25, u26, u27, u28, u29, u30, u31, u32, u33, u34, u35, u36, u37, u38, u39, u40, undef], defers := Ds.map mark } ∧ Hid (ReachInv next within f g.1 g.2) ∧
      Boxed W w.heap.size 67 (.int .u64 (g.1 : Nat)) ∧ Boxed W bt 23 v ∧ w.heap.size < bt ∧ Own1 W w.heap.size 3 v (g.2.map iv) ∧ MarksOk w.heap.size Ds W ∧ Below w.heap.size w W)
    (fun g => 2 * (64 - (pts g.1).length) + g.2.length) (sIns 0 f, [f]) ?start ?round
  case start =>
    refine ⟨_, _, _, _, _, _, _, _, _, _, _, _, _, _, _, _, _, _, _, _, _, _, _, _, _, _, _, _, _, _, [], rfl, ReachInv.start hf hn, (bS.alloc _).alloc _, bQ, by omega, oQ.alloc _, MarksOk.nil _ _, (((Below.refl _ w).alloc (Nat.le_refl _) _).alloc (by simp) _).alloc (by simp; omega) _⟩
  case round =>
    clear bS rQ oQ bQ
    rintro ⟨s, q⟩ a' W ⟨bt, v, u9, u10, u15, u16, u17, u18, u19, u20, u21, u22, u23, u24, u25, u26, u27, u28, u29, u30, u31, u32, u33, u34, u35, u36, u37, u38, u39, u40, Ds, rfl, hinv, hS, hQ, hbt, hq, hm, hB⟩
    dsimp only at hinv hS hq ⊢
    have hcS := hS.cell
    have hcQ := hQ.cell
    have hfQ := hQ.frozen
    cases q with
    | nil =>
      obtain ⟨qa, qc, rfl, _⟩ := hq.rd
      gi_wp2
      exact leavesInM_marks (B := w.heap.size) (Ds := Ds) (results_tmp rfl _ _) (fun _ _ h ⟨r, h1, h2, h3, h4⟩ => ⟨r, h1, h2, h3, h.below h4 (Nat.le_refl _)⟩) W hB.size hm.1 hm.2 ⟨s, rfl, hinv.out.hu, hinv.out.done, hB⟩
    | cons i q =>
      have hql : q.length ≤ 64 := by have := hinv.out.hn; have := pts_length s; simp only [List.length_cons] at *; omega
      have hi64 : i < next.length := (hinv.out.hr i (hinv.out.hq i (by simp))).2
      obtain ⟨qa, qc, rfl, hqr⟩ := hq.rd
      obtain ⟨g, off, rfl, hc0⟩ := hqr.get (i := 0) (v := iv i) (by simp)
      simp only [iv, Nat.add_zero] at hc0
      have hlen : (List.map iv (i :: q)).length = q.length + 1 := by simp
      rw [hlen] at hq hQ hcQ
      clear hqr hlen
      have Hinv := Lib.hid hinv; have Hm := Lib.hid hm
      clear hinv hm
      obtain ⟨ni, hni⟩ : ∃ ni, next[i]?.getD 0 = ni := ⟨_, rfl⟩
      have hniU : U64 ni := by rw [← hni]; exact getD_U64 hU i
      obtain ⟨b, boff, rfl, hcb, hbw⟩ := hx.at (i := i) (v := sv ni) (by rw [List.getElem?_map, ← hni]; simp [hi64])
      rw [sv, ← cell_below hB hbw] at hcb
      have Hni := Lib.hid hni; clear hni
      gi_wp2_with (refine wpListIn_pop _ rfl _ 23 rfl w.heap.size 3 i0 Try.underlying23 hi hz1 _ (iv i) (q.map iv) rfl hq ?_; intro v2 hq2 hv2; obtain ⟨qa2, qc2, rfl⟩ := hq2.form (n := q.length) (by simp))
      refine wpIn_wide.2 ?_
      refine region_tail 8 (by kernel_rfl) (by kernel_rfl) ?_
      simp only [List.take_succ_cons, List.take_zero, List.drop_succ_cons, List.drop_zero]
      repeat still_step
      refine wpStill_nil ?_
      have hsU : U64 s := Hinv.out.out.hu
      have hwt := World.cell?_setCell_same' W ⟨bt, 0, none⟩ (.slice qa2 q.length qc2) (by rw [hcQ]; rfl)
      rw [and_eq hniU hw, dif_eq hniU.and hsU]
      obtain ⟨t, ht⟩ : ∃ t, sDif (ni &&& within) s = t := ⟨_, rfl⟩
      rw [ht]
      have Ht := Lib.hid ht; clear ht
      go_wp2_with (go_at_call 61; refine (each_any t _).mono ?_; rintro e w' ⟨rfl, rfl⟩)
      have hlW := hS.lt
      have hlt := hQ.lt
      have htU : U64 t := by rw [← Ht.out]; exact hniU.and.dif
      have k1 : KeepsOthers W (((W.setCell ⟨bt, 0, none⟩ (.slice qa2 q.length qc2)).alloc (.cells #[.int .u64 (t : Nat)] 67)).drew) := ((KeepsOthers.setCell _ _ _).trans (KeepsOthers.alloc _ _)).trans (KeepsOthers.drew _)
      have hS1 : Boxed (((W.setCell ⟨bt, 0, none⟩ (.slice qa2 q.length qc2)).alloc (.cells #[.int .u64 (t : Nat)] 67)).drew) w.heap.size 67 (.int .u64 (s : Nat)) := (hS.other (by omega) _).alloc _
      have hQ1 : Boxed (((W.setCell ⟨bt, 0, none⟩ (.slice qa2 q.length qc2)).alloc (.cells #[.int .u64 (t : Nat)] 67)).drew) bt 23 (.slice qa2 q.length qc2) := (hQ.set _).alloc _
      have hq1 : Own1 (((W.setCell ⟨bt, 0, none⟩ (.slice qa2 q.length qc2)).alloc (.cells #[.int .u64 (t : Nat)] 67)).drew) w.heap.size 3 (.slice qa2 q.length qc2) (q.map iv) := (hq2.setBox hQ (by decide) _).alloc _
      have hT1 : SetBox (((W.setCell ⟨bt, 0, none⟩ (.slice qa2 q.length qc2)).alloc (.cells #[.int .u64 (t : Nat)] 67)).drew) W.heap.size t := by have := Boxed.new (W.setCell ⟨bt, 0, none⟩ (.slice qa2 q.length qc2)) 67 (.int .u64 (t : Nat)); simp only [World.size_setCell] at this; exact this
      have hB1 : Below w.heap.size w (((W.setCell ⟨bt, 0, none⟩ (.slice qa2 q.length qc2)).alloc (.cells #[.int .u64 (t : Nat)] 67)).drew) := ((hB.setCell (p := ⟨bt, 0, none⟩) (by simp; omega) _).alloc (by simp; omega) _).drew
      have hm1 := Hm.out.keeps k1
      have Hm1 := Lib.hid hm1; clear hm1 k1 hwt hcS hcQ hfQ hc0 hq hq2 hv2
      generalize (((W.setCell ⟨bt, 0, none⟩ (.slice qa2 q.length qc2)).alloc (.cells #[.int .u64 (t : Nat)] 67)).drew) = W1 at *
      gi_wp2
      refine wp_each (by omega) W.heap.size t htU hT1 rfl (fun pre W2 => ∃ v, Boxed W2 w.heap.size 67 (.int .u64 (pre.foldl sIns s : Nat)) ∧ Boxed W2 bt 23 v ∧ Own1 W2 w.heap.size 3 v ((q ++ pre).map iv) ∧ (∀ x ∈ pre, x < 64) ∧ pre.length ≤ 64 ∧ MarksOk w.heap.size Ds W2 ∧ Below w.heap.size w W2) (fun _ _ => False)
        ?hI (fun _ _ _ _ h => h) ⟨_, hS1, hQ1, by simpa using hq1, by simp, by simp, Hm1.out, hB1⟩ (fun x => { tmps := #[.int .i64 f, .slice (some ⟨b, boff, none⟩) next.length cap, .int .u64 within, undef, undef, undef, .int .u64 0, .pointer (some ⟨w.heap.size, 0, none⟩), .pointer (some ⟨bt, 0, none⟩), .int .i64 i, .int .i64 (x : Nat), .int .i64 f, .int .u64 (sIns 0 f : Nat), .int .i64 f, .slice (some ⟨w.heap.size + 1, 0, none⟩) 1 1, .slice (some ⟨g, off, none⟩) (q.length + 1) qc, .int .i64 (q.length + 1), .bool true, .slice (some ⟨g, off, none⟩) (q.length + 1) qc, .pointer (some ⟨g, off, none⟩), .int .i64 i, .slice (some ⟨g, off, none⟩) (q.length + 1) qc, .slice qa2 q.length qc2, .slice (some ⟨b, boff, none⟩) next.length cap, .int .i64 i, .pointer (some ⟨b, boff + i, none⟩), .int .u64 ni, .int .u64 within, .int .u64 (ni &&& within : Nat), .int .u64 s, .int .u64 t, .func (.func 85) #[] #[.pointer (some ⟨W.heap.size, 0, none⟩)], .int .i64 (x : Nat), u33, u34, u35, u36, u37, u38, u39, u40, undef], defers := [] }) ?assign ?body ?done (fun _ _ _ _ _ _ h => h.elim)
      case hI =>
        have hl := Hm1.out.lt
        exact fun _ _ _ h ⟨v, h1, h2, h3, h4, h5, h6, h7⟩ => ⟨v, boxed_sim h1 h, boxed_sim h2 h, h3.sim h, h4, h5, h6.sim hl h, h.below h7 hB1.size⟩
      case assign =>
        intro l x W2 K hK
        simp only [List.setIfInBounds_toArray, List.set_cons_zero, List.set_cons_succ]
        gi_wp2
        exact hK
      case body =>
        intro l pre x W2 hx hx64 hpl hl hr hsz hsb ⟨v, h1, h2, h3, h4, h5, h6, h7⟩
        have hfU : U64 (pre.foldl sIns s) := hsU.foldl_ins h4
        have hcS := h1.cell
        have hfS := h1.frozen
        have hcQ := h2.cell
        have hne : ¬ bt = w.heap.size := by omega
        have hlt2 := h2.lt
        have hQs := h2.other (show bt ≠ w.heap.size from hne) (.int .u64 (sIns (pre.foldl sIns s) x : Nat))
        have hSs := h1.set (.int .u64 (sIns (pre.foldl sIns s) x : Nat))
        have hqs := h3.setBox h1 (by decide) (.int .u64 (sIns (pre.foldl sIns s) x : Nat))
        have hcn := cell_new1 (W2.setCell ⟨w.heap.size, 0, none⟩ (.int .u64 (sIns (pre.foldl sIns s) x : Nat))) (iv x) 3
        rw [World.size_setCell] at hcn
        have H4 := Lib.hid h4; have H6 := Lib.hid h6
        clear h4 h6
        gi_wp2_with (first
          | (refine ⟨trivial, ?_⟩; gi_at_call 62; refine (CallsIn.inRound l (callsIn_wide.2 (with_any (pre.foldl sIns s) x _ hfU hx64))).mono ?_; rintro e w' ⟨rfl, rfl⟩)
          | (gi_at_builtin; refine wpListIn_append_q _ rfl _ _ 23 rfl w.heap.size 3 i0 (.int .i64 0) Try.underlying23 hi hz0 hz1 hz2 rfl v ((q ++ pre).map iv) rfl (hqs.alloc _) ⟨W2.heap.size, 0, none⟩ 1 (iv x) rfl hcn rfl (by simp; omega) (by simp; omega) ?_; intro v' w1 hown' hgrow hblk; obtain ⟨qa3, qc3, rfl⟩ := hown'.form (n := q.length + (pre.length + 1)) (by simp); obtain ⟨g1, g2, g3, g4, g5, g6⟩ := boxed_appendedQ hQs (by decide) hqs hown' hgrow; have hc1 := g1.cell; have hf1 := g1.frozen))
        have hsb2 := hsb.other (show W.heap.size ≠ w.heap.size by omega) (.int .u64 (sIns (pre.foldl sIns s) x : Nat))
        have kk := (KeepsOthers.setCell W2 ⟨w.heap.size, 0, none⟩ (.int .u64 (sIns (pre.foldl sIns s) x : Nat))).trans g4
        refine ⟨kk, (g5 W.heap.size hsb2.lt (boxed_notOwn hsb2 (by decide) hqs) (by omega)).trans hsb2, _, ?_, g2, by simpa using g3, ?_, by simp; omega, H6.out.keeps kk, (h7.setCell (p := ⟨w.heap.size, 0, none⟩) (Nat.le_refl _) _).trans (g6 (by omega) (by simp; omega))⟩
        · rw [List.foldl_append]
          exact (g5 w.heap.size (by simp; omega) (boxed_notOwn hSs (by decide) hqs) (by omega)).trans hSs
        · intro y hy
          rcases List.mem_append.1 hy with h | h
          · exact H4.out y h
          · simp at h; omega
      case done =>
        intro D W2 hD hDW hsz ⟨v, h1, h2, h3, h4, h5, h6, h7⟩
        have hcQ := h2.cell
        obtain ⟨qa4, qc4, rfl⟩ := h3.form (n := q.length + (pts t).length) (by simp)
        have hsb := h1.lt
        have hs1 := hB1.size
        have H4 := Lib.hid h4; have H6 := Lib.hid h6
        clear h4 h6
        gi_wp2
        obtain ⟨hinv2, hmu⟩ := Hinv.out.out.next hU hin (t := t) (by rw [← Ht.out, Hni.out])
        have hl := Hm1.out.lt
        refine ⟨((pts t).foldl sIns s, q ++ pts t), ⟨W2.heap.size, _, _, _, _, _, _, _, _, _, _, _, _, _, _, _, _, _, _, _, _, _, _, _, _, _, _, _, _, _, D :: Ds, rfl, hinv2, h1.alloc _, Boxed.new _ _ _, ?_, h3.alloc _, (H6.out.keeps (KeepsOthers.alloc _ _)).cons ?_ ?_ ?_, h7.alloc ?_ _⟩, hmu⟩
        · omega
        · omega
        · exact (Below.heap_alloc _ _ _ (Array.getElem?_eq_some_iff.1 hDW).1).trans hDW
        · exact fun D' hD' => Nat.lt_of_lt_of_le (hl D' hD') hD
        · omega

theorem reachF_any (f : Nat) (next : List Nat) (within : Nat) (a : Option Addr) (cap : Nat) (w : World) (hx : Rd w a (next.map sv)) (hf : f < next.length) (hn : next.length ≤ 64) (hU : ∀ s ∈ next, U64 s) (hw : U64 within)
    (hin : ∀ j, within.testBit j = true → j < next.length) :
    Calls Try.prog 70 #[.int .i64 f, .slice a next.length cap, .int .u64 within] w fun e w' => e = .returned (.int .u64 (reachF next within f : Nat)) ∧ Ext w w' :=
  (reach_any f next within a cap w hx hf hn hU hw hin).mono fun e w' ⟨r, h1, h2, h3, h4⟩ => by
    have : r = reachF next within f := set_ext fun j => by
      have h5 := h3 j
      have h6 := (reachF_U64 (within := within) hU (show f < 64 by omega)).2 j
      cases ha : r.testBit j <;> cases hb : (reachF next within f).testBit j <;> simp_all
    rw [← this]
    exact ⟨h1, h4⟩
end Go.Proofs.Ythalhapbllbefaa
