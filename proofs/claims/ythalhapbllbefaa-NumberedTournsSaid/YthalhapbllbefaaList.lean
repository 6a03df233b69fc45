/- Len and List of a set. -/
import Derived.Test.YthalhapbllbefaaEach
namespace Go.Proofs.Ythalhapbllbefaa
open Go.RowKit Go.Shelf
attribute [local go_sem] Oper.semAt_some

def iv (i : Nat) : Value := .int .i64 (i : Int)
theorem infoInt : (Try.prog.info? 3).map (fun i => (i.zero, i.size, i.bytes)) = some (some (.int .i64 0), 1, 8) := by kernel_rfl

set_option maxRecDepth 100000 in
set_option maxHeartbeats 1000000 in
theorem len_any (s : Nat) (w : World) (hs : U64 s) :
    Calls Try.prog 67 #[.int .u64 s] w fun e w' => e = .returned (.int .i64 ((pts s).length : Nat)) ∧ Ext w w' := by
  refine (callsIn_wide (n := 5)).1 (callsIn_of_wp_marks Try.func67 rfl trivial ?_ rfl)
  simp only [Try.ntmps67, List.size_toArray, List.length_cons, List.length_nil, Nat.reduceAdd, Nat.reduceSub, Array.replicate_succ, Array.replicate_zero, List.push_toArray, List.append_toArray, List.nil_append, List.cons_append]
  gi_wp2_with (refine ⟨trivial, ?_⟩; gi_at_call 61; refine (callsIn_wide.2 (each_any s _)).mono ?_; rintro e w' ⟨rfl, rfl⟩)
  have bN := Boxed.new w 3 (.int .i64 0)
  have bS := Boxed.new (w.alloc (.cells #[.int .i64 0] 3)) 67 (.int .u64 s)
  rw [World.size_alloc] at bS
  have hB0 : Below w.heap.size w ((w.alloc (.cells #[.int .i64 0] 3)).alloc (.cells #[.int .u64 s] 67)) := ((Below.refl _ w).alloc (Nat.le_refl _) _).alloc (by simp) _
  refine wp_each (by omega) _ s hs bS rfl (fun pre W => Boxed W w.heap.size 3 (.int .i64 (pre.length : Nat)) ∧ pre.length ≤ 64 ∧ Below w.heap.size w W) (fun _ _ => False) ?hI (fun _ _ _ _ h => h) ?h0 (fun x => { tmps := #[.int .u64 s, undef, .int .i64 0, .pointer (some ⟨w.heap.size, 0, none⟩), .int .u64 s, .func (.func 85) #[] #[.pointer (some ⟨w.heap.size + 1, 0, none⟩)], .int .i64 (x : Nat), undef, undef, undef], defers := [] }) ?assign ?body ?done (fun _ _ _ _ _ _ h => h.elim)
  case hI => exact fun _ _ _ h ⟨h1, h2, h3⟩ => ⟨boxed_sim h1 h, h2, h.below h3 (by simp; omega)⟩
  case h0 => exact ⟨bN.alloc _, by simp, hB0⟩
  case assign =>
    intro l x W K hK
    simp only [List.setIfInBounds_toArray, List.set_cons_zero, List.set_cons_succ]
    gi_wp2
    exact hK
  case body =>
    intro l pre x W hx hx64 hpl hl hr hsz hsb ⟨h1, h2, h3⟩
    have hc := h1.cell
    have hf := h1.frozen
    gi_wp2
    exact ⟨KeepsOthers.setCell _ _ _, hsb.other (by omega) _, by rw [List.length_append]; exact h1.set _, by simp; omega, h3.setCell (Nat.le_refl _) _⟩
  case done =>
    intro D W hD hDW hsz ⟨h1, h2, h3⟩
    have hc := h1.cell
    gi_wp2
    exact leavesInM_marks (B := w.heap.size) (Ds := [D]) (results_tmp rfl _ _) (fun _ _ h ⟨h1, h2⟩ => ⟨h1, h.below h2 (Nat.le_refl _)⟩) W (by simp at hsz; omega) (by simp at hD ⊢; exact ⟨by omega, hDW⟩) (by simp) ⟨rfl, h3⟩

set_option maxRecDepth 100000 in
set_option maxHeartbeats 1000000 in
theorem appendSeq_each (bx s : Nat) (w : World) (hs : U64 s) (hbx : SetBox w bx s) :
    Calls Try.prog 92 #[.slice none 0 0, .func (.func 85) #[] #[.pointer (some ⟨bx, 0, none⟩)]] w
      fun e w' => ∃ v, e = .returned v ∧ w'.ownsRow w.heap.size 3 1 v (pts s).length ((pts s).map iv) ∧ Ext w w' := by
  obtain ⟨i0, hi, hz0, hz1, hz2⟩ := info_parts infoInt
  refine (callsIn_wide (n := 5)).1 (callsIn_of_wp_marks Try.func92 rfl trivial ?_ rfl)
  simp only [Try.ntmps92, List.size_toArray, List.length_cons, List.length_nil, Nat.reduceAdd, Nat.reduceSub, Array.replicate_succ, Array.replicate_zero, List.push_toArray, List.append_toArray, List.nil_append, List.cons_append]
  gi_wp2
  have bN := Boxed.new w 23 (.slice none 0 0)
  have hlt := hbx.lt
  have hB0 : Below w.heap.size w (w.alloc (.cells #[.slice none 0 0] 23)) := (Below.refl _ w).alloc (Nat.le_refl _) _
  refine wp_each (by omega) bx s hs (hbx.alloc _) rfl (fun pre W => (∃ v, Boxed W w.heap.size 23 v ∧ W.ownsRow w.heap.size 3 1 v pre.length (pre.map iv)) ∧ pre.length ≤ 64 ∧ Below w.heap.size w W) (fun _ _ => False) ?hI (fun _ _ _ _ h => h) ?h0
    (fun x => { tmps := #[.slice none 0 0, .func (.func 85) #[] #[.pointer (some ⟨bx, 0, none⟩)], .pointer (some ⟨w.heap.size, 0, none⟩), undef, .slice none 0 0, .int .i64 (x : Nat), .func (.func 85) #[] #[.pointer (some ⟨bx, 0, none⟩)], .int .i64 (x : Nat), undef, undef, undef, undef, undef], defers := [] })
    ?assign ?body ?done (fun _ _ _ _ _ _ h => h.elim)
  case hI => exact fun _ _ _ h ⟨⟨v, h1, h2⟩, h3, h4⟩ => ⟨⟨v, boxed_sim h1 h, row_sim h2 h⟩, h3, h.below h4 (by simp)⟩
  case h0 => exact ⟨⟨_, bN, World.ownsRow_nil _ _ _ _⟩, by simp, hB0⟩
  case assign =>
    intro l x W K hK
    simp only [List.setIfInBounds_toArray, List.set_cons_zero, List.set_cons_succ]
    gi_wp2
    exact hK
  case body =>
    intro l pre x W hx hx64 hpl hl hr hsz hsb ⟨⟨v, hv, hrow⟩, h2, hB⟩
    have hc := hv.cell
    gi_wp2_with (gi_at_builtin; refine wpListIn_append_own _ rfl _ _ 23 rfl w.heap.size 3 i0 (.int .i64 0) 1 8 Try.underlying23 hi hz0 hz1 hz2 rfl (by decide) _ _ _ rfl (hrow.alloc _) ⟨W.heap.size, 0, none⟩ 1 1 [iv x] rfl rfl (cell_one_new _ _ _) (by simp [Value.oneCell', iv]) (by unfold maxLen; omega) (by omega) (by have := hB.size; simp; omega) ?_; intro v' w1 hown' hgrow _; obtain ⟨g', cap', rfl⟩ := ownsRow_succ hown'; obtain ⟨hv1, hv2, hr2, hk2, hb2⟩ := hv.appended (by decide) hrow hB.size (Nat.le_refl _) hown' hgrow; have hc1 := hv1.cell; have hf1 := hv1.frozen)
    exact ⟨hk2, (hb2.block bx hlt).trans hsb, ⟨_, hv2, by simpa using hr2⟩, by simp; omega, hB.trans hb2⟩
  case done =>
    intro D W hD hDW hsz ⟨⟨v, hv, hrow⟩, h2, hB⟩
    have hc := hv.cell
    gi_wp2
    exact leavesInM_marks (B := w.heap.size) (Ds := [D]) (results_tmp rfl _ _) (fun _ _ h ⟨v, h1, h2, h3⟩ => ⟨v, h1, row_sim h2 h, h.below h3 (Nat.le_refl _)⟩) W (by simp at hsz; omega) (by simp at hD ⊢; exact ⟨by omega, hDW⟩) (by simp) ⟨v, rfl, hrow, hB⟩

theorem collect_each (bx s : Nat) (w : World) (hs : U64 s) (hbx : SetBox w bx s) :
    Calls Try.prog 83 #[.func (.func 85) #[] #[.pointer (some ⟨bx, 0, none⟩)]] w
      fun e w' => ∃ v, e = .returned v ∧ w'.ownsRow w.heap.size 3 1 v (pts s).length ((pts s).map iv) ∧ Ext w w' := by
  go_enter Try.func83, Try.ntmps83
  go_wp2_with (go_at_call 92; refine (appendSeq_each bx s _ hs hbx).mono ?_; rintro e w' ⟨v, rfl, h1, h2⟩)
  go_ret
  exact ⟨v, rfl, h1, h2⟩

/-- The points of a set as a new slice. -/
theorem list_any (s : Nat) (w : World) (hs : U64 s) :
    Calls Try.prog 52 #[.int .u64 s] w
      fun e w' => ∃ v, e = .returned v ∧ w'.ownsRow w.heap.size 3 1 v (pts s).length ((pts s).map iv) ∧ Ext w w' := by
  have bS : SetBox (w.alloc (.cells #[.int .u64 s] 67)) w.heap.size s := Boxed.new w 67 (.int .u64 s)
  go_enter Try.func52, Try.ntmps52
  go_wp2_with (first | (go_at_call 61; refine (each_any s _).mono ?_; rintro e w' ⟨rfl, rfl⟩) | (go_at_call 83; refine (collect_each w.heap.size s _ hs bS).mono ?_; rintro e w' ⟨v, rfl, h1, h2⟩))
  go_ret
  exact ⟨v, rfl, row_base h1 (by simp), ((Below.refl _ w).alloc (Nat.le_refl _) _).trans (h2.mono (by simp))⟩
end Go.Proofs.Ythalhapbllbefaa
