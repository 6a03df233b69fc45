/- Each point of a set in turn: the iterator's contract, and the law of a range over it. -/
import Derived.Test.YthalhapbllbefaaSet
namespace Go.Proofs.Ythalhapbllbefaa
open Go.RowKit Go.Shelf
attribute [local go_sem] Oper.semAt_some

/-- A point of the set. -/
abbrev Pt (s : Nat) := { x : Nat // s.testBit x = true ∧ x < 64 }

/-- The box of the set lies on. -/
def KeepB (bx : Nat) (W W' : World) : Prop := W'.heap[bx]? = W.heap[bx]?

theorem each_any (s : Nat) (w : World) :
    Calls Try.prog 61 #[.int .u64 s] w fun e w' => e = .returned (.func (.func 85) #[] #[.pointer (some ⟨w.heap.size, 0, none⟩)]) ∧ w.alloc (.cells #[.int .u64 s] 67) = w' := by
  go_enter Try.func61, Try.ntmps61
  go_wp2
  go_ret
  exact ⟨rfl, rfl⟩

set_option maxRecDepth 100000 in
set_option maxHeartbeats 1000000 in
theorem each1_in (n l bx s : Nat) (hn : 1 ≤ n) (hs : U64 s) (J Jx : List (Pt s) → World → Prop)
    (hY : ∀ pre x W, J pre W → pre.length < 64 → YieldAt Fence.wide (n - 1) Try.prog l #[.int .i64 (x.1 : Nat)] W fun e W' =>
      (e = .returned (.bool true) ∧ J (pre ++ [x]) W' ∧ KeepB bx W W') ∨ (e = .returned (.bool false) ∧ Jx (pre ++ [x]) W'))
    (W : World) (hb : Boxed W bx 67 (.int .u64 s)) (h0 : J [] W) :
    CallsIn Fence.wide n Try.prog 85 #[.func (.yield l) #[] #[], .pointer (some ⟨bx, 0, none⟩)] W fun e W' => (∃ v, e = .returned v) ∧
      ((∃ ys : List (Pt s), ys.map (·.1) = pts s ∧ J ys W') ∨ (∃ pre : List (Pt s), True ∧ Jx pre W')) := by
  refine callsIn_of_wp Try.func85 rfl trivial ?_ rfl
  simp only [Try.ntmps85, List.size_toArray, List.length_cons, List.length_nil, Nat.reduceAdd, Nat.reduceSub, Array.replicate_succ, Array.replicate_zero, List.push_toArray, List.append_toArray, List.nil_append, List.cons_append]
  gi_wp2
  gi_loopw [3] (fun i wr => ∃ (k : Nat) (pre : List (Pt s)), i = .int .i64 k ∧ k ≤ 64 ∧ pre.map (·.1) = ptsTo s k ∧ Boxed wr bx 67 (.int .u64 s) ∧ J pre wr)
    (fun i wr => 64 - (intOf i).toNat)
  case atStart =>
    exact ⟨0, [], rfl, by omega, by simp [ptsTo], hb, h0⟩
  case round =>
    obtain ⟨k, pre, rfl, hk, hpre, hbw, hJ⟩ := hrel
    have hc := hbw.cell
    by_cases hz : s / 2 ^ k = 0
    · have hzb : (((s : Int) / 2 ^ k) != 0) = false := by rw [div_pow, hz]; rfl
      have hp := ptsTo_end hk hz
      clear hY hz
      gi_wp2
      go_end0
      exact ⟨⟨_, rfl⟩, .inl ⟨pre, by rw [hpre, hp], hJ⟩⟩
    · have hk2 : k < 64 := by
        rcases Nat.lt_or_ge k 64 with h | h
        · exact h
        · obtain rfl : k = 64 := by omega
          exact absurd (Nat.div_eq_of_lt hs.lt) hz
      have hzb : (((s : Int) / 2 ^ k) != 0) = true := bne_iff_ne.2 (by rw [div_pow]; exact fun h => hz (by exact_mod_cast h))
      have hlen : pre.length < 64 := by
        have h1 := congrArg List.length hpre
        have h2 := List.length_filter_le s.testBit (List.range k)
        simp only [List.length_map] at h1
        simp only [List.length_range] at h2
        unfold ptsTo at h1
        omega
      cases hbit : s.testBit k with
      | false =>
        have hno := ptsTo_succ_no hbit
        have Hb := Lib.hid hbit; clear hbit hz
        clear hY
        gi_wp2_with (refine ⟨trivial, ?_⟩; gi_at_call 63; refine (callsIn_wide.2 (has_any s k _ hs hk2)).mono ?_; rintro e w' ⟨rfl, rfl⟩; rw [Hb.out])
        refine ⟨(fun _ h => by cases h), ?_⟩
        gi_wp2
        go_roundw
        case rel => exact ⟨k + 1, pre, by go_num, by omega, by rw [hno, hpre], hbw, hJ⟩
        case measure => simp [intOf]; omega
      | true =>
        have hyes := ptsTo_succ_yes hbit
        obtain ⟨x, hx⟩ : ∃ x : Pt s, x.1 = k := ⟨⟨k, hbit, hk2⟩, rfl⟩
        obtain ⟨fn, tmps, assign, body, hy, hR⟩ := hY pre x wr hJ hlen
        rw [hx] at hy
        have Hb := Lib.hid hbit; have Hx := Lib.hid hx; have Hy := Lib.hid hyes
        clear hbit hx hyes hz hY
        gi_wp2_with (refine ⟨trivial, ?_⟩; gi_at_call 63; refine (callsIn_wide.2 (has_any s k _ hs hk2)).mono ?_; rintro e w' ⟨rfl, rfl⟩; rw [Hb.out])
        refine hR.mono ?_
        rintro e W3 (⟨rfl, hJ3, hk3⟩ | ⟨rfl, hJx3⟩)
        · gi_wp2
          go_roundw
          case rel => exact ⟨k + 1, pre ++ [x], by go_num, by omega, by rw [Hy.out]; simp [hpre, Hx.out], hk3.trans hbw, hJ3⟩
          case measure => simp [intOf]; omega
        · gi_wp2
          refine bodyPost_ret (results_none rfl _ _ _) rfl ?_
          exact ⟨⟨_, rfl⟩, .inr ⟨_, trivial, hJx3⟩⟩

abbrev SetBox (W : World) (bx s : Nat) : Prop := Boxed W bx 67 (.int .u64 s)

theorem each1_stops (n bx s : Nat) (hn : 1 ≤ n) (hs : U64 s) (w : World) (hb : SetBox w bx s) :
    SeqStopsK Fence.wide n Try.prog 85 #[.pointer (some ⟨bx, 0, none⟩)] (fun x : Pt s => #[Value.int .i64 (x.1 : Nat)]) (KeepB bx) (fun ys => ys.map (·.1) = pts s) (fun _ => True) 64 w := fun l J Jx W hW _ _ hY h0 =>
  each1_in n l bx s hn hs J Jx hY W (boxed_ext hb hW) h0

/-- How a round of a range over a set's points may be left. -/
def eachPost (bx s : Nat) (I : List Nat → World → Prop) (J : Code → World → Prop) (xs : List Nat) (W : World) : Exit → Act → World → Prop
  | .normal, _, W' => KeepsOthers W W' ∧ SetBox W' bx s ∧ I xs W'
  | .ret, _, W' => KeepsOthers W W' ∧ J .ret W'
  | .exit id, _, W' => KeepsOthers W W' ∧ J (.exit id) W'
  | .goto t, _, W' => KeepsOthers W W' ∧ J (.goto t) W'
  | .panic _, _, _ => False
  | .outgrown, _, _ => False

def mark (D : Nat) : Deferred := { target := .collected D, args := #[] }

theorem zip_one (t : Array Value) (p : Tmp) (v : Value) : (#[p].zip #[v]).foldl (fun t (p, v) => t.setIfInBounds p v) t = t.setIfInBounds p v := by simp

theorem ownFrom_of_sim {β : Type} {B : Nat} {I : β → World → Prop} (hI : ∀ x W W', Sim B W W' → I x W → I x W') : OwnFrom B (fun x W => B ≤ W.heap.size ∧ I x W) :=
  fun x W W' _ hs hg hr => ⟨Nat.le_trans hs.1 hg.size, hI x W W' (Sim.of_grownBy hg hs.1 hr) hs.2⟩

/-- A RANGE OVER A SET's POINTS, outermost. -/
theorem wp_each {n : Nat} (hn : 4 ≤ n) {a : Act} {w : World} {g : Operand} {p : Tmp} {assign body : Code} {Q : Exit → Act → World → Prop}
    (bx s : Nat) (hs : U64 s) (hbx : SetBox w bx s) (hg : a.eval g = .func (.func 85) #[] #[.pointer (some ⟨bx, 0, none⟩)])
    (I : List Nat → World → Prop) (J : Code → World → Prop)
    (hI : ∀ pre W W', Sim w.heap.size W W' → I pre W → I pre W') (hJ : ∀ c W W', Sim w.heap.size W W' → J c W → J c W')
    (h0 : I [] w) (a₁ : Nat → Act)
    (hassign : ∀ (l x : Nat) (W : World) (K : Act → World → Prop), K (a₁ x) W →
      assign.wpIn (Fence.wide.inRound l) (n - 1 - 1) Try.prog (Exit.then K (fun _ _ _ => False)) { tmps := a.tmps.setIfInBounds p (.int .i64 (x : Nat)), defers := [] } W)
    (hbody : ∀ (l : Nat) (pre : List Nat) (x : Nat) (W : World), s.testBit x = true → x < 64 → pre.length < 64 → w.heap.size ≤ l → (∃ r, W.heap[l]? = some (.loop r)) → w.heap.size ≤ W.heap.size → SetBox W bx s → I pre W →
      body.wpIn (Fence.wide.inRound l) (n - 1 - 1) Try.prog (eachPost bx s I J (pre ++ [x]) W) (a₁ x) W)
    (hdone : ∀ (D : Nat) (W : World), w.heap.size ≤ D → W.heap[D]? = some (.deferred (some [])) → w.heap.size ≤ W.heap.size → I (pts s) W → Q .normal { a with defers := mark D :: a.defers } W)
    (hstop : ∀ (D : Nat) (c : Code) (W : World), w.heap.size ≤ D → W.heap[D]? = some (.deferred (some [])) → w.heap.size ≤ W.heap.size → J c W → c.wpIn Fence.wide n Try.prog Q { a with defers := mark D :: a.defers } W) :
    (Code.rangeFunc g #[p] assign body).wpIn Fence.wide n Try.prog Q a w := by
  have hlt := hbx.lt
  refine wpIn_rangeFunc_ownH (w0 := w) rfl (by omega) hg trivial (enters_of Try.func85 (by kernel_rfl) rfl) (each1_stops (n - 1) bx s (by omega) hs w hbx) (fun h k => k.trans h)
    (fun W l o o' hl _ _ _ => World.putObj_heap_other (by omega)) (Below.refl _ _) (fun _ => rfl)
    (fun pre W => w.heap.size ≤ W.heap.size ∧ SetBox W bx s ∧ I (pre.map (fun x : Pt s => x.1)) W) (fun c _ W => w.heap.size ≤ W.heap.size ∧ J c W)
    (ownFrom_of_sim (β := List (Pt s)) (fun pre W W' h hi => ⟨boxed_sim hi.1 h, hI _ _ _ h hi.2⟩)) (fun c => ownFrom_of_sim (fun _ W W' h hi => hJ c _ _ h hi)) ⟨Nat.le_refl _, hbx, h0⟩
    (fun x a' _ => a' = a₁ x.1) (fun _ _ _ _ _ _ hs _ _ => hs) ?assign ?body ?done ?stop
  case assign =>
    intro l pre x W K hi hK
    rw [zip_one]
    exact hassign l x.1 W K (hK _ _ (KeepsFrom.refl _ _) rfl hi rfl)
  case body =>
    intro l pre x a' W hl hr hi ha hlen
    subst ha
    refine wpIn_mono (hbody l (pre.map (·.1)) x.1 W x.2.1 x.2.2 (by simpa using hlen) hl hr hi.1 hi.2.1 hi.2.2) ?_
    intro e a2 W2 h
    have hm : (pre ++ [x]).map (·.1) = pre.map (·.1) ++ [x.1] := by simp
    cases e with
    | normal =>
      obtain ⟨h1, h2, h3⟩ := h
      exact ⟨h1.from _, (show W2.heap[bx]? = _ from h2).trans (show W.heap[bx]? = _ from hi.2.1).symm, Nat.le_trans hi.1 h1.size, h2, by rw [hm]; exact h3⟩
    | ret => exact ⟨h.1.from _, Nat.le_trans hi.1 h.1.size, h.2⟩
    | exit id => exact ⟨h.1.from _, Nat.le_trans hi.1 h.1.size, h.2⟩
    | goto t => exact ⟨h.1.from _, Nat.le_trans hi.1 h.1.size, h.2⟩
    | panic c => exact h
    | outgrown => exact h
  case done =>
    intro D xs W hD hS hi hK
    exact hdone D W hD hK hi.1 (by rw [← hS]; exact hi.2.2)
  case stop =>
    intro D c pre W hD _ hi hK
    exact hstop D c W hD hK hi.1 hi.2

/-- A RANGE OVER A SET's POINTS, in a round of another loop. -/
theorem wp_each_in {n l₀ : Nat} {r₀ : Loop} (hn : 4 ≤ n) {a : Act} {w : World} {g : Operand} {p : Tmp} {assign body : Code} {Q : Exit → Act → World → Prop} (hl₀ : w.heap[l₀]? = some (.loop r₀))
    (bx s : Nat) (hs : U64 s) (hbx : SetBox w bx s) (hg : a.eval g = .func (.func 85) #[] #[.pointer (some ⟨bx, 0, none⟩)])
    (I : List Nat → World → Prop) (J : Code → World → Prop)
    (hI : ∀ pre W W', Sim w.heap.size W W' → I pre W → I pre W') (hJ : ∀ c W W', Sim w.heap.size W W' → J c W → J c W')
    (h0 : I [] w) (a₁ : Nat → Act)
    (hassign : ∀ (l x : Nat) (W : World) (K : Act → World → Prop), K (a₁ x) W →
      assign.wpIn (Fence.wide.inRound l) (n - 1 - 1) Try.prog (Exit.then K (fun _ _ _ => False)) { tmps := a.tmps.setIfInBounds p (.int .i64 (x : Nat)), defers := [] } W)
    (hbody : ∀ (l : Nat) (pre : List Nat) (x : Nat) (W : World), s.testBit x = true → x < 64 → pre.length < 64 → w.heap.size ≤ l → (∃ r, W.heap[l]? = some (.loop r)) → w.heap.size ≤ W.heap.size → SetBox W bx s → I pre W →
      body.wpIn (Fence.wide.inRound l) (n - 1 - 1) Try.prog (eachPost bx s I J (pre ++ [x]) W) (a₁ x) W)
    (hdone : ∀ (W : World), w.heap.size ≤ W.heap.size → I (pts s) W → Q .normal a W)
    (hstop : ∀ (c : Code) (W : World), w.heap.size ≤ W.heap.size → J c W → c.wpIn (Fence.wide.inRound l₀) n Try.prog Q a W) :
    (Code.rangeFunc g #[p] assign body).wpIn (Fence.wide.inRound l₀) n Try.prog Q a w := by
  have hlt := hbx.lt
  refine wpIn_rangeFunc_ownN (w0 := w) rfl hl₀ (by omega) hg trivial (enters_of Try.func85 (by kernel_rfl) rfl) ((each1_stops (n - 1) bx s (by omega) hs w hbx).inRound l₀) (fun h k => k.trans h)
    (fun W l o o' hl _ _ _ => World.putObj_heap_other (by omega)) (Below.refl _ _) (fun _ => rfl)
    (fun pre W => w.heap.size ≤ W.heap.size ∧ SetBox W bx s ∧ I (pre.map (fun x : Pt s => x.1)) W) (fun c _ W => w.heap.size ≤ W.heap.size ∧ J c W)
    (ownFrom_of_sim (β := List (Pt s)) (fun pre W W' h hi => ⟨boxed_sim hi.1 h, hI _ _ _ h hi.2⟩)) (fun c => ownFrom_of_sim (fun _ W W' h hi => hJ c _ _ h hi)) ⟨Nat.le_refl _, hbx, h0⟩
    (fun x a' _ => a' = a₁ x.1) (fun _ _ _ _ _ _ hs _ _ => hs) ?assign ?body ?done ?stop
  case assign =>
    intro l pre x W K hi hK
    rw [zip_one]
    exact hassign l x.1 W K (hK _ _ (KeepsFrom.refl _ _) rfl hi rfl)
  case body =>
    intro l pre x a' W hl hr hi ha hlen
    subst ha
    refine wpIn_mono (hbody l (pre.map (·.1)) x.1 W x.2.1 x.2.2 (by simpa using hlen) hl hr hi.1 hi.2.1 hi.2.2) ?_
    intro e a2 W2 h
    have hm : (pre ++ [x]).map (·.1) = pre.map (·.1) ++ [x.1] := by simp
    cases e with
    | normal =>
      obtain ⟨h1, h2, h3⟩ := h
      exact ⟨h1.from _, (show W2.heap[bx]? = _ from h2).trans (show W.heap[bx]? = _ from hi.2.1).symm, Nat.le_trans hi.1 h1.size, h2, by rw [hm]; exact h3⟩
    | ret => exact ⟨h.1.from _, Nat.le_trans hi.1 h.1.size, h.2⟩
    | exit id => exact ⟨h.1.from _, Nat.le_trans hi.1 h.1.size, h.2⟩
    | goto t => exact ⟨h.1.from _, Nat.le_trans hi.1 h.1.size, h.2⟩
    | panic c => exact h
    | outgrown => exact h
  case done =>
    intro xs W hS hi
    exact hdone W hi.1 (by rw [← hS]; exact hi.2.2)
  case stop =>
    intro c pre W _ hi
    exact hstop c W hi.1 hi.2

/-- Leaving with marks: each block of a mark is shut; what is asked abides that. -/
theorem leavesInM_marks {P : Program} {n : Nat} {fn : Func} {tmps : Array Value} {R : Ending → World → Prop} {B : Nat} {v : Value} (hres : ∀ w, (results fn tmps).run P w = .ok v w)
    (hR : ∀ W W', Sim B W W' → R (.returned v) W → R (.returned v) W') : ∀ (Ds : List Nat) (W : World), B ≤ W.heap.size → (∀ D ∈ Ds, B ≤ D ∧ W.heap[D]? = some (.deferred (some []))) → Ds.Nodup → R (.returned v) W →
    LeavesInM Fence.wide n P fn tmps R (Ds.map mark) .returning W := by
  intro Ds
  induction Ds with
  | nil => exact fun W _ _ _ hr => ⟨v, hres W, hr⟩
  | cons D Ds ih =>
    intro W hB hD hn hr
    obtain ⟨hDB, hDW⟩ := hD D (by simp)
    refine ⟨by simp, .inl ⟨D, _, rfl, run_takeDeferred hDW, ?_⟩⟩
    rw [List.nodup_cons] at hn
    have hs : Sim B W (W.putObj D (.deferred none)) := Sim.of_grownBy (grownBy_putObj' _ _ _) hB (fun r e => by cases e; exact ⟨hDB, _, hDW, rfl⟩)
    refine ih _ (Nat.le_trans hB hs.size) (fun D' hD' => ?_) hn.2 (hR _ _ hs hr)
    obtain ⟨h1, h2⟩ := hD D' (by simp [hD'])
    exact ⟨h1, (World.putObj_heap_other (fun e => hn.1 (by subst e; exact hD'))).trans h2⟩
end Go.Proofs.Ythalhapbllbefaa
