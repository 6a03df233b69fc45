/- What a range over a set's points needs, apart from any program: worlds whose cells agree, one step that keeps what is no cells, boxes and rows that abide. -/
import Derived.RangeFuncNested
import Derived.RangeFuncBound
import Derived.RangeFuncCalls
import Derived.RangeFuncLeaves
import Derived.Shelf.Abstract
import Derived.Shelf.RegionOpen
import Derived.WalkKit
import Derived.WalkSpells
import Derived.WalkLawsBesides
import Derived.OwnWalkIn
import Derived.TacticsInMore
import Derived.LoopNIn
import Derived.LoopIn
import Derived.Maps.AppendAt
import Derived.Lib.Hide
import Derived.BigQuiet
import Derived.Deep.LoopGhost
import Derived.StillTailTactics
import Derived.Deep.OwnRows
import Derived.Deep.QuietTactic
namespace Go.Proofs.Ythalhapbllbefaa
open Go.RowKit

/-- The cells of W lie on in W', and whatever lay below block B. -/
structure Sim (B : Nat) (W W' : World) : Prop where
  os : W'.os = W.os
  tape : W'.tape = W.tape
  output : W'.output = W.output
  size : W.heap.size ≤ W'.heap.size
  cells : ∀ (k : Nat) (o : Obj), W.heap[k]? = some o → o.isCells = true → W'.heap[k]? = some o
  low : ∀ k, k < B → W'.heap[k]? = W.heap[k]?

theorem Sim.refl (B : Nat) (W : World) : Sim B W W := ⟨rfl, rfl, rfl, Nat.le_refl _, fun _ _ h _ => h, fun _ _ => rfl⟩
theorem Sim.trans {B : Nat} {X Y Z : World} (h : Sim B X Y) (k : Sim B Y Z) : Sim B X Z :=
  ⟨k.os.trans h.os, k.tape.trans h.tape, k.output.trans h.output, Nat.le_trans h.size k.size, fun i o hi ho => k.cells i o (h.cells i o hi ho) ho, fun i hi => (k.low i hi).trans (h.low i hi)⟩
theorem Sim.mono {B B' : Nat} {W W' : World} (h : Sim B W W') (hB : B' ≤ B) : Sim B' W W' := ⟨h.os, h.tape, h.output, h.size, h.cells, fun k hk => h.low k (Nat.lt_of_lt_of_le hk hB)⟩
theorem Sim.below {B n : Nat} {X W W' : World} (h : Sim B W W') (hb : Below n X W) (hn : n ≤ B) : Below n X W' :=
  hb.trans ⟨h.os, h.tape, h.output, h.size, fun k hk => h.low k (by omega)⟩
theorem Sim.cell {B : Nat} {W W' : World} (h : Sim B W W') {p : Addr} {v : Value} (hc : W.cell? p = some v) : W'.cell? p = some v := by
  obtain ⟨o, ho, hco⟩ := cells_of_cell hc
  exact (World.cell?_of_block ((h.cells _ _ ho hco).trans ho.symm)).trans hc
theorem Sim.of_grownBy {B : Nat} {W W' : World} {row : Option Nat} (hg : W.grownBy W' row) (hB : B ≤ W.heap.size) (hr : ∀ r, row = some r → B ≤ r ∧ ∃ o : Obj, W.heap[r]? = some o ∧ o.isCells = false) : Sim B W W' := by
  have hk : ∀ (k : Nat) (o : Obj), W.heap[k]? = some o → o.isCells = true → W'.heap[k]? = some o := fun k o hk ho => by
    refine (hg.block k (Array.getElem?_eq_some_iff.1 hk).1 (fun e => ?_)).trans hk
    obtain ⟨o', h1, h2⟩ := (hr k e.symm).2
    rw [hk] at h1; cases h1; rw [ho] at h2; cases h2
  exact ⟨hg.os, hg.tape, hg.output, hg.size, hk, fun k hk => hg.block k (by omega) (fun e => by have := (hr k e.symm).1; omega)⟩

theorem boxed_sim {B b : Nat} {W W' : World} {t : TypeId} {v : Value} (h : Boxed W b t v) (s : Sim B W W') : Boxed W' b t v := s.cells _ _ h rfl
theorem row_sim {B base size n : Nat} {W W' : World} {e : TypeId} {v : Value} {xs : List Value} (h : W.ownsRow base e size v n xs) (s : Sim B W W') : W'.ownsRow base e size v n xs := by
  refine ⟨h.1, ?_⟩
  rcases h.2 with hn | ⟨g, cap, cur, hv, hb, hg, r⟩
  · exact .inl hn
  · exact .inr ⟨g, cap, cur, hv, hb, s.cells _ _ hg rfl, r⟩

/-- A call that turns nothing that lay. -/
abbrev Ext (W W' : World) : Prop := Below W.heap.size W W'
theorem ext_trans {a b c : World} (h : Ext a b) (k : Ext b c) : Ext a c := h.trans (k.mono h.size)
theorem below_ext {B : Nat} {a b c : World} (h : Below B a b) (hB : B ≤ b.heap.size) (k : Ext b c) : Below B a c := h.trans (k.mono hB)
theorem boxed_ext {b : Nat} {W W' : World} {t : TypeId} {v : Value} (h : Boxed W b t v) (s : Ext W W') : Boxed W' b t v := (s.block b h.lt).trans h
theorem row_ext {base size n : Nat} {W W' : World} {e : TypeId} {v : Value} {xs : List Value} (h : W.ownsRow base e size v n xs) (s : Ext W W') : W'.ownsRow base e size v n xs := by
  refine ⟨h.1, ?_⟩
  rcases h.2 with hn | ⟨g, cap, cur, hv, hb, hg, r⟩
  · exact .inl hn
  · exact .inr ⟨g, cap, cur, hv, hb, (s.block g (Array.getElem?_eq_some_iff.1 hg).1).trans hg, r⟩
theorem keeps_ext {W W' : World} (s : Ext W W') : KeepsOthers W W' := ⟨s.size, fun k _ hk _ => (s.block k (Array.getElem?_eq_some_iff.1 hk).1).trans hk⟩
theorem cell_ext {W W' : World} (s : Ext W W') {p : Addr} {v : Value} (h : W.cell? p = some v) : W'.cell? p = some v := by
  obtain ⟨o, ho, _⟩ := cells_of_cell h
  exact (World.cell?_of_block (s.block _ (Array.getElem?_eq_some_iff.1 ho).1)).trans h

theorem cell_below {B : Nat} {W W' : World} (h : Below B W W') {b o : Nat} (hb : b < B) : W'.cell? ⟨b, o, none⟩ = W.cell? ⟨b, o, none⟩ := h.cell (p := ⟨b, o, none⟩) hb

/-- The elements' cells of a slice that is only read: the address, one value a cell. -/
def Rd (W : World) (a : Option Addr) (cs : List Value) : Prop :=
  ∀ i v, cs[i]? = some v → ∃ b off, a = some ⟨b, off, none⟩ ∧ W.cell? ⟨b, off + i, none⟩ = some v
theorem Rd.nil (W : World) (a : Option Addr) : Rd W a [] := fun i v h => by simp at h
theorem Rd.ext {W W' : World} {a : Option Addr} {cs : List Value} (h : Rd W a cs) (s : Ext W W') : Rd W' a cs := fun i v hv =>
  let ⟨b, off, ha, hc⟩ := h i v hv; ⟨b, off, ha, cell_ext s hc⟩
theorem Rd.sim {B : Nat} {W W' : World} {a : Option Addr} {cs : List Value} (h : Rd W a cs) (s : Sim B W W') : Rd W' a cs := fun i v hv =>
  let ⟨b, off, ha, hc⟩ := h i v hv; ⟨b, off, ha, s.cell hc⟩
theorem lt_of_cell {W : World} {p : Addr} {v : Value} (h : W.cell? p = some v) : p.block < W.heap.size := by
  obtain ⟨o, ho, _⟩ := cells_of_cell h
  exact (Array.getElem?_eq_some_iff.1 ho).1
theorem Rd.below {B : Nat} {W W' : World} {a : Option Addr} {cs : List Value} (h : Rd W a cs) (hB : W.heap.size ≤ B) (s : Below B W W') : Rd W' a cs := h.ext (s.mono hB)
theorem Rd.get {W : World} {a : Option Addr} {cs : List Value} (h : Rd W a cs) {i : Nat} {v : Value} (hv : cs[i]? = some v) : ∃ b off, a = some ⟨b, off, none⟩ ∧ W.cell? ⟨b, off + i, none⟩ = some v := h i v hv

theorem Rd.at {W : World} {a : Option Addr} {cs : List Value} (h : Rd W a cs) {i : Nat} {v : Value} (hv : cs[i]? = some v) : ∃ b off, a = some ⟨b, off, none⟩ ∧ W.cell? ⟨b, off + i, none⟩ = some v ∧ b < W.heap.size :=
  let ⟨b, off, ha, hc⟩ := h i v hv; ⟨b, off, ha, hc, lt_of_cell hc⟩

/-- A row of the call's own, as what can be read. -/
theorem row_rd {base n : Nat} {W : World} {e : TypeId} {v : Value} {cs : List Value} {size : Nat} (h : W.ownsRow base e size v n cs) : ∃ a cap, v = .slice a n cap ∧ Rd W a cs ∧ cap ≤ maxLen ∧ n ≤ cap := by
  rcases h.2 with ⟨rfl, rfl⟩ | ⟨g, cap, cur, rfl, hb, hg, hnc, hcm, hcs, htake⟩
  · have hx : cs = [] := List.eq_nil_of_length_eq_zero (by simpa using h.1)
    subst hx
    exact ⟨none, 0, rfl, Rd.nil _ _, by unfold maxLen; omega, by omega⟩
  · refine ⟨_, cap, rfl, fun i v hv => ⟨g, 0, rfl, ?_⟩, hcm, hnc⟩
    rw [← htake, List.getElem?_take] at hv
    split at hv
    · simp only [World.cell?, Nat.zero_add]
      rw [hg]
      simpa using hv
    · cases hv

theorem row_base {base base' size n : Nat} {W : World} {e : TypeId} {v : Value} {xs : List Value} (h : W.ownsRow base e size v n xs) (hb : base' ≤ base) : W.ownsRow base' e size v n xs := by
  refine ⟨h.1, ?_⟩
  rcases h.2 with hn | ⟨g, cap, cur, hv, hg, r⟩
  · exact .inl hn
  · exact .inr ⟨g, cap, cur, hv, Nat.le_trans hb hg, r⟩

/-- A whole block of one-cell values. -/
def RowAt (W : World) (b : Nat) (t : TypeId) (cs : List Value) : Prop := W.heap[b]? = some (.cells cs.toArray t (0, 0))
theorem RowAt.lt {W : World} {b : Nat} {t : TypeId} {cs : List Value} (h : RowAt W b t cs) : b < W.heap.size := (Array.getElem?_eq_some_iff.1 h).1
theorem RowAt.cell {W : World} {b : Nat} {t : TypeId} {cs : List Value} (h : RowAt W b t cs) {i : Nat} {v : Value} (hv : cs[i]? = some v) : W.cell? ⟨b, i, none⟩ = some v := by
  simp only [World.cell?]; rw [show W.heap[b]? = _ from h]; simpa using hv
theorem RowAt.frozen {W : World} {b : Nat} {t : TypeId} {cs : List Value} (h : RowAt W b t cs) (i : Nat) : W.frozen? ⟨b, i, none⟩ = false := by
  simp [World.frozen?, show W.heap[b]? = _ from h]
theorem RowAt.new (W : World) (t : TypeId) (cs : List Value) : RowAt (W.alloc (.cells cs.toArray t)) W.heap.size t cs := World.alloc_heap_new W _
theorem RowAt.alloc {W : World} {b : Nat} {t : TypeId} {cs : List Value} (h : RowAt W b t cs) (o : Obj) : RowAt (W.alloc o) b t cs := (Below.heap_alloc W o b h.lt).trans h
theorem RowAt.drew {W : World} {b : Nat} {t : TypeId} {cs : List Value} (h : RowAt W b t cs) : RowAt W.drew b t cs := h
theorem RowAt.ext {W W' : World} {b : Nat} {t : TypeId} {cs : List Value} (h : RowAt W b t cs) (s : Ext W W') : RowAt W' b t cs := (s.block b h.lt).trans h
theorem RowAt.sim {B : Nat} {W W' : World} {b : Nat} {t : TypeId} {cs : List Value} (h : RowAt W b t cs) (s : Sim B W W') : RowAt W' b t cs := s.cells _ _ h rfl
theorem RowAt.set {W : World} {b : Nat} {t : TypeId} {cs : List Value} (h : RowAt W b t cs) (i : Nat) (u : Value) : RowAt (W.setCell ⟨b, i, none⟩ u) b t (cs.set i u) := by
  unfold RowAt
  simp only [World.setCell, Array.getElem?_modify, if_pos]
  rw [show W.heap[b]? = _ from h]
  simp
theorem RowAt.other {W : World} {b : Nat} {t : TypeId} {cs : List Value} (h : RowAt W b t cs) {a : Addr} (hne : b ≠ a.block) (u : Value) : RowAt (W.setCell a u) b t cs := (Below.heap_setCell W a u b hne).trans h
theorem RowAt.owns {W : World} {base b n : Nat} {t : TypeId} {cs : List Value} (h : RowAt W b t cs) (hb : base ≤ b) (hn : cs.length = n) (hm : n ≤ maxLen) : W.ownsRow base t 1 (.slice (some ⟨b, 0, none⟩) n n) n cs :=
  ⟨by simp [hn], .inr ⟨b, n, cs.toArray, rfl, hb, h, Nat.le_refl _, hm, by simp [hn], by simp [List.take_of_length_le, hn]⟩⟩
theorem RowAt.rd {W : World} {b : Nat} {t : TypeId} {cs : List Value} (h : RowAt W b t cs) : Rd W (some ⟨b, 0, none⟩) cs := fun i v hv => ⟨b, 0, rfl, by rw [Nat.zero_add]; exact h.cell hv⟩
theorem RowAt.made (W : World) (t : TypeId) (z : Value) (n : Nat) : RowAt (W.alloc (.cells (madeCells #[z] n) t)) W.heap.size t (List.replicate n z) := by
  have h := World.alloc_heap_new W (.cells (madeCells #[z] n) t)
  unfold RowAt
  rw [h]
  have : madeCells #[z] n = (List.replicate n z).toArray := by rw [← toList_madeCells_one]
  rw [this]

theorem region_tail {P : Program} {id : Nat} {Q : Exit → Act → World → Prop} {a : Act} {w : World} {l : List Oper} (n : Nat) (hm : P.follows .mixedOrders = true) (hB : Region.lexTailB .any l.toArray n = true)
    (h : wpStill P l.toArray w.drew (fun a' => wpList P l.toArray Q (l.drop n) a' w.drew) (l.take n) a) : (Code.region id l.toArray true).wp P Q a w := wp_region_still_tail n hm hB h

/-- A slice that a make gave: its block whole. -/
def NewRow (W : World) (B : Nat) (t : TypeId) (v : Value) (cs : List Value) : Prop := ∃ g, v = .slice (some ⟨g, 0, none⟩) cs.length cs.length ∧ B ≤ g ∧ RowAt W g t cs
theorem NewRow.ext {W W' : World} {B : Nat} {t : TypeId} {v : Value} {cs : List Value} (h : NewRow W B t v cs) (s : Ext W W') : NewRow W' B t v cs := let ⟨g, h1, h2, h3⟩ := h; ⟨g, h1, h2, h3.ext s⟩
theorem NewRow.sim {B' : Nat} {W W' : World} {B : Nat} {t : TypeId} {v : Value} {cs : List Value} (h : NewRow W B t v cs) (s : Sim B' W W') : NewRow W' B t v cs := let ⟨g, h1, h2, h3⟩ := h; ⟨g, h1, h2, h3.sim s⟩
theorem NewRow.base {W : World} {B B' : Nat} {t : TypeId} {v : Value} {cs : List Value} (h : NewRow W B t v cs) (hb : B' ≤ B) : NewRow W B' t v cs := let ⟨g, h1, h2, h3⟩ := h; ⟨g, h1, Nat.le_trans hb h2, h3⟩
theorem NewRow.owns {W : World} {B : Nat} {t : TypeId} {v : Value} {cs : List Value} (h : NewRow W B t v cs) (hm : cs.length ≤ maxLen) : W.ownsRow B t 1 v cs.length cs := by
  obtain ⟨g, rfl, h2, h3⟩ := h
  exact h3.owns h2 rfl hm

/-- A loop whose measure is read off a ghost. -/
theorem wpIn_loop_ghost {γ : Type} {F : Fence} {n : Nat} {P : Program} {Q : Exit → Act → World → Prop} {a : Act} {w : World} {c : Code} (I : γ → Act → World → Prop) (μ : γ → Nat) (g₀ : γ) (h₀ : I g₀ a w)
    (round : ∀ g a w, I g a w → c.wpIn F n P (Exit.then (fun a' w' => ∃ g', I g' a' w' ∧ μ g' < μ g) Q) a w) : (Code.loop c).wpIn F n P Q a w := by
  refine wpIn_loop (fun a w => ∃ g, I g a w) (fun a w => leastOf (fun m => ∃ g, I g a w ∧ μ g = m)) ⟨g₀, h₀⟩ ?_
  intro a w ⟨g0, hg0⟩
  obtain ⟨⟨g, hg, hm⟩, _⟩ := leastOf_spec (p := fun m => ∃ g, I g a w ∧ μ g = m) ⟨μ g0, g0, hg0, rfl⟩
  refine wpIn_mono (round g a w hg) ?_
  intro e a' w' hq
  cases e with
  | normal =>
    obtain ⟨g', hg', hlt⟩ := hq
    refine ⟨⟨g', hg'⟩, ?_⟩
    rw [← hm]
    exact Nat.lt_of_le_of_lt ((leastOf_spec (p := fun m => ∃ g, I g a' w' ∧ μ g = m) ⟨μ g', g', hg', rfl⟩).2 _ ⟨g', hg', rfl⟩) hlt
  | _ => exact hq
theorem wp_loop_ghostG {γ : Type} {P : Program} {Q : Exit → Act → World → Prop} {a : Act} {w : World} {c : Code} (I : γ → Act → World → Prop) (μ : γ → Nat) (g₀ : γ) (h₀ : I g₀ a w)
    (round : ∀ g a w, I g a w → c.wp P (Exit.then (fun a' w' => ∃ g', I g' a' w' ∧ μ g' < μ g) Q) a w) : (Code.loop c).wp P Q a w :=
  (wpIn_wide (n := 5)).1 (wpIn_loop_ghost I μ g₀ h₀ fun g a w h => wpIn_wide.2 (round g a w h))

theorem region_still {P : Program} {id : Nat} {Q : Exit → Act → World → Prop} {a : Act} {w : World} {l : List Oper} (hm : P.follows .mixedOrders = true) (hB : Region.lexB .any l.toArray = true)
    (h : wpStill P l.toArray w.drew (fun a' => Q .normal a' w.drew) l a) : (Code.region id l.toArray true).wp P Q a w := wp_region_still_lit hm hB h

/-- A region in a round is carried out as everywhere, if no operation is a defer statement. -/
def noDefer (ops : Array Oper) : Bool := ops.toList.all fun o => match o.op with | .defer _ => false | _ => true

theorem wpOpsIn_of_wpOps {P : Program} {n l : Nat} {ops : Array Oper} {Q : Exit → Act → World → Prop} (hq : ∀ a w, ¬ Q .outgrown a w) (hd : noDefer ops = true) (js : List Nat) :
    ∀ (a : Act) (w : World), wpOps P ops Q js a w → wpOpsIn (Fence.wide.inRound l) n P ops Q js a w := by
  have hnl : ¬ LetsOut Q := fun ⟨a, w, h⟩ => hq a w h
  induction js with
  | nil => exact fun a w h => h
  | cons i rest ih =>
    intro a w h
    simp only [wpOps] at h
    simp only [wpOpsIn]
    cases ho : ops[i]? with
    | none => simp only [ho] at h; exact ih _ _ h
    | some o =>
      simp only [ho] at h
      have hop : ∀ c, o.op ≠ .defer c := fun c e => by
        have hm : o ∈ ops.toList := by
          rw [Array.getElem?_eq_some_iff] at ho; obtain ⟨hi, rfl⟩ := ho; simp
        have := List.all_eq_true.1 hd o hm
        simp [e] at this
      by_cases hw : Region.wanted o (yielded ops a.tmps) = true
      · simp only [hw, if_true] at h ⊢
        rcases h with h | ⟨_, h⟩
        case inr => exact absurd h hnl
        refine ⟨fun _ _ => trivial, ?_⟩
        rw [Oper.semAt_eq _ _ _ hop]
        simp only [Oper.wp, Oper.upon] at h
        unfold Oper.uponIn
        split at h
        · rename_i v w' hr; rw [hr]; exact ih _ _ h
        · rename_i w' hr; rw [hr]; exact ih _ _ h
        · rename_i d w' hr; rw [hr]; exact ih _ _ h
        · rename_i f args w' hr; rw [hr]
          refine ⟨(fun e => by cases e), CallsIn.inRound l (callsIn_wide.2 (h.mono ?_))⟩
          intro e w'' he
          cases e with
          | returned v => exact ih _ _ he
          | panicked c => exact he
          | outgrown => exact he
        · rename_i row args w' hr; rw [hr]
          refine ⟨(fun e => by cases e), fun c cs _ => ?_⟩
          obtain ⟨v, w'', hR, hs⟩ := h c cs
          exact ⟨v, w'', ih _ _ hR, stepsIn_wide.2 hs⟩
        · rename_i v w' hr; rw [hr]; exact h
        · exact h.elim
      · simp only [hw, if_false, Bool.false_eq_true] at h ⊢
        exact ⟨fun _ _ => trivial, ih _ _ h⟩
end Go.Proofs.Ythalhapbllbefaa
