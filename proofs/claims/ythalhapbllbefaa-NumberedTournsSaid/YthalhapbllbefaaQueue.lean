/- A slice of one-cell elements that the call owns, wherever it begins in its block: read, popped at its head, appended to. -/
import Derived.Deep.AppendSrc
import Derived.Deep.Cut
import Derived.Laws.IdiomCopy
import Derived.Test.YthalhapbllbefaaBase
namespace Go.Proofs.Ythalhapbllbefaa
open Go.RowKit

def Own1 (W : World) (base : Nat) (e : TypeId) (v : Value) (xs : List Value) : Prop :=
  (v = .slice none 0 0 ∧ xs = []) ∨ ∃ g off cap cur, v = .slice (some ⟨g, off, none⟩) xs.length cap ∧ base ≤ g ∧ W.heap[g]? = some (.cells cur e (0, 0)) ∧ xs.length ≤ cap ∧ cap ≤ maxLen ∧ off + cap ≤ cur.size ∧
    ∀ (i : Nat) (x : Value), xs[i]? = some x → cur[off + i]? = some x

theorem Own1.ext {W W' : World} {base : Nat} {e : TypeId} {v : Value} {xs : List Value} (h : Own1 W base e v xs) (s : Ext W W') : Own1 W' base e v xs := by
  rcases h with h | ⟨g, off, cap, cur, hv, hb, hg, r⟩
  · exact .inl h
  · exact .inr ⟨g, off, cap, cur, hv, hb, (s.block g (Array.getElem?_eq_some_iff.1 hg).1).trans hg, r⟩
theorem Own1.sim {B : Nat} {W W' : World} {base : Nat} {e : TypeId} {v : Value} {xs : List Value} (h : Own1 W base e v xs) (s : Sim B W W') : Own1 W' base e v xs := by
  rcases h with h | ⟨g, off, cap, cur, hv, hb, hg, r⟩
  · exact .inl h
  · exact .inr ⟨g, off, cap, cur, hv, hb, s.cells _ _ hg rfl, r⟩
theorem Own1.kept {W W' : World} {row : Option Nat} {base : Nat} {e : TypeId} {v : Value} {xs : List Value} (h : Own1 W base e v xs) (hg : W.grownBy W' row) (hne : v.ownBlock = none ∨ v.ownBlock ≠ row) : Own1 W' base e v xs := by
  rcases h with h | ⟨g, off, cap, cur, rfl, hb, hgg, r⟩
  · exact .inl h
  · exact .inr ⟨g, off, cap, cur, rfl, hb, by rw [hg.block g (Array.getElem?_eq_some_iff.1 hgg).1 (by simpa [Value.ownBlock] using hne)]; exact hgg, r⟩
theorem Own1.alloc {W : World} {base : Nat} {e : TypeId} {v : Value} {xs : List Value} (h : Own1 W base e v xs) (o : Obj) : Own1 (W.alloc o) base e v xs :=
  h.kept (World.grownBy_alloc W o none) (by cases hv : v.ownBlock <;> simp)
theorem Own1.lt {W : World} {base : Nat} {e : TypeId} {v : Value} {xs : List Value} (h : Own1 W base e v xs) : ∀ k, v.ownBlock = some k → base ≤ k ∧ k < W.heap.size := by
  intro k hk
  rcases h with ⟨rfl, _⟩ | ⟨g, off, cap, cur, rfl, hb, hg, _⟩
  · simp [Value.ownBlock] at hk
  · simp [Value.ownBlock] at hk; subst hk; exact ⟨hb, (Array.getElem?_eq_some_iff.1 hg).1⟩
theorem Own1.rd {W : World} {base : Nat} {e : TypeId} {v : Value} {xs : List Value} (h : Own1 W base e v xs) : ∃ a cap, v = .slice a xs.length cap ∧ Rd W a xs := by
  rcases h with ⟨rfl, rfl⟩ | ⟨g, off, cap, cur, rfl, hb, hg, hn, hm, hs, hc⟩
  · exact ⟨none, 0, rfl, Rd.nil _ _⟩
  · refine ⟨_, cap, rfl, fun i x hx => ⟨g, off, rfl, ?_⟩⟩
    simp only [World.cell?]; rw [hg]
    simpa using hc i x hx
theorem Own1.form {W : World} {base : Nat} {e : TypeId} {v : Value} {xs : List Value} (h : Own1 W base e v xs) {n : Nat} (hn : xs.length = n) : ∃ a cap, v = .slice a n cap := let ⟨a, c, h, _⟩ := h.rd; ⟨a, c, hn ▸ h⟩
theorem own1_of_row {W : World} {base n : Nat} {e : TypeId} {v : Value} {xs : List Value} (h : W.ownsRow base e 1 v n xs) : Own1 W base e v xs := by
  have hl := h.1
  rcases h.2 with ⟨rfl, rfl⟩ | ⟨g, cap, cur, rfl, hb, hg, hnc, hcm, hcs, htake⟩
  · exact .inl ⟨rfl, List.eq_nil_of_length_eq_zero (by simpa using hl)⟩
  · refine .inr ⟨g, 0, cap, cur, by rw [show xs.length = n by omega], hb, hg, by omega, hcm, by omega, fun i x hx => ?_⟩
    rw [← htake, List.getElem?_take] at hx
    split at hx
    · simpa using hx
    · cases hx
theorem Own1.base {W : World} {base base' : Nat} {e : TypeId} {v : Value} {xs : List Value} (h : Own1 W base e v xs) (hb : base' ≤ base) : Own1 W base' e v xs := by
  rcases h with h | ⟨g, off, cap, cur, hv, hg, r⟩
  · exact .inl h
  · exact .inr ⟨g, off, cap, cur, hv, Nat.le_trans hb hg, r⟩

/-- 'x[1:]'. -/
theorem Own1.pop {W : World} {base : Nat} {e : TypeId} {g off n cap : Nat} {x : Value} {xs : List Value} (h : Own1 W base e (.slice (some ⟨g, off, none⟩) n cap) (x :: xs)) :
    Own1 W base e (.slice (if cap = 1 then some ⟨g, off, none⟩ else some ⟨g, off + 1, none⟩) (n - 1) (cap - 1)) xs := by
  rcases h with ⟨h, _⟩ | ⟨g', off', cap', cur, hv, hb, hg, hn, hm, hs, hc⟩
  · cases h
  · simp only [Value.slice.injEq, Option.some.injEq, Addr.mk.injEq, List.length_cons] at hv
    obtain ⟨⟨rfl, rfl, _⟩, rfl, rfl⟩ := hv
    simp only [List.length_cons] at hn
    by_cases h1 : cap = 1
    · subst h1
      have hx : xs = [] := List.eq_nil_of_length_eq_zero (by omega)
      subst hx
      exact .inr ⟨g, off, 0, cur, by simp, hb, hg, by simp, by omega, by omega, fun i x hx => by simp at hx⟩
    · refine .inr ⟨g, off + 1, cap - 1, cur, by rw [if_neg h1]; simp, hb, hg, by omega, by omega, by omega, fun i y hy => ?_⟩
      rw [show off + 1 + i = off + (i + 1) by omega]
      exact hc (i + 1) y (by simpa using hy)

theorem grownBy_cell (W : World) (p : Addr) (v : Value) : W.grownBy (W.setCell p v) (some p.block) :=
  ⟨rfl, rfl, rfl, by simp [World.setCell], fun k _ hne => Below.heap_setCell W p v k (fun e => hne (by rw [e]))⟩
theorem setCells_one (W : World) (b o : Nat) (x : Value) : W.setCells b o [x] = W.setCell ⟨b, o, none⟩ x := by simp [World.setCells]

/-- append of one element. -/
theorem run_append_q {P : Program} (w : World) (base : Nat) (t ty e : TypeId) (i : TypeInfo) (z : Value) (ht : P.underlying t = some (.slice e)) (hi : P.info? e = some i) (hz : i.zero = some z)
    (hsize : i.size = 1) (hby : i.bytes = 8) (hz1 : z.cells = #[z]) (v : Value) (xs : List Value) (hown : Own1 w base e v xs)
    (a : Addr) (c : Nat) (x : Value) (hx : w.cell? a = some x) (h1 : x.oneCell' = true) (hn : xs.length + 1 ≤ 1000000) (hbase : base ≤ w.heap.size) :
    ∃ v' w', (Builtin.append_ #[t, t] ty #[v, .slice (some a) 1 c]).run P w = .ok v' w' ∧ Own1 w' base e v' (xs ++ [x]) ∧ w.grownBy w' v.ownBlock ∧ (v'.ownBlock = v.ownBlock ∨ v'.ownBlock = some w.heap.size) := by
  have hsrc : Src P i.size t (.slice (some a) 1 c) 1 [x] w := Src.ofSlice w ht a 1 c [x] (by simp [hsize]) (fun j u hu => by
    match j, hu with
    | 0, hu => simp at hu; subst hu; simpa [Addr.add] using hx) (by simpa using h1)
  have hgrow : ∀ (ba : Option Addr) (cap : Nat), cap < xs.length + 1 → ((Builtin.firstCells i.size xs.length (.slice ba xs.length cap)).run P w.drew = .ok xs.toArray w.drew) →
      ∃ v' w', (Builtin.append_ #[t, t] ty #[.slice ba xs.length cap, .slice (some a) 1 c]).run P w = .ok v' w' ∧ Own1 w' base e v' (xs ++ [x]) ∧ (∀ row, w.grownBy w' row) ∧ v'.ownBlock = some w.heap.size := by
    intro ba cap hcap hold
    have hr := run_append_grow_src (P := P) w t t ty e i z ht hi hz ba xs.length cap xs hold _ 1 [x] hsrc hcap (by omega) (by rw [hby]; exact growslice_fits hcap (by omega))
    have hge := grownCap_ge w (xs.length + 1) cap e
    have hle := grownCap_le_maxLen w (xs.length + 1) cap e (by unfold maxLen; omega)
    refine ⟨_, _, hr, .inr ⟨w.heap.size, 0, _, _, by simp, hbase, heap_alloc_new w.drew _, by simpa using hge, hle, ?_, ?_⟩, fun row => ⟨rfl, rfl, rfl, by simp, fun k hk _ => Below.heap_alloc w.drew _ k hk⟩, rfl⟩
    · simp only [Array.size_append, List.size_toArray, size_zeroCells, hz1]
      simp; omega
    · intro j y hy
      rw [Nat.zero_add, Array.getElem?_append_left (by simpa using (List.getElem?_eq_some_iff.1 hy).1)]
      simpa using hy
  rcases hown with ⟨rfl, rfl⟩ | ⟨g, off, cap, cur, rfl, hb, hg, hnc, hm, hs, hc⟩
  · obtain ⟨v', w', h1, h2, h3, h4⟩ := hgrow none 0 (by simp) (run_firstCells_none w.drew _ _ _ _)
    exact ⟨v', w', h1, h2, h3 _, .inr h4⟩
  · by_cases hroom : xs.length + 1 ≤ cap
    · have hcell : ∃ u, w.cell? ⟨g, off + xs.length, none⟩ = some u := by
        refine ⟨cur[off + xs.length]'(by omega), ?_⟩
        simp only [World.cell?]; rw [hg]; simp
      obtain ⟨u, hu⟩ := hcell
      have hr := run_append_room_src (P := P) w t t ty e i ht hi g off xs.length cap _ 1 [x] hsrc hroom
        (fun j hj => by simp at hj; subst hj; simp [hsize, hu]) (fun j hj => by simp [World.frozen?, hg])
      rw [hsize, Nat.mul_one, setCells_one] at hr
      refine ⟨_, _, hr, .inr ⟨g, off, cap, cur.setIfInBounds (off + xs.length) x, by simp, hb, ?_, by simpa using hroom, hm, by simpa using hs, ?_⟩, grownBy_cell w ⟨g, off + xs.length, none⟩ x, .inl rfl⟩
      · simp only [World.setCell, Array.getElem?_modify, if_pos]
        rw [hg]; simp
      · intro j y hy
        by_cases hj : j = xs.length
        · subst hj
          rw [List.getElem?_concat_length] at hy
          cases hy
          rw [Array.getElem?_setIfInBounds_self_of_lt (by omega)]
        · have hlt : j < xs.length := by
            have := (List.getElem?_eq_some_iff.1 hy).1
            simp at this; omega
          rw [List.getElem?_append_left hlt] at hy
          rw [Array.getElem?_setIfInBounds_ne (by omega)]
          exact hc j y hy
    · have hold : (Builtin.firstCells i.size xs.length (.slice (some ⟨g, off, none⟩) xs.length cap)).run P w.drew = .ok xs.toArray w.drew :=
        run_firstCells_some w.drew i.size xs.length ⟨g, off, none⟩ _ _ xs (by simp [hsize]) (fun j y hy => by
          have : (⟨g, off, none⟩ : Addr).add j = ⟨g, off + j, none⟩ := by unfold Addr.add; split <;> simp_all
          rw [this]
          simp only [World.cell?, World.drew]; rw [hg]; simpa using hc j y hy)
      obtain ⟨v', w', h1, h2, h3, h4⟩ := hgrow (some ⟨g, off, none⟩) cap (by omega) hold
      exact ⟨v', w', h1, h2, h3 _, .inr h4⟩

theorem wpList_append_q {P : Program} (w : World) {ops : Array Oper} {rest : List Oper} {o : Oper} {a : Act} {Q : Exit → Act → World → Prop}
    (hg : o.guard = none) (s x : Operand) (t : TypeId) (hop : o.op = Op.call { callee := Callee.builtin Builtin.append, args := #[s, x], argTypes := #[t, t] })
    (base : Nat) (e : TypeId) (i : TypeInfo) (z : Value) (h1 : P.underlying t = some (.slice e)) (h2 : P.info? e = some i) (h3 : i.zero = some z) (h4 : i.size = 1) (h5 : i.bytes = 8) (h6 : z.cells = #[z])
    (v : Value) (xs : List Value) (hs : a.eval s = v) (hown : Own1 w base e v xs) (ad : Addr) (c : Nat) (y : Value) (hx : a.eval x = .slice (some ad) 1 c)
    (hc : w.cell? ad = some y) (h1c : y.oneCell' = true) (b1 : xs.length + 1 ≤ 1000000) (b3 : base ≤ w.heap.size)
    (hK : ∀ v' w', Own1 w' base e v' (xs ++ [y]) → w.grownBy w' v.ownBlock → (v'.ownBlock = v.ownBlock ∨ v'.ownBlock = some w.heap.size) → wpList P ops Q rest (a.put o.dst v') w') :
    wpList P ops Q (o :: rest) a w := by
  refine wpList_plain hg fun K hK' => ?_
  obtain ⟨v', w', hrun, r1, r2, r3⟩ := run_append_q (P := P) w base t o.type e i z h1 h2 h3 h4 h5 h6 v xs hown ad c y hc h1c b1 b3
  unfold Oper.wp execOp
  simp only [hop, resolve, invoke, builtin, Sem.run_bind, Sem.run_pure, Result.andThen_ok, List.map_toArray, List.map_cons, List.map_nil, hs, hx, hrun]
  exact hK' _ _ (hK v' w' r1 r2 r3)

theorem wpListIn_append_q {F : Fence} {n : Nat} {P : Program} (w : World) {ops : Array Oper} {rest : List Oper} {o : Oper} {a : Act} {Q : Exit → Act → World → Prop}
    (hg : o.guard = none) (s x : Operand) (t : TypeId) (hop : o.op = Op.call { callee := Callee.builtin Builtin.append, args := #[s, x], argTypes := #[t, t] })
    (base : Nat) (e : TypeId) (i : TypeInfo) (z : Value) (h1 : P.underlying t = some (.slice e)) (h2 : P.info? e = some i) (h3 : i.zero = some z) (h4 : i.size = 1) (h5 : i.bytes = 8) (h6 : z.cells = #[z])
    (v : Value) (xs : List Value) (hs : a.eval s = v) (hown : Own1 w base e v xs) (ad : Addr) (c : Nat) (y : Value) (hx : a.eval x = .slice (some ad) 1 c)
    (hc : w.cell? ad = some y) (h1c : y.oneCell' = true) (b1 : xs.length + 1 ≤ 1000000) (b3 : base ≤ w.heap.size)
    (hK : ∀ v' w', Own1 w' base e v' (xs ++ [y]) → w.grownBy w' v.ownBlock → (v'.ownBlock = v.ownBlock ∨ v'.ownBlock = some w.heap.size) → wpListIn F n P ops Q rest (a.put o.dst v') w') :
    wpListIn F n P ops Q (o :: rest) a w := by
  refine wpListIn_plain hg fun K hK' => ?_
  obtain ⟨v', w', hrun, r1, r2, r3⟩ := run_append_q (P := P) w base t o.type e i z h1 h2 h3 h4 h5 h6 v xs hown ad c y hc h1c b1 b3
  unfold Oper.wpIn
  refine ⟨?_, ?_⟩
  · simp [Oper.about, hop, resolve, Target.leads, Sem.run_pure]
  · rw [Oper.semAt_plain F _ _ (by rw [hop]; intro c hc'; cases hc')]
    simp [execOp, hop, resolve, invoke, builtin, hs, hx, hrun, Result.andThen]
    exact hK' _ _ (hK v' w' r1 r2 r3)

theorem boxed_notOwn {W : World} {B base : Nat} {t e : TypeId} {u v : Value} {xs : List Value} (h : Boxed W B t u) (hte : t ≠ e) (hr : Own1 W base e v xs) : v.ownBlock ≠ some B := by
  intro e'
  rcases hr with ⟨rfl, _⟩ | ⟨g, off, cap, cur, rfl, hb, hgb, _⟩
  · simp [Value.ownBlock] at e'
  · obtain rfl : g = B := by simpa [Value.ownBlock] using e'
    have := (show W.heap[g]? = _ from h).symm.trans hgb
    simp at this
    exact hte this.2
theorem Own1.setBox {W : World} {B base : Nat} {t e : TypeId} {u v : Value} {xs : List Value} (hr : Own1 W base e v xs) (h : Boxed W B t u) (hte : t ≠ e) (u' : Value) : Own1 (W.setCell ⟨B, 0, none⟩ u') base e v xs :=
  hr.kept (grownBy_cell W ⟨B, 0, none⟩ u') (.inr (boxed_notOwn h hte hr))
theorem cell_new1 (W : World) (y : Value) (t : TypeId) : (W.alloc (.cells #[y] t)).cell? ⟨W.heap.size, 0, none⟩ = some y := (Boxed.new W t y).cell

/-- Behind an append of one element (laid in a new block first) and the store of the slice into its box: what the walk owes. -/
theorem boxed_appendedQ {W w1 : World} {n₀ B : Nat} {t e : TypeId} {v v' : Value} {xs ys : List Value} {tmp : Obj}
    (hv : Boxed W B t v) (hte : t ≠ e) (hrow : Own1 W n₀ e v xs)
    (hown' : Own1 w1 n₀ e v' ys) (hgrow : (W.alloc tmp).grownBy w1 v.ownBlock) :
    Boxed w1 B t v ∧ Boxed (w1.setCell ⟨B, 0, none⟩ v') B t v' ∧ Own1 (w1.setCell ⟨B, 0, none⟩ v') n₀ e v' ys ∧ KeepsOthers W (w1.setCell ⟨B, 0, none⟩ v') ∧
      (∀ k, k < W.heap.size → v.ownBlock ≠ some k → k ≠ B → (w1.setCell ⟨B, 0, none⟩ v').heap[k]? = W.heap[k]?) ∧ (n₀ ≤ B → n₀ ≤ W.heap.size → Below n₀ W (w1.setCell ⟨B, 0, none⟩ v')) := by
  have hne : some B ≠ v.ownBlock := by
    intro e'
    rcases hrow with ⟨rfl, _⟩ | ⟨g, off, cap, cur, rfl, hb, hgb, _⟩
    · simp [Value.ownBlock] at e'
    · obtain rfl : B = g := by simpa [Value.ownBlock] using e'
      have := (show W.heap[B]? = _ from hv).symm.trans hgb
      simp at this
      exact hte this.2
  have hb1 : Boxed w1 B t v := (hv.alloc tmp).kept hgrow hne
  have hne' : v'.ownBlock = none ∨ v'.ownBlock ≠ some B := by
    rcases hown' with ⟨rfl, _⟩ | ⟨g, off, cap, cur, rfl, hb, hgb, _⟩
    · simp [Value.ownBlock]
    · refine .inr fun e' => ?_
      obtain rfl : g = B := by simpa [Value.ownBlock] using e'
      have := (show w1.heap[g]? = _ from hb1).symm.trans hgb
      simp at this
      exact hte this.2
  refine ⟨hb1, hb1.set v', hown'.kept (grownBy_cell w1 ⟨B, 0, none⟩ v') hne', ?_, ?_, fun hB hW => ?_⟩
  · refine (KeepsOthers.alloc W tmp).trans ((KeepsOthers.of_grownBy hgrow (fun j o hj ho => ?_)).trans (KeepsOthers.setCell _ _ _))
    rcases hrow with ⟨rfl, _⟩ | ⟨g, off, cap, cur, rfl, hb, hgb, _⟩
    · simp [Value.ownBlock] at hj
    · obtain rfl : g = j := by simpa [Value.ownBlock] using hj
      have h2 := (Below.heap_alloc W tmp g (Array.getElem?_eq_some_iff.1 hgb).1).trans hgb
      rw [h2] at ho; cases ho; rfl
  · intro k hk hk1 hk2
    rw [Below.heap_setCell _ _ _ _ (by simpa using hk2), hgrow.block k (by simp; omega) (fun e => hk1 e.symm), Below.heap_alloc W tmp k hk]
  · exact (((Below.refl n₀ W).alloc hW tmp).grown hgrow (by simp; omega) (fun k hk => (hrow.lt k hk).1)).setCell (p := ⟨B, 0, none⟩) hB _

/-- 'x[1:]' of a slice of one-cell elements that is not empty. -/
theorem run_pop {P : Program} (w : World) (base : Nat) (t e : TypeId) (i : TypeInfo) (ht : P.underlying t = some (.slice e)) (hi : P.info? e = some i) (hsize : i.size = 1)
    (v x : Value) (xs : List Value) (hown : Own1 w base e v (x :: xs)) :
    ∃ v2, (Instr.sliceAt t v (some (.int .i64 1)) none none).run P w = .ok v2 w ∧ Own1 w base e v2 xs ∧ (v2.ownBlock = v.ownBlock) := by
  have h := hown
  rcases h with ⟨_, h⟩ | ⟨g, off, cap, cur, rfl, _, _, hn, _⟩
  · cases h
  · have hp := hown.pop
    simp only [List.length_cons] at hn hp
    refine ⟨_, ?_, hp, ?_⟩
    · by_cases h1 : cap = 1
      · subst h1
        simp [Instr.sliceAt, Instr.slice, Instr.sliceBounds, Instr.sliceBound, run_underlying ht, sizeOf, typeInfo, hi, asIntOf]
        exact fun h => absurd h (by omega)
      · have h2 : ¬ (cap - 1 + 1 = 1) := by omega
        simp [Instr.sliceAt, Instr.slice, Instr.sliceBounds, Instr.sliceBound, run_underlying ht, sizeOf, typeInfo, hi, asIntOf, h1, hsize, Addr.add]
        exact fun h => absurd h (by omega)
    · split <;> rfl

theorem wpList_pop {P : Program} (w : World) {ops : Array Oper} {rest : List Oper} {o : Oper} {a : Act} {Q : Exit → Act → World → Prop}
    (hg : o.guard = none) (s : Operand) (t : TypeId) (hop : o.op = Op.slice t s (some (.const (.int .i64 1))) none none)
    (base : Nat) (e : TypeId) (i : TypeInfo) (h1 : P.underlying t = some (.slice e)) (h2 : P.info? e = some i) (h4 : i.size = 1)
    (v x : Value) (xs : List Value) (hs : a.eval s = v) (hown : Own1 w base e v (x :: xs))
    (hK : ∀ v', Own1 w base e v' xs → v'.ownBlock = v.ownBlock → wpList P ops Q rest (a.put o.dst v') w) :
    wpList P ops Q (o :: rest) a w := by
  refine wpList_plain hg fun K hK' => ?_
  obtain ⟨v', hrun, r1, r2⟩ := run_pop (P := P) w base t e i h1 h2 h4 v x xs hown
  unfold Oper.wp execOp
  have hc : a.eval (.const (.int .i64 1)) = .int .i64 1 := rfl
  simp only [hop, Sem.run_bind, Sem.run_pure, Option.map_some, Option.map_none, hs, hc, hrun, Result.andThen_ok]
  exact hK' _ _ (hK v' r1 r2)
theorem wpListIn_pop {F : Fence} {n : Nat} {P : Program} (w : World) {ops : Array Oper} {rest : List Oper} {o : Oper} {a : Act} {Q : Exit → Act → World → Prop}
    (hg : o.guard = none) (s : Operand) (t : TypeId) (hop : o.op = Op.slice t s (some (.const (.int .i64 1))) none none)
    (base : Nat) (e : TypeId) (i : TypeInfo) (h1 : P.underlying t = some (.slice e)) (h2 : P.info? e = some i) (h4 : i.size = 1)
    (v x : Value) (xs : List Value) (hs : a.eval s = v) (hown : Own1 w base e v (x :: xs))
    (hK : ∀ v', Own1 w base e v' xs → v'.ownBlock = v.ownBlock → wpListIn F n P ops Q rest (a.put o.dst v') w) :
    wpListIn F n P ops Q (o :: rest) a w := by
  refine wpListIn_plain hg fun K hK' => ?_
  obtain ⟨v', hrun, r1, r2⟩ := run_pop (P := P) w base t e i h1 h2 h4 v x xs hown
  unfold Oper.wpIn
  refine ⟨?_, ?_⟩
  · simp [Oper.about, hop]
  · rw [Oper.semAt_plain F _ _ (by rw [hop]; intro c hc'; cases hc')]
    have hc : a.eval (.const (.int .i64 1)) = .int .i64 1 := rfl
    simp only [execOp, hop, Sem.run_bind, Sem.run_pure, Option.map_some, Option.map_none, hs, hc, hrun, Result.andThen_ok, Oper.uponIn]
    exact hK' _ _ (hK v' r1 r2)
end Go.Proofs.Ythalhapbllbefaa
