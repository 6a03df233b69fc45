/- Within, All, Check: which points and lines may be. -/
import Derived.Test.YthalhapbllbefaaList
namespace Go.Proofs.Ythalhapbllbefaa
open Go.RowKit

def within (n a b : Int) : Bool := decide (a ≤ n) && decide (n ≤ b)
theorem within_iff {n a b : Int} : within n a b = true ↔ a ≤ n ∧ n ≤ b := by simp [within]

theorem within_any (n a b : Int) (w : World) :
    Calls Try.prog 58 #[.int .i64 n, .int .i64 a, .int .i64 b] w fun e w' => e = .returned (.bool (within n a b)) ∧ w = w' := by
  by_cases h : a ≤ n
  · go_enter Try.func58, Try.ntmps58
    go_wp2
    go_ret
    exact ⟨by simp [within, h], rfl⟩
  · have h' : n < a := by omega
    go_enter Try.func58, Try.ntmps58
    go_wp2
    go_ret
    exact ⟨by simp [within]; omega, rfl⟩

def ivs (x : Int) : Value := .int .i64 x
theorem getIv {xs : List Int} {k : Nat} (h : k < xs.length) : ∃ x, Hid (xs[k]? = some x) ∧ (xs.map ivs)[k]? = some (.int .i64 x) := ⟨xs[k], by simp [Hid], by simp [ivs, h]⟩
theorem take_snoc {α : Type} {xs : List α} {k : Nat} {x : α} (h : xs[k]? = some x) : xs.take (k + 1) = xs.take k ++ [x] := by
  obtain ⟨hk, rfl⟩ := List.getElem?_eq_some_iff.1 h
  exact List.take_succ_eq_append_getElem hk
theorem mem_of_get {α : Type} {xs : List α} {k : Nat} {x : α} (h : xs[k]? = some x) : x ∈ xs := List.mem_of_getElem? h

set_option maxHeartbeats 400000 in
theorem all_any (a : Option Addr) (cap : Nat) (xs : List Int) (lo hi : Int) (w : World) (hx : Rd w a (xs.map ivs)) (hn : xs.length ≤ maxLen) :
    Calls Try.prog 54 #[.slice a xs.length cap, .int .i64 lo, .int .i64 hi] w fun e w' => e = .returned (.bool (xs.all fun x => within x lo hi)) ∧ w = w' := by
  unfold maxLen at hn
  go_enter Try.func54, Try.ntmps54
  go_wp2
  go_loop [11] (fun i => ∃ k : Nat, k ≤ xs.length ∧ i = .int .i64 k ∧ (xs.take k).all (fun x => within x lo hi) = true) (fun i => xs.length - (intOf i).toNat)
  case atStart => exact ⟨0, by omega, rfl, by simp⟩
  case round =>
    obtain ⟨k, hk, rfl, hall⟩ := hrel
    have Hall := Lib.hid hall; clear hall
    by_cases hlt : k < xs.length
    · obtain ⟨x, hxk, hcx⟩ := getIv hlt
      obtain ⟨b, off, rfl, hc⟩ := hx.get hcx
      have Hx := Lib.hid hx; clear hx hcx
      cases hw : within x lo hi with
      | true =>
        go_wp2_with (go_at_call 58; refine (within_any _ _ _ _).mono ?_; rintro e w' ⟨rfl, rfl⟩)
        exact ⟨⟨k + 1, by omega, by go_num, by rw [take_snoc hxk.out]; simp [Hall.out, hw]⟩, by simp [intOf]; omega⟩
      | false =>
        go_wp2_with (go_at_call 58; refine (within_any _ _ _ _).mono ?_; rintro e w' ⟨rfl, rfl⟩)
        go_ret
        refine ⟨ret_bool ?_, rfl⟩
        symm; rw [List.all_eq_false]
        exact ⟨_, mem_of_get hxk.out, by simp [hw]⟩
    · go_wp2
      go_ret
      refine ⟨ret_bool ?_, rfl⟩
      have := Hall.out
      rw [List.take_of_length_le (by omega)] at this
      exact this.symm

/-- A line's two cells; the lines' cells, one behind the other. -/
def lcells (ls : List (Int × Int)) : List Value := ls.flatMap fun l => [.int .i64 l.1, .int .i64 l.2]
theorem lcells_length (ls : List (Int × Int)) : (lcells ls).length = ls.length * 2 := by
  induction ls with
  | nil => rfl
  | cons l ls ih => simp [lcells] at *; omega
theorem lcells_get {ls : List (Int × Int)} {k : Nat} (h : k < ls.length) :
    (lcells ls)[k * 2]? = some (.int .i64 (ls[k]?.getD (0, 0)).1) ∧ (lcells ls)[k * 2 + 1]? = some (.int .i64 (ls[k]?.getD (0, 0)).2) := by
  induction ls generalizing k with
  | nil => simp at h
  | cons l ls ih =>
    cases k with
    | zero => simp [lcells]
    | succ k =>
      have := ih (k := k) (by simpa using h)
      simp only [lcells, List.flatMap_cons, Nat.add_mul] at *
      simpa using this

def okL (n : Int) (l : Int × Int) : Bool := within l.1 0 (n - 1) && within l.2 0 (n - 1) && !(l.1 == l.2)
def okG (n : Int) (ls : List (Int × Int)) : Bool := within n 1 8 && decide (ls.length ≤ 24) && ls.all (okL n)

theorem Rd.line {W : World} {a : Option Addr} {ls : List (Int × Int)} (hx : Rd W a (lcells ls)) {k : Nat} (h : k < ls.length) :
    ∃ x y b off, Hid (ls[k]? = some (x, y)) ∧ a = some ⟨b, off, none⟩ ∧ W.cell? ⟨b, off + k * 2, none⟩ = some (.int .i64 x) ∧ W.cell? ⟨b, off + k * 2 + 1, none⟩ = some (.int .i64 y) := by
  have h1 := lcells_get h
  rw [show ls[k]? = some ls[k] from List.getElem?_eq_getElem h] at h1
  obtain ⟨b, off, rfl, hc⟩ := hx.get h1.1
  obtain ⟨b', off', e, hc'⟩ := hx.get h1.2
  cases e
  exact ⟨ls[k].1, ls[k].2, b, off, List.getElem?_eq_getElem h, rfl, by simpa using hc, by simpa [Nat.add_assoc] using hc'⟩

/-- An error, or none. -/
def ErrIf (ok : Bool) (v : Value) : Prop := (ok = true → v = .nilIface) ∧ (ok = false → ∃ c, v = .iface 71 (.int .i64 c))
theorem ErrIf.no {ok : Bool} {c : Int} (h : ok = false) : ErrIf ok (.iface 71 (.int .i64 c)) := ⟨(fun e => by rw [h] at e; cases e), fun _ => ⟨c, rfl⟩⟩
theorem ErrIf.yes {ok : Bool} (h : ok = true) : ErrIf ok .nilIface := ⟨fun _ => rfl, (fun e => by rw [h] at e; cases e)⟩

theorem rd_two (w : World) (x y : Value) (t : TypeId) : Rd (w.alloc (.cells #[x, y] t)) (some ⟨w.heap.size, 0, none⟩) [x, y] := by
  intro i v h
  refine ⟨_, 0, rfl, ?_⟩
  simp only [World.cell?, Nat.zero_add]
  rw [show (w.alloc (.cells #[x, y] t)).heap[w.heap.size]? = some (.cells #[x, y] t (0, 0)) from World.alloc_heap_new w _]
  simpa using h

theorem okG_bad {n : Int} {ls : List (Int × Int)} {k : Nat} {l : Int × Int} (hk : ls[k]? = some l) (h : okL n l = false) : okG n ls = false := by
  have : ls.all (okL n) = false := by rw [List.all_eq_false]; exact ⟨l, mem_of_get hk, by simp [h]⟩
  simp [okG, this]

set_option maxRecDepth 100000 in
set_option maxHeartbeats 1000000 in
theorem check_any (n : Int) (a : Option Addr) (cap : Nat) (ls : List (Int × Int)) (w : World) (hx : Rd w a (lcells ls)) (hn : ls.length ≤ maxLen) :
    Calls Try.prog 86 #[.int .i64 n, .slice a ls.length cap] w fun e w' => ∃ v, e = .returned v ∧ ErrIf (okG n ls) v ∧ Ext w w' := by
  unfold maxLen at hn
  cases hw : within n 1 8 with
  | false =>
    go_enter Try.func86, Try.ntmps86
    go_wp2_with (go_at_call 58; refine (within_any _ _ _ _).mono ?_; rintro e w' ⟨rfl, rfl⟩; rw [hw])
    go_ret
    exact ⟨_, rfl, ErrIf.no (by simp [okG, hw]), Below.refl _ _⟩
  | true =>
  by_cases hl : 24 < ls.length
  · go_enter Try.func86, Try.ntmps86
    go_wp2_with (go_at_call 58; refine (within_any _ _ _ _).mono ?_; rintro e w' ⟨rfl, rfl⟩; rw [hw])
    go_ret
    exact ⟨_, rfl, ErrIf.no (by simp [okG]; intro _ h; omega), Below.refl _ _⟩
  have hw' := within_iff.1 hw
  go_enter Try.func86, Try.ntmps86
  go_wp2_with (go_at_call 58; refine (within_any _ _ _ _).mono ?_; rintro e w' ⟨rfl, rfl⟩; rw [hw])
  go_loopw [17] (fun i wr => ∃ k : Nat, k ≤ ls.length ∧ i = .int .i64 k ∧ (ls.take k).all (okL n) = true ∧ Below w.heap.size w wr) (fun i _ => ls.length - (intOf i).toNat)
  case atStart => exact ⟨0, by omega, rfl, by simp, Below.refl _ _⟩
  case round =>
    obtain ⟨k, hk, rfl, hall, hB⟩ := hrel
    have Hall := Lib.hid hall; clear hall
    by_cases hlt : k < ls.length
    · obtain ⟨x, y, b, off, hlk, rfl, hc1, hc2⟩ := (hx.ext hB).line hlt
      have Hx := Lib.hid hx; clear hx
      have hr2 := rd_two (wr.alloc (.cells #[.int .i64 x, .int .i64 y] 37)) (.int .i64 x) (.int .i64 y) 3
      rw [World.size_alloc] at hr2
      have Hr := Lib.hid hr2; clear hr2
      have hB2 : Below w.heap.size w ((wr.alloc (.cells #[.int .i64 x, .int .i64 y] 37)).alloc (.cells #[.int .i64 x, .int .i64 y] 3)) := (hB.alloc hB.size _).alloc (by have := hB.size; simp; omega) _
      cases h1 : ([x, y].all fun z => within z 0 (n - 1)) with
      | false =>
        have H1 := Lib.hid h1; clear h1
        go_wp2_with (go_at_call 54; refine (all_any _ _ [x, y] _ _ _ Hr.out (by unfold maxLen; simp)).mono ?_; rintro e w' ⟨rfl, rfl⟩; rw [H1.out])
        go_ret
        exact ⟨_, rfl, ErrIf.no (okG_bad hlk.out (by have := H1.out; simp at this; simp [okL]; intro a b; rw [this a] at b; cases b)), hB2⟩
      | true =>
        have H1 := Lib.hid h1; clear h1
        cases h2 : x == y with
        | true =>
          go_wp2_with (go_at_call 54; refine (all_any _ _ [x, y] _ _ _ Hr.out (by unfold maxLen; simp)).mono ?_; rintro e w' ⟨rfl, rfl⟩; rw [H1.out])
          go_ret
          exact ⟨_, rfl, ErrIf.no (okG_bad hlk.out (by simp [okL, h2])), hB2⟩
        | false =>
          have hok : okL n (x, y) = true := by have := H1.out; simp at this; simp [okL, this, h2]
          have Hok := Lib.hid hok; clear hok
          go_wp2_with (go_at_call 54; refine (all_any _ _ [x, y] _ _ _ Hr.out (by unfold maxLen; simp)).mono ?_; rintro e w' ⟨rfl, rfl⟩; rw [H1.out])
          go_roundw
          case rel => exact ⟨k + 1, by omega, by go_num, by rw [take_snoc hlk.out, List.all_append, Hall.out]; simp [Hok.out], hB2⟩
          case measure => simp [intOf]; omega
    · go_wp2
      go_ret
      refine ⟨_, rfl, ErrIf.yes ?_, hB⟩
      have := Hall.out
      rw [List.take_of_length_le (by omega)] at this
      simp [okG, hw, this]; omega

theorem gcheck_any (n : Int) (a : Option Addr) (cap : Nat) (ls : List (Int × Int)) (w : World) (hx : Rd w a (lcells ls)) (hn : ls.length ≤ maxLen) :
    Calls Try.prog 64 #[.int .i64 n, .slice a ls.length cap] w fun e w' => ∃ v, e = .returned v ∧ ErrIf (okG n ls) v ∧ Ext w w' := by
  go_enter Try.func64, Try.ntmps64
  go_wp2_with (go_at_call 86; refine (check_any n a cap ls _ hx hn).mono ?_; rintro e w' ⟨v, rfl, h1, h2⟩)
  go_ret
  exact ⟨v, rfl, h1, h2⟩
end Go.Proofs.Ythalhapbllbefaa
