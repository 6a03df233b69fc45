/- Out and Beside: to which points lines go. -/
import Derived.StillTailTactics
import Derived.Deep.OwnRows
import Derived.Test.YthalhapbllbefaaCheck
import Derived.Test.YthalhapbllbefaaOutP
namespace Go.Proofs.Ythalhapbllbefaa
open Go.RowKit

def sv (s : Nat) : Value := .int .u64 (s : Int)
def nv (l : Nat × Nat) : List Value := [iv l.1, iv l.2]
def lcn (gs : List (Nat × Nat)) : List Value := gs.flatMap nv
theorem infoSet : (Try.prog.info? 67).map (fun i => (i.zero, i.size, i.bytes)) = some (some (.int .u64 0), 1, 8) := by kernel_rfl

theorem lcn_get {gs : List (Nat × Nat)} {k : Nat} {l : Nat × Nat} (h : gs[k]? = some l) : (lcn gs)[k * 2]? = some (iv l.1) ∧ (lcn gs)[k * 2 + 1]? = some (iv l.2) := by
  induction gs generalizing k with
  | nil => simp at h
  | cons g gs ih =>
    cases k with
    | zero => simp at h; subst h; simp [lcn, nv]
    | succ k =>
      have := ih (k := k) (by simpa using h)
      simp only [lcn, List.flatMap_cons, Nat.add_mul] at *
      simpa [nv] using this
theorem Rd.nline {W : World} {a : Option Addr} {gs : List (Nat × Nat)} (hx : Rd W a (lcn gs)) {k : Nat} (h : k < gs.length) :
    ∃ x y b off, Hid (gs[k]? = some (x, y)) ∧ a = some ⟨b, off, none⟩ ∧ W.cell? ⟨b, off + k * 2, none⟩ = some (.int .i64 (x : Nat)) ∧ W.cell? ⟨b, off + k * 2 + 1, none⟩ = some (.int .i64 (y : Nat)) := by
  have h1 := lcn_get (List.getElem?_eq_getElem h)
  obtain ⟨b, off, rfl, hc⟩ := hx.get h1.1
  obtain ⟨b', off', e, hc'⟩ := hx.get h1.2
  cases e
  exact ⟨gs[k].1, gs[k].2, b, off, List.getElem?_eq_getElem h, rfl, by simpa [iv] using hc, by simpa [iv, Nat.add_assoc] using hc'⟩

set_option maxRecDepth 100000 in
set_option maxHeartbeats 1000000 in
theorem out_any (n : Nat) (a : Option Addr) (cap : Nat) (gs : List (Nat × Nat)) (w : World) (hx : Rd w a (lcn gs)) (hlen : gs.length ≤ 64) (hn : n ≤ 64) (hg : ∀ l ∈ gs, l.1 < n ∧ l.2 < 64) :
    Calls Try.prog 59 #[.int .i64 n, .slice a gs.length cap] w fun e w' => ∃ v, e = .returned v ∧ NewRow w' w.heap.size 67 v ((outs n gs).map sv) ∧ Ext w w' := by
  have hmk := run_make_row' 78 67 (.int .u64 0) 8 Try.underlying78 infoSet rfl .i64 .i64 n (by omega) (by omega)
  go_enter Try.func59, Try.ntmps59
  go_wp2
  clear hmk
  have hrow := RowAt.made w 67 (.int .u64 0) n
  have hB0 : Below w.heap.size w (w.alloc (.cells (madeCells #[.int .u64 0] n) 67)) := (Below.refl _ w).alloc (Nat.le_refl _) _
  go_loopw [12] (fun i wr => ∃ k : Nat, k ≤ gs.length ∧ i = .int .i64 k ∧ RowAt wr w.heap.size 67 ((outs n (gs.take k)).map sv) ∧ Below w.heap.size w wr) (fun i _ => gs.length - (intOf i).toNat)
  case atStart => exact ⟨0, by omega, rfl, by simpa [outs, sv] using hrow, hB0⟩
  case round =>
    obtain ⟨k, hk, rfl, hrw, hB⟩ := hrel
    clear hrow hB0
    have hBs := hrw.lt
    by_cases hlt : k < gs.length
    · obtain ⟨x, y, b, off, hlk, rfl, hc1, hc2⟩ := (hx.ext hB).nline hlt
      have Hx := Lib.hid hx; clear hx
      obtain ⟨hx1, hy1⟩ := hg _ (mem_of_get hlk.out)
      obtain ⟨o, ho⟩ : ∃ o, outs n (gs.take k) = o := ⟨_, rfl⟩
      have hol : o.length = n := by rw [← ho]; exact outs_length _ _
      have hoU : ∀ s ∈ o, U64 s := by rw [← ho]; exact outs_U64 (fun l hl => (hg l (List.mem_of_mem_take hl)).2)
      have hos : outs n (gs.take (k + 1)) = o.set x (sIns (o[x]?.getD 0) y) := by rw [take_snoc hlk.out]; unfold outs at ho ⊢; rw [List.foldl_append, ho]; rfl
      rw [ho] at hrw
      have hso := getD_U64 hoU x
      obtain ⟨s, hs⟩ : ∃ s, o[x]?.getD 0 = s := ⟨_, rfl⟩
      rw [hs] at hso hos
      have hcs : wr.cell? ⟨w.heap.size, x, none⟩ = some (.int .u64 (s : Nat)) := hrw.cell (by rw [List.getElem?_map, show o[x]? = some s by rw [← hs]; simp [hol, hx1]]; rfl)
      have hfs := hrw.frozen x
      have Hos := Lib.hid hos; have Hol := Lib.hid hol; have Hs := Lib.hid hs; have HoU := Lib.hid hoU; have Ho := Lib.hid ho; have Hg := Lib.hid hg
      clear hos hol hs hoU ho hg
      go_wp2_with fail
      refine region_tail 11 (by kernel_rfl) (by kernel_rfl) ?_
      simp only [List.take_succ_cons, List.take_zero, List.drop_succ_cons, List.drop_zero]
      repeat still_step
      still_call ((with_any s y _ hso hy1).mono fun e w' h => ⟨h.1, h.2.symm⟩)
      refine wpStill_nil ?_
      go_wp2
      refine ⟨⟨k + 1, by omega, by go_num, ?_, ((hB.setCell (p := ⟨w.heap.size, x, none⟩) (Nat.le_refl _) _).alloc (by simp; omega) _).drew⟩, by simp [intOf]; omega⟩
      rw [Hos.out, List.map_set]
      exact ((hrw.set x (sv (sIns s y))).alloc _).drew
    · have Hg := Lib.hid hg; clear hg
      have e : gs.take k = gs := List.take_of_length_le (by omega)
      rw [e] at hrw
      have hfin : NewRow wr w.heap.size 67 (.slice (some ⟨w.heap.size, 0, none⟩) n n) ((outs n gs).map sv) := ⟨w.heap.size, by rw [List.length_map, outs_length], Nat.le_refl _, hrw⟩
      clear e
      go_wp2
      go_ret
      exact ⟨_, rfl, hfin, hB⟩

set_option maxRecDepth 100000 in
set_option maxHeartbeats 1000000 in
theorem beside_any (n : Nat) (a : Option Addr) (cap : Nat) (gs : List (Nat × Nat)) (w : World) (hx : Rd w a (lcn gs)) (hlen : gs.length ≤ 64) (hn : n ≤ 64) (hg : ∀ l ∈ gs, l.1 < n ∧ l.2 < n) :
    Calls Try.prog 65 #[.int .i64 n, .slice a gs.length cap] w fun e w' => ∃ v, e = .returned v ∧ NewRow w' w.heap.size 67 v ((besides n gs).map sv) ∧ Ext w w' := by
  have Hg := Lib.hid hg
  have hg2 : ∀ l ∈ gs, l.1 < n ∧ l.2 < 64 := fun l hl => ⟨(hg l hl).1, by have := (hg l hl).2; omega⟩
  have Hg2 := Lib.hid hg2
  clear hg hg2
  go_enter Try.func65, Try.ntmps65
  go_wp2_with (go_at_call 59; refine (out_any n a cap gs _ hx hlen hn Hg2.out).mono ?_; rintro e w1 ⟨v, rfl, hr0, hB0⟩)
  obtain ⟨q, rfl, hq, hrow⟩ := hr0
  rw [List.length_map, outs_length]
  go_loopw [13] (fun i wr => ∃ k : Nat, k ≤ gs.length ∧ i = .int .i64 k ∧ RowAt wr q 67 ((besTo n gs k).map sv) ∧ Below w.heap.size w wr) (fun i _ => gs.length - (intOf i).toNat)
  case atStart => exact ⟨0, by omega, rfl, by simpa [besTo] using hrow, hB0⟩
  case round =>
    obtain ⟨k, hk, rfl, hrw, hB⟩ := hrel
    clear hrow hB0
    have hBs := hrw.lt
    by_cases hlt : k < gs.length
    · obtain ⟨x, y, b, off, hlk, rfl, hc1, hc2⟩ := (hx.ext hB).nline hlt
      have Hx := Lib.hid hx; clear hx
      obtain ⟨hx1, hy1⟩ := Hg.out _ (mem_of_get hlk.out)
      have hx64 : x < 64 := by omega
      obtain ⟨o, ho⟩ : ∃ o, besTo n gs k = o := ⟨_, rfl⟩
      have hol : o.length = n := by rw [← ho]; exact besTo_length _ _ _
      have hoU : ∀ s ∈ o, U64 s := by rw [← ho]; exact besTo_U64 (fun l hl => ⟨by have := (Hg.out l hl).1; omega, by have := (Hg.out l hl).2; omega⟩) k
      have hos : besTo n gs (k + 1) = o.set y (sIns (o[y]?.getD 0) x) := by unfold besTo at ho ⊢; rw [take_snoc hlk.out, List.foldl_append, ho]; rfl
      rw [ho] at hrw
      have hso := getD_U64 hoU y
      obtain ⟨s, hs⟩ : ∃ s, o[y]?.getD 0 = s := ⟨_, rfl⟩
      rw [hs] at hso hos
      have hcs : wr.cell? ⟨q, y, none⟩ = some (.int .u64 (s : Nat)) := hrw.cell (by rw [List.getElem?_map, show o[y]? = some s by rw [← hs]; simp [hol, hy1]]; rfl)
      have hfs := hrw.frozen y
      have Hos := Lib.hid hos; have Hol := Lib.hid hol; have Hs := Lib.hid hs; have HoU := Lib.hid hoU; have Ho := Lib.hid ho
      clear hos hol hs hoU ho
      go_wp2_with fail
      refine region_tail 11 (by kernel_rfl) (by kernel_rfl) ?_
      simp only [List.take_succ_cons, List.take_zero, List.drop_succ_cons, List.drop_zero]
      repeat still_step
      still_call ((with_any s x _ hso hx64).mono fun e w' h => ⟨h.1, h.2.symm⟩)
      refine wpStill_nil ?_
      go_wp2
      refine ⟨⟨k + 1, by omega, by go_num, ?_, ((hB.setCell (p := ⟨q, y, none⟩) hq _).alloc (by simp; omega) _).drew⟩, by simp [intOf]; omega⟩
      rw [Hos.out, List.map_set]
      exact ((hrw.set y (sv (sIns s x))).alloc _).drew
    · have e : besTo n gs k = besides n gs := by unfold besTo besides; rw [List.take_of_length_le (by omega)]
      rw [e] at hrw
      have hfin : NewRow wr w.heap.size 67 (.slice (some ⟨q, 0, none⟩) n n) ((besides n gs).map sv) := ⟨q, by rw [List.length_map, besides_length], hq, hrw⟩
      clear e
      go_wp2
      go_ret
      exact ⟨_, rfl, hfin, hB⟩
end Go.Proofs.Ythalhapbllbefaa
