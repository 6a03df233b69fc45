/- A slice of lines that came in, opened: numbers, cells that can be read. -/
import Derived.Test.YthalhapbllbefaaRows
import Derived.Test.YthalhapbllbefaaCheck
import Derived.WalkKit
import Derived.ProofKit
import Derived.OpenShut
import Derived.ChangeOld
import Derived.Below
import Derived.Carry
import Derived.Deep.SlicePairs
namespace Go.Proofs.Ythalhapbllbefaa
open Go.ChangeShapes Go.WideShapes Go.ChangeAt Go.RowKit Go.Deep

theorem own : ownKnob Try.prog.godebug = none := by kernel_rfl
theorem laidOut : laidOutB Try.prog = true := by kernel_rfl
theorem cellsLine : Try.prog.cellsOf 37 = 2 := by kernel_rfl
theorem cellsInt : Try.prog.cellsOf 3 = 1 := by kernel_rfl

theorem add_none (b off j : Nat) : (⟨b, off, none⟩ : Addr).add j = ⟨b, off + j, none⟩ := by unfold Addr.add; split <;> simp_all
theorem spot_of_add {W : World} {x : Addr} {v : Value} (h : W.cell? (x.add 0) = some v) : x.spot = none := by simpa [Addr.add] using World.cell?_spot h
theorem cells_of_fn {W : World} {x : Addr} {len : Nat} {V0 V1 : Nat → Int} (h : ∀ i, i < len → W.cell? (x.add (i * 2)) = some (.int .i64 (V0 i)) ∧ W.cell? (x.add (i * 2 + 1)) = some (.int .i64 (V1 i))) :
    Rd W (some x) (lcells ((List.range len).map fun i => (V0 i, V1 i))) := by
  intro i v hi
  have hlt : i < len * 2 := by
    have := (List.getElem?_eq_some_iff.1 hi).1
    rw [lcells_length] at this
    simpa using this
  have hk : i / 2 < ((List.range len).map fun i => (V0 i, V1 i)).length := by simp; omega
  have hg := lcells_get hk
  have hget : ((List.range len).map fun i => (V0 i, V1 i))[i / 2]?.getD (0, 0) = (V0 (i / 2), V1 (i / 2)) := by
    have hk' : i / 2 < len := by omega
    simp [hk']
  rw [hget] at hg
  obtain ⟨h1, h2⟩ := h (i / 2) (by omega)
  have hspot := spot_of_add (h 0 (by omega)).1
  obtain ⟨b, off, spot⟩ := x
  subst hspot
  refine ⟨b, off, rfl, ?_⟩
  rw [add_none] at h1 h2
  have key : ∀ j u, (lcells ((List.range len).map fun i => (V0 i, V1 i)))[j]? = some u → i = j → W.cell? ⟨b, off + j, none⟩ = some u → W.cell? ⟨b, off + i, none⟩ = some v := fun j u hj e hc => by
    subst e
    rw [hj] at hi
    rw [hc, hi]
  rcases Nat.mod_two_eq_zero_or_one i with hm | hm
  · exact key _ _ hg.1 (by omega) h1
  · exact key _ _ hg.2 (by omega) h2

theorem open_lines {H : Type} {enc : TypeId × Value → H} {W : World} {a : Option Addr} {len cap : Nat} {d : DataW H} {p : List MemPlace} (h : DataW.Trod enc Try.prog W 0 (fun _ => true) true 33 (.slice a len cap) d p) :
    ∃ ls : List (Int × Int), ls.length = len ∧ Rd W a (lcells ls) ∧ len ≤ maxLen := by
  obtain ⟨fuel, hf⟩ := h
  rcases open_slice_pairs Try.underlying33 Try.underlying37 cellsLine rfl rfl cellsInt cellsInt hf with ⟨hcs, _⟩ | ⟨x, l, c, m, n, V0, V1, D0, D1, P0, P1, hcs, _, hl, hm, hmm, _, hrow⟩
  · simp [Value.cells] at hcs
    obtain ⟨rfl, rfl, rfl⟩ := hcs
    exact ⟨[], rfl, Rd.nil _ _, by unfold maxLen; omega⟩
  · simp [Value.cells] at hcs
    obtain ⟨rfl, rfl, rfl⟩ := hcs
    have hmm' : m = cap := by simpa using hmm
    have hv : ∀ i, ∃ u v : Int, i < len → W.cell? (x.add (i * 2)) = some (.int .i64 u) ∧ W.cell? (x.add (i * 2 + 1)) = some (.int .i64 v) := fun i => by
      by_cases hi : i < len
      · obtain ⟨h1, h2, h3, h4⟩ := hrow i (by omega)
        obtain ⟨u, hu, _⟩ := DataW.trod_int Try.underlying3 h3
        obtain ⟨v, hv, _⟩ := DataW.trod_int Try.underlying3 h4
        simp only [List.cons.injEq, and_true] at hu hv
        rw [hu] at h1
        rw [hv] at h2
        exact ⟨u, v, fun _ => ⟨h1, h2⟩⟩
      · exact ⟨0, 0, fun h => absurd h hi⟩
    refine ⟨(List.range len).map fun i => ((hv i).choose, (hv i).choose_spec.choose), by simp, cells_of_fn fun i hi => (hv i).choose_spec.choose_spec hi, by omega⟩
end Go.Proofs.Ythalhapbllbefaa
