/- Arguments that read as data, opened to the words of the walks. -/
import Derived.Test.YtiebfnchimfjiaaRows
import Derived.Test.YtiebfnchimfjiaaMem
import Derived.ProofKit
import Derived.OpenShut
import Derived.ChangeOld
import Derived.Deep.Slices
namespace Go.Proofs.Ytiebfnchimfjiaa
open Go.ChangeShapes Go.WideShapes Go.ChangeAt Go.RowKit Go.Deep

theorem own : ownKnob Try.prog.godebug = none := by kernel_rfl
theorem laidOut : laidOutB Try.prog = true := by kernel_rfl
theorem one3 : Try.prog.cellsOf 3 = 1 := by kernel_rfl
theorem one23 : Try.prog.cellsOf 23 = 1 := by kernel_rfl

variable {H : Type} {enc : TypeId × Value → H} {W : World} {base : Nat} {spare : Nat → Bool} {held : Bool}
theorem ints_of_trod {fuel : Nat} {v : Value} {x : DataW H × List MemPlace} (h : DataW.trod enc Try.prog W base spare held fuel 23 [v] = some x) : ∃ xs, Ints W W.heap.size v xs := by
  rcases open_slice1 Try.underlying23 one3 h with ⟨hcs, _⟩ | ⟨a, len, cap, m, n, V, D, Pl, hcs, _, hl, hm, hmm, _, hi⟩
  · simp at hcs; subst hcs; exact ⟨[], Sl.nil⟩
  · simp at hcs; subst hcs
    have hle : len ≤ m := by rw [hmm]; split <;> omega
    have hint : ∀ i, i < len → ∃ z : Int, V i = .int .i64 z := fun i hlt => by
      obtain ⟨z, hz, _⟩ := DataW.trod_int Try.underlying3 (hi i (by omega)).2
      exact ⟨z, by simpa using hz⟩
    refine ⟨(List.range len).map fun i => (intOf (V i)), some a, cap, by simp, by simpa using hl, hm, fun i v hv => ?_⟩
    have hlt : i < len := by have := (List.getElem?_eq_some_iff.1 hv).1; simpa using this
    simp [hlt] at hv
    obtain ⟨z, hz⟩ := hint i hlt
    have hc := (hi i (by omega)).1
    refine ⟨a, rfl, ?_, ?_⟩
    · have := World.block_lt_of_cell? W _ hc; rwa [block_of_add] at this
    · rw [hc, ← hv, hz]; rfl
theorem rows_of_trod {fuel : Nat} {v : Value} {x : DataW H × List MemPlace} (h : DataW.trod enc Try.prog W base spare held fuel 22 [v] = some x) : ∃ g, Rows2 W W.heap.size v g := by
  rcases open_slice1 Try.underlying22 one23 h with ⟨hcs, _⟩ | ⟨a, len, cap, m, n, V, D, Pl, hcs, _, hl, hm, hmm, _, hi⟩
  · simp at hcs; subst hcs; exact ⟨[], [], Sl.nil, rfl, fun i u x hu => by simp at hu⟩
  · simp at hcs; subst hcs
    have hle : len ≤ m := by rw [hmm]; split <;> omega
    have hint : ∀ i, ∃ xs, i < len → Ints W W.heap.size (V i) xs := fun i => by
      by_cases hlt : i < len
      · obtain ⟨xs, hx⟩ := ints_of_trod (hi i (by omega)).2
        exact ⟨xs, fun _ => hx⟩
      · exact ⟨[], fun h => absurd h hlt⟩
    obtain ⟨F, hF⟩ : ∃ F : Nat → List Int, ∀ i, i < len → Ints W W.heap.size (V i) (F i) := ⟨fun i => Classical.choose (hint i), fun i => Classical.choose_spec (hint i)⟩
    refine ⟨(List.range len).map F, (List.range len).map V, ⟨some a, cap, by simp, by simpa using hl, hm, fun i v hv => ?_⟩, by simp, fun i u x hu hx => ?_⟩
    · have hlt : i < len := by have := (List.getElem?_eq_some_iff.1 hv).1; simpa using this
      simp [hlt] at hv
      have hc := (hi i (by omega)).1
      refine ⟨a, rfl, ?_, by rw [hc, hv]⟩
      have := World.block_lt_of_cell? W _ hc; rwa [block_of_add] at this
    · have hlt : i < len := by have := (List.getElem?_eq_some_iff.1 hu).1; simpa using this
      simp [hlt] at hu hx
      subst hu; subst hx
      exact hF i hlt
theorem ints_of {r : Reach} {b0 : Nat} {v : Value} {d : DataW H} {p : List MemPlace} (hv : Value.okWide Try.prog W r b0 23 v) (h : DataW.Trod enc Try.prog W base spare held 23 v d p) : ∃ xs, Ints W W.heap.size v xs := by
  obtain ⟨a, len, cap, rfl⟩ := okWide_slice Try.underlying23 hv
  obtain ⟨fuel, hf⟩ := h
  exact ints_of_trod (fuel := fuel) (x := (d, p)) (by simpa [Value.cells] using hf)
theorem rows_of {r : Reach} {b0 : Nat} {v : Value} {d : DataW H} {p : List MemPlace} (hv : Value.okWide Try.prog W r b0 22 v) (h : DataW.Trod enc Try.prog W base spare held 22 v d p) : ∃ g, Rows2 W W.heap.size v g := by
  obtain ⟨a, len, cap, rfl⟩ := okWide_slice Try.underlying22 hv
  obtain ⟨fuel, hf⟩ := h
  exact rows_of_trod (fuel := fuel) (x := (d, p)) (by simpa [Value.cells] using hf)
end Go.Proofs.Ytiebfnchimfjiaa
