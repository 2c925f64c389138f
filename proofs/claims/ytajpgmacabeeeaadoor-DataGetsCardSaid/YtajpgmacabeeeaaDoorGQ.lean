/- Steps that came in, opened. -/
import Derived.Test.YtajpgmacabeeeaaDoorGM
import Derived.Test.YtajpgmacabeeeaaDoorGI

/- Steps that came in, opened. -/
namespace Go.Proofs.YtajpgmacabeeeaaDoor
open Go.ChangeShapes Go.WideShapes Go.ChangeAt Go.RowKit Go.Deep

theorem cellsStep : Tryd.prog.cellsOf 48 = 2 := by kernel_rfl
section
variable {H : Type} {enc : TypeId × Value → H} {W : World} {base : Nat} {spare : Nat → Bool} {held : Bool}
set_option maxRecDepth 20000 in
theorem steps_of {r : Reach} {b0 : Nat} {v : Value} {d : DataW H} {p : List MemPlace} (hv : Value.okWide Tryd.prog W r b0 35 v) (h : DataW.Trod enc Tryd.prog W base spare held 35 v d p) :
    ∃ l, StepsR W W.heap.size v l := by
  obtain ⟨a0, len0, cap0, rfl⟩ := okWide_slice Tryd.underlying35 hv
  obtain ⟨f, hf⟩ := h
  have hf' : DataW.trod enc Tryd.prog W base spare held f 35 [.slice a0 len0 cap0] = some (d, p) := by simpa [Value.cells] using hf
  rcases DataW.trod_slice Tryd.underlying35 hf' with ⟨hcs, _⟩ | ⟨ad, len, cap, elems, rest, n', hn', hcs, _, _, hle, hm, hel, hget, _⟩
  · simp at hcs
    obtain ⟨rfl, rfl, rfl⟩ := hcs
    exact ⟨[], none, 0, rfl, Nat.le_refl _, Nat.zero_le _, fun i s h => by simp at h⟩
  · simp at hcs
    obtain ⟨rfl, rfl, rfl⟩ := hcs
    have key : ∀ i, ∃ s : Sp, i < len0 → W.cell? (ad.add (i * 2)) = some (.string s.1) ∧ W.cell? ⟨(ad.add (i * 2)).block, (ad.add (i * 2)).off + 1, none⟩ = some (.int .i64 s.2) := fun i => by
      by_cases hi : i < len0
      · have hg := hget i hi
        rw [cellsStep] at hg
        have hi' : i < elems.length := by omega
        rw [List.getElem?_eq_getElem hi', Option.bind_eq_some_iff] at hg
        obtain ⟨cs', hc, ht⟩ := hg
        obtain ⟨hcl, hcell⟩ := cells_get hc
        obtain ⟨t0, t1, n2, hn2, _, y0, y1⟩ := trod_two Tryd.underlying48 ht
        match cs', hcl with
        | [v0, v1], _ =>
          simp only [cellsString, cellsInt] at y0 y1
          obtain ⟨s0, e0, _⟩ := DataW.trod_string Tryd.underlying9 y0
          obtain ⟨z1, e1, _⟩ := DataW.trod_int Tryd.underlying3 y1
          simp at e0 e1
          subst e0 e1
          exact ⟨(s0, z1), fun _ => ⟨hcell 0 (by omega), by rw [← add_pos _ 1 (by omega)]; exact hcell 1 (by omega)⟩⟩
      · exact ⟨(ByteArray.empty, 0), fun h => absurd h hi⟩
    obtain ⟨F, hF⟩ : ∃ F : Nat → Sp, ∀ i, i < len0 → W.cell? (ad.add (i * 2)) = some (.string (F i).1) ∧ W.cell? ⟨(ad.add (i * 2)).block, (ad.add (i * 2)).off + 1, none⟩ = some (.int .i64 (F i).2) := ⟨fun i => Classical.choose (key i), fun i => Classical.choose_spec (key i)⟩
    refine ⟨(List.range len0).map F, some ad, cap0, by simp, by simpa using hle, hm, fun i s hs => ?_⟩
    have hlt : i < len0 := by have := (List.getElem?_eq_some_iff.1 hs).1; simpa using this
    simp [hlt] at hs
    subst hs
    refine ⟨ad, rfl, ?_, hF i hlt⟩
    have := World.block_lt_of_cell? W _ (hF i hlt).1
    rwa [block_of_add] at this
end
end Go.Proofs.YtajpgmacabeeeaaDoor
