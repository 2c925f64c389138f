/- Arguments that read as data, opened to the words of the walks. -/
import Derived.Test.YtbfgnafpianliaaRows
import Derived.Test.YtbfgnafpianliaaEd
import Derived.ProofKit
import Derived.OpenShut
import Derived.ShutString
import Derived.ChangeOld
import Derived.Deep.Slices
import Derived.Deep.Strs
namespace Go.Proofs.Ytbfgnafpianliaa
open Go.ChangeShapes Go.WideShapes Go.ChangeAt Go.RowKit Go.Deep

theorem own : ownKnob Try.prog.godebug = none := by kernel_rfl
theorem laidOut : laidOutB Try.prog = true := by kernel_rfl
theorem three35 : Try.prog.cellsOf 35 = 3 := by kernel_rfl
theorem one3 : Try.prog.cellsOf 3 = 1 := by kernel_rfl
theorem one9 : Try.prog.cellsOf 9 = 1 := by kernel_rfl

theorem cells3 {w : World} {base : Nat} {p : Addr} {cs : List Value} (h : w.cells? base p 3 = some cs) :
    ∃ a b c, cs = [a, b, c] ∧ w.cell? p = some a ∧ w.cell? ⟨p.block, p.off + 1, none⟩ = some b ∧ w.cell? ⟨p.block, p.off + 2, none⟩ = some c := by
  unfold World.cells? at h
  split at h
  · have e : List.range 3 = [0, 1, 2] := rfl
    rw [e] at h
    have e0 : p.add 0 = p := rfl
    have e1 : p.add 1 = ⟨p.block, p.off + 1, none⟩ := rfl
    have e2 : p.add 2 = ⟨p.block, p.off + 2, none⟩ := rfl
    simp only [List.mapM_cons, List.mapM_nil, e0, e1, e2] at h
    cases h0 : w.cell? p with
    | none => rw [h0] at h; cases h
    | some a =>
      cases h1 : w.cell? ⟨p.block, p.off + 1, none⟩ with
      | none => rw [h0, h1] at h; cases h
      | some b =>
        cases h2 : w.cell? ⟨p.block, p.off + 2, none⟩ with
        | none => rw [h0, h1, h2] at h; cases h
        | some c =>
          rw [h0, h1, h2] at h
          injection h with h
          exact ⟨a, b, c, h.symm, rfl, rfl, rfl⟩
  · cases h

variable {H : Type} {enc : TypeId × Value → H} {W : World} {base : Nat} {spare : Nat → Bool} {held : Bool}
theorem ed_of_trod {fuel : Nat} {cs : List Value} {x : DataW H × List MemPlace} (h : DataW.trod enc Try.prog W base spare held fuel 35 cs = some x) :
    ∃ e : Ed, cs = [.int .i64 e.fr, .int .i64 e.to, .string e.tx] ∧ e.to ≤ 9223372036854775807 ∧ e.tx.size ≤ maxLen := by
  obtain ⟨y0, y1, y2, n, _, hl, h0, h1, h2⟩ := trod_struct3 Try.underlying35 h
  rw [three35] at hl
  match cs, hl with
  | [a, b, c], _ =>
    simp only [one3, one9] at h0 h1 h2
    obtain ⟨z0, e0, _⟩ := DataW.trod_int Try.underlying3 h0
    obtain ⟨z1, e1, _, hw1⟩ := DataW.trod_int Try.underlying3 h1
    obtain ⟨z2, e2, _, hs⟩ := DataW.trod_string Try.underlying9 h2
    simp at e0 e1 e2
    refine ⟨⟨z0, z1, z2⟩, by rw [e0, e1, e2], ?_, hs⟩
    simp [Lit.wf] at hw1
    have : IntKind.max .i64 = 9223372036854775807 := by rfl
    show z1 ≤ 9223372036854775807
    omega

theorem eds_of {r : Reach} {b0 : Nat} {v : Value} {d : DataW H} {p : List MemPlace} (hv : Value.okWide Try.prog W r b0 22 v) (h : DataW.Trod enc Try.prog W base spare held 22 v d p) :
    ∃ es, Eds W W.heap.size v es ∧ (∀ e ∈ es, e.to ≤ 9223372036854775807) ∧ (∀ e ∈ es, e.tx.size ≤ maxLen) := by
  obtain ⟨a0, len0, cap0, rfl⟩ := okWide_slice Try.underlying22 hv
  obtain ⟨fuel, hf⟩ := h
  have hf' : DataW.trod enc Try.prog W base spare held fuel 22 [.slice a0 len0 cap0] = some (d, p) := by simpa [Value.cells] using hf
  rcases open_slice Try.underlying22 hf' with ⟨hcs, _⟩ | ⟨a, len, cap, m, n, D, Pl, hcs, _, hl, hm, hmm, _, hi⟩
  · simp at hcs
    obtain ⟨rfl, rfl, rfl⟩ := hcs
    exact ⟨[], Eds.nil, (fun e he => by cases he), (fun e he => by cases he)⟩
  · simp at hcs
    obtain ⟨rfl, rfl, rfl⟩ := hcs
    have hle : len0 ≤ m := by rw [hmm]; split <;> omega
    have key : ∀ i, ∃ e : Ed, i < len0 → e.to ≤ 9223372036854775807 ∧ e.tx.size ≤ maxLen ∧ W.cell? (a.add (i * 3)) = some (.int .i64 e.fr) ∧
        W.cell? ⟨(a.add (i * 3)).block, (a.add (i * 3)).off + 1, none⟩ = some (.int .i64 e.to) ∧ W.cell? ⟨(a.add (i * 3)).block, (a.add (i * 3)).off + 2, none⟩ = some (.string e.tx) := fun i => by
      by_cases hlt : i < len0
      · obtain ⟨cs', hc, ht⟩ := hi i (by omega)
        rw [three35] at hc
        obtain ⟨u0, u1, u2, rfl, c0, c1, c2⟩ := cells3 hc
        obtain ⟨e, he, h1, h2⟩ := ed_of_trod ht
        simp at he
        obtain ⟨rfl, rfl, rfl⟩ := he
        exact ⟨e, fun _ => ⟨h1, h2, c0, c1, c2⟩⟩
      · exact ⟨⟨0, 0, ByteArray.empty⟩, fun h => absurd h hlt⟩
    obtain ⟨F, hF⟩ : ∃ F : Nat → Ed, ∀ i, i < len0 → (F i).to ≤ 9223372036854775807 ∧ (F i).tx.size ≤ maxLen ∧ W.cell? (a.add (i * 3)) = some (.int .i64 (F i).fr) ∧
        W.cell? ⟨(a.add (i * 3)).block, (a.add (i * 3)).off + 1, none⟩ = some (.int .i64 (F i).to) ∧ W.cell? ⟨(a.add (i * 3)).block, (a.add (i * 3)).off + 2, none⟩ = some (.string (F i).tx) :=
      ⟨fun i => Classical.choose (key i), fun i => Classical.choose_spec (key i)⟩
    refine ⟨(List.range len0).map F, ⟨some a, cap0, by simp, by simpa using hl, hm, fun i e he => ?_⟩, fun e he => ?_, fun e he => ?_⟩
    · have hlt : i < len0 := by have := (List.getElem?_eq_some_iff.1 he).1; simpa using this
      simp [hlt] at he
      subst he
      obtain ⟨_, _, c0, c1, c2⟩ := hF i hlt
      refine ⟨a, rfl, ?_, c0, c1, c2⟩
      have := World.block_lt_of_cell? W _ c0
      rwa [block_of_add] at this
    · obtain ⟨i, hi', rfl⟩ := List.mem_map.1 he
      exact (hF i (List.mem_range.1 hi')).1
    · obtain ⟨i, hi', rfl⟩ := List.mem_map.1 he
      exact (hF i (List.mem_range.1 hi')).2.1
end Go.Proofs.Ytbfgnafpianliaa
