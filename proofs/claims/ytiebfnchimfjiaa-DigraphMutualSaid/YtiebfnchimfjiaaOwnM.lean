/- Rows of ints that a call makes and appends to, held in one row. -/
import Derived.Test.YtiebfnchimfjiaaS1
namespace Go.Proofs.Ytiebfnchimfjiaa
open Go.RowKit

/-- Block R holds n slices; each is nil or owns a row of its own. -/
structure OwnM (w0 w : World) (R n : Nat) (rows : Nat → List Int) (vals : Nat → Value) : Prop where
  below : Below R w0 w
  outer : RowF w R 23 n vals
  own : ∀ b, b < n → w.ownsRow (R + 1) 3 1 (vals b) (rows b).length ((rows b).map (.int .i64))
  apart : ∀ b b', b < n → b' < n → b ≠ b' → ∀ k, (vals b).ownBlock = some k → (vals b').ownBlock ≠ some k

variable {w0 w w' : World} {R n : Nat} {rows rows' : Nat → List Int} {vals : Nat → Value}
theorem OwnM.start (w : World) (n : Nat) : OwnM w (w.alloc (.cells (madeCells #[.slice none 0 0] n) 23)) w.heap.size n (fun _ => []) (fun _ => .slice none 0 0) :=
  ⟨(Below.refl _ _).alloc (Nat.le_refl _) _, RowF.made w 23 _ n, fun _ _ => World.ownsRow_nil _ _ _ _, fun _ _ _ _ _ k h => by simp [Value.ownBlock] at h⟩
theorem OwnM.drewN (h : OwnM w0 w R n rows vals) (k : Nat) : OwnM w0 (w.drewN k) R n rows vals :=
  ⟨below_drewN h.below k, h.outer, h.own, h.apart⟩
theorem OwnM.congr (h : OwnM w0 w R n rows vals) (he : ∀ b, b < n → rows b = rows' b) : OwnM w0 w R n rows' vals :=
  ⟨h.below, h.outer, fun b hb => by have := h.own b hb; rwa [he b hb] at this, h.apart⟩
theorem OwnM.form (h : OwnM w0 w R n rows vals) {b : Nat} (hb : b < n) : ∃ A c, vals b = .slice A (rows b).length c ∧ c ≤ maxLen ∧ (rows b).length ≤ c ∧
    ∀ i x, (rows b)[i]? = some x → ∃ ad, A = some ad ∧ w.cell? (ad.add i) = some (.int .i64 x) := by
  obtain ⟨A, c, e, h1, h2, h3⟩ := Sl.of_own (h.own b hb)
  rw [List.length_map] at e h1
  exact ⟨A, c, e, h2, h1, fun i x hx => by
    obtain ⟨ad, ha, _, hc⟩ := h3 i (.int .i64 x) (by rw [List.getElem?_map, hx]; rfl)
    exact ⟨ad, ha, hc⟩⟩
/-- The element has been laid, the append done: then the new slice is stored. -/
theorem OwnM.store (h : OwnM w0 w R n rows vals) {b : Nat} (hb : b < n) {x : Int} {o : Obj} {g cap : Nat}
    (hown : w'.ownsRow (R + 1) 3 1 (.slice (some ⟨g, 0, none⟩) ((rows b).length + 1) cap) ((rows b).length + 1) ((rows b).map (.int .i64) ++ [.int .i64 x]))
    (hg : (w.alloc o).grownBy w' (vals b).ownBlock) (hat : (vals b).ownBlock = some g ∨ g = (w.alloc o).heap.size) :
    OwnM w0 (w'.setCell ⟨R, b, none⟩ (.slice (some ⟨g, 0, none⟩) ((rows b).length + 1) cap)) R n
      (fun j => if j = b then rows b ++ [x] else rows j) (fun j => if j = b then .slice (some ⟨g, 0, none⟩) ((rows b).length + 1) cap else vals j) := by
  have hRlt := h.outer.lt
  have hsz : (w.alloc o).heap.size = w.heap.size + 1 := World.size_alloc _ _
  have hlt := (h.own b hb).lt
  have hrow : ∀ k, (vals b).ownBlock = some k → R + 1 ≤ k := fun k hk => (hlt k hk).1
  refine ⟨?_, ?_, fun j hj => ?_, fun i j hi hj hne k hk => ?_⟩
  · exact ((h.below.alloc (by omega) o).grown hg (by omega) (fun k hk => by have := hrow k hk; omega)).setCell (Nat.le_refl _) _
  · have h1 : RowF w' R 23 n vals := Row.grown (Row.alloc h.outer o) hg (fun e => by have := hrow R e.symm; omega)
    exact h1.store b _
  · by_cases e : j = b
    · subst e
      simp only [if_true]
      have := ownsRow_setCell_below hown (a := ⟨R, j, none⟩) (by simp) (.slice (some ⟨g, 0, none⟩) ((rows j).length + 1) cap)
      simpa using this
    · simp only [if_neg e]
      refine ownsRow_setCell_below (((h.own j hj).alloc o).kept hg ?_) (a := ⟨R, b, none⟩) (by simp) _
      cases e1 : (vals j).ownBlock with
      | none => exact .inl rfl
      | some k => exact .inr fun e2 => h.apart j b hj hb e k e1 e2.symm
  · by_cases e : i = b
    · subst e
      simp only [if_true] at hk
      rw [if_neg (Ne.symm hne)]
      have hk' : g = k := by simpa [Value.ownBlock] using hk
      subst hk'
      rcases hat with h1 | h1
      · exact h.apart i j hi hj hne _ h1
      · intro h2
        have := ((h.own j hj).lt _ h2).2
        omega
    · rw [if_neg e] at hk
      by_cases e' : j = b
      · subst e'
        rw [if_pos rfl]
        intro h2
        have h2' : g = k := by simpa [Value.ownBlock] using h2
        subst h2'
        rcases hat with h1 | h1
        · exact h.apart i j hi hj e _ hk h1
        · have := ((h.own i hi).lt _ hk).2
          omega
      · rw [if_neg e']; exact h.apart i j hi hj hne k hk
theorem OwnM.reads (h : OwnM w0 w R n rows vals) (hn : n ≤ maxLen) : Rows2 w w.heap.size (.slice (some ⟨R, 0, none⟩) n n) ((List.range n).map rows) := by
  refine ⟨(List.range n).map vals, Sl.of_rowF h.outer h.outer.lt hn, by simp, fun i u x hu hx => ?_⟩
  have hi : i < n := by
    have := (List.getElem?_eq_some_iff.1 hx).1; simpa using this
  simp [hi] at hu hx
  subst hu; subst hx
  exact Sl.of_own (h.own i hi)
end Go.Proofs.Ytiebfnchimfjiaa
