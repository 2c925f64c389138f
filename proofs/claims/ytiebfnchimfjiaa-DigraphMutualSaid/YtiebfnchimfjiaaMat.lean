/- A matrix of bools that a call makes row by row. -/
import Derived.Test.YtiebfnchimfjiaaMem
namespace Go.Proofs.Ytiebfnchimfjiaa
open Go.RowKit

def matL (n : Nat) (m : Nat → Nat → Bool) : List (List Bool) := (List.range n).map fun a => (List.range n).map fun b => m a b
def rowSl (B n a : Nat) : Value := .slice (some ⟨B + 1 + a, 0, none⟩) n n
def upd (m : Nat → Nat → Bool) (a b : Nat) (v : Bool) : Nat → Nat → Bool := fun x y => if x = a ∧ y = b then v else m x y

structure MB (w0 w : World) (B n r : Nat) (m : Nat → Nat → Bool) : Prop where
  below : Below B w0 w
  le : r ≤ n
  size : w.heap.size = B + 1 + r
  outer : Row w B 27 ((List.range n).map fun a => if a < r then rowSl B n a else .slice none 0 0)
  inner : ∀ a, a < r → Row w (B + 1 + a) 4 ((List.range n).map fun b => .bool (m a b))

variable {w0 w : World} {B n r : Nat} {m : Nat → Nat → Bool}
theorem MB.start (w : World) (n : Nat) (m : Nat → Nat → Bool) : MB w (w.alloc (.cells (madeCells #[.slice none 0 0] n) 27)) w.heap.size n 0 m :=
  ⟨(Below.refl _ _).alloc (Nat.le_refl _) _, Nat.zero_le _, by simp, by
    have := Row.made w 27 (.slice none 0 0) n
    rw [replicate_range] at this
    simpa using this, fun a h => absurd h (by omega)⟩
theorem MB.drewN (h : MB w0 w B n r m) (k : Nat) : MB w0 (w.drewN k) B n r m :=
  ⟨below_drewN h.below k, h.le, h.size, h.outer, h.inner⟩
theorem MB.cell (h : MB w0 w B n r m) {a : Nat} (ha : a < r) : w.cell? ⟨B, a, none⟩ = some (rowSl B n a) := by
  have := h.le
  rw [h.outer.cell, List.getElem?_map, List.getElem?_range (by omega)]; simp [ha]
theorem MB.cell0 (h : MB w0 w B n r m) {a : Nat} (ha : r ≤ a) (han : a < n) : w.cell? ⟨B, a, none⟩ = some (.slice none 0 0) := by
  rw [h.outer.cell, List.getElem?_map, List.getElem?_range han]; simp [Nat.not_lt.2 ha]
theorem MB.free (h : MB w0 w B n r m) (a : Nat) : w.frozen? ⟨B, a, none⟩ = false := h.outer.frozen a
theorem MB.get (h : MB w0 w B n r m) {a b : Nat} (ha : a < r) (hb : b < n) : w.cell? ⟨B + 1 + a, b, none⟩ = some (.bool (m a b)) := by
  rw [(h.inner a ha).cell]; simp [hb]
theorem MB.free2 (h : MB w0 w B n r m) {a : Nat} (ha : a < r) (b : Nat) : w.frozen? ⟨B + 1 + a, b, none⟩ = false := (h.inner a ha).frozen b
theorem MB.store (h : MB w0 w B n r m) {a b : Nat} (ha : a < r) (v : Bool) :
    MB w0 (w.setCell ⟨B + 1 + a, b, none⟩ (.bool v)) B n r (upd m a b v) := by
  refine ⟨h.below.setCell (by simp; omega) _, h.le, by simpa [World.setCell] using h.size, h.outer.far (by simp; omega) _, fun x hx => ?_⟩
  by_cases e : x = a
  · subst e
    have := (h.inner x hx).set_ b (.bool v)
    rw [set_range] at this
    have e2 : (fun j => if j = b then Value.bool v else Value.bool (m x j)) = fun j => Value.bool (upd m x b v x j) := by
      funext j; unfold upd; by_cases hj : j = b <;> simp [hj]
    rw [e2] at this; exact this
  · have := (h.inner x hx).far (p := ⟨B + 1 + a, b, none⟩) (by simp; omega) (.bool v)
    have e2 : (fun j => Value.bool (m x j)) = fun j => Value.bool (upd m a b v x j) := by
      funext j; unfold upd; simp [e]
    rw [e2] at this; exact this
theorem MB.addRow (h : MB w0 w B n r m) (hr : r < n) {m' : Nat → Nat → Bool} (hm : ∀ b, m' r b = false) (hm' : ∀ a b, a < r → m' a b = m a b) :
    MB w0 ((w.setCell ⟨B, r, none⟩ (.slice (some ⟨w.heap.size, 0, none⟩) n n)).alloc (.cells (madeCells #[.bool false] n) 4)) B n (r + 1) m' := by
  have hB := h.outer.lt
  have hz : (w.setCell ⟨B, r, none⟩ (.slice (some ⟨w.heap.size, 0, none⟩) n n)).heap.size = B + 1 + r := by simpa [World.setCell] using h.size
  refine ⟨(h.below.setCell (p := ⟨B, r, none⟩) (Nat.le_refl _) (.slice (some ⟨w.heap.size, 0, none⟩) n n)).alloc (by rw [hz]; omega) _, hr, by rw [World.size_alloc, hz]; omega, ?_, fun x hx => ?_⟩
  · have := (h.outer.set_ r (.slice (some ⟨w.heap.size, 0, none⟩) n n)).alloc (.cells (madeCells #[.bool false] n) 4)
    rw [set_range] at this
    have e2 : (fun j => if j = r then Value.slice (some ⟨w.heap.size, 0, none⟩) n n else if j < r then rowSl B n j else .slice none 0 0) =
        fun j => if j < r + 1 then rowSl B n j else .slice none 0 0 := by
      funext j
      by_cases hj : j = r
      · subst hj; simp [rowSl, h.size]
      · by_cases h1 : j < r
        · simp [hj, h1, Nat.lt_succ_of_lt h1]
        · simp [hj, h1, show ¬ j < r + 1 by omega]
    rw [e2] at this; exact this
  · by_cases e : x = r
    · subst e
      have := Row.made (w.setCell ⟨B, x, none⟩ (.slice (some ⟨w.heap.size, 0, none⟩) n n)) 4 (.bool false) n
      rw [hz, replicate_range] at this
      have e2 : (fun _ : Nat => Value.bool false) = fun b => Value.bool (m' x b) := by funext b; rw [hm]
      rw [e2] at this; exact this
    · have := ((h.inner x (by omega)).far (p := ⟨B, r, none⟩) (by simp; omega) (.slice (some ⟨w.heap.size, 0, none⟩) n n)).alloc (.cells (madeCells #[.bool false] n) 4)
      have e2 : (fun b => Value.bool (m x b)) = fun b => Value.bool (m' x b) := by funext b; rw [hm' x b (by omega)]
      rw [e2] at this; exact this
theorem MB.congr (h : MB w0 w B n r m) {m' : Nat → Nat → Bool} (hm : ∀ a b, a < r → b < n → m' a b = m a b) : MB w0 w B n r m' :=
  ⟨h.below, h.le, h.size, h.outer, fun a ha => by
    have := h.inner a ha
    have e : (List.range n).map (fun b => Value.bool (m a b)) = (List.range n).map (fun b => Value.bool (m' a b)) :=
      List.map_congr_left fun b hb => by rw [hm a b ha (List.mem_range.1 hb)]
    rw [e] at this; exact this⟩
theorem MB.reads (h : MB w0 w B n n m) (hn : n ≤ maxLen) : BRows2 w w.heap.size (.slice (some ⟨B, 0, none⟩) n n) (matL n m) := by
  refine ⟨(List.range n).map fun a => if a < n then rowSl B n a else .slice none 0 0, ?_, by simp [matL], fun i u x hu hx => ?_⟩
  · have := Sl.of_row h.outer h.outer.lt (by simpa using hn)
    simpa using this
  · have hi : i < n := by
      have := (List.getElem?_eq_some_iff.1 hx).1; simpa [matL] using this
    simp [hi] at hu
    simp [matL, hi] at hx
    subst hu; subst hx
    have := Sl.of_row (h.inner i hi) (h.inner i hi).lt (by simpa using hn)
    unfold Bools
    simpa [rowSl, Function.comp_def] using this
end Go.Proofs.Ytiebfnchimfjiaa
