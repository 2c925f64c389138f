/- A slice of one-cell elements that the call owns and that is cut at its head and appended to. -/
import Derived.Test.YtiebfnchimfjiaaMem
namespace Go.Proofs.Ytiebfnchimfjiaa
open Go.RowKit

/-- In block g, from place off on, with room for cap: these cells. -/
def QAt (w : World) (base : Nat) (e : TypeId) (g off cap : Nat) (xs : List Value) : Prop :=
  base ≤ g ∧ xs.length ≤ cap ∧ cap ≤ maxLen ∧ ∃ cur : Array Value, w.heap[g]? = some (.cells cur e (0, 0)) ∧ off + cap ≤ cur.size ∧ ∀ i, i < xs.length → cur[off + i]? = xs[i]?
variable {w w' : World} {base g off cap : Nat} {e : TypeId} {xs : List Value} {x : Value}
theorem QAt.new (w : World) (e : TypeId) (x : Value) (hb : base ≤ w.heap.size) : QAt (w.alloc (.cells #[x] e)) base e w.heap.size 0 1 [x] :=
  ⟨hb, by simp, by simp [maxLen], #[x], heap_alloc_new w _, by simp, fun i hi => by
    have : i = 0 := by simp at hi; omega
    subst this; rfl⟩
theorem QAt.lt (h : QAt w base e g off cap xs) : g < w.heap.size := by
  obtain ⟨_, _, _, cur, hc, _⟩ := h
  rcases Nat.lt_or_ge g w.heap.size with hlt | hge
  · exact hlt
  · rw [Array.getElem?_eq_none hge] at hc; cases hc
theorem QAt.cell (h : QAt w base e g off cap xs) {i : Nat} (hi : i < xs.length) : w.cell? ⟨g, off + i, none⟩ = some xs[i] := by
  obtain ⟨_, _, _, cur, hc, _, hx⟩ := h
  rw [cell_of_row w g _ cur e (0, 0) hc, hx i hi, List.getElem?_eq_getElem hi]
theorem QAt.drewN (h : QAt w base e g off cap xs) (n : Nat) : QAt (w.drewN n) base e g off cap xs := h
theorem QAt.alloc (h : QAt w base e g off cap xs) (o : Obj) : QAt (w.alloc o) base e g off cap xs := by
  have hl := h.lt
  obtain ⟨h1, h2, h3, cur, hc, h4⟩ := h
  exact ⟨h1, h2, h3, cur, (Below.heap_alloc w o g hl).trans hc, h4⟩
theorem QAt.far (h : QAt w base e g off cap xs) {p : Addr} (hp : p.block < base) (u : Value) : QAt (w.setCell p u) base e g off cap xs := by
  obtain ⟨h1, h2, h3, cur, hc, h4⟩ := h
  exact ⟨h1, h2, h3, cur, (Below.heap_setCell w p u g (by omega)).trans hc, h4⟩
theorem QAt.grown (h : QAt w base e g off cap xs) {row : Option Nat} (hb : w.grownBy w' row) (hg : some g ≠ row) : QAt w' base e g off cap xs := by
  have hl := h.lt
  obtain ⟨h1, h2, h3, cur, hc, h4⟩ := h
  exact ⟨h1, h2, h3, cur, (hb.block g hl hg).trans hc, h4⟩
/-- 'l[1:]'. -/
theorem QAt.pop (h : QAt w base e g off cap (x :: xs)) : QAt w base e g (off + 1) (cap - 1) xs := by
  obtain ⟨h1, h2, h3, cur, hc, h4, h5⟩ := h
  simp at h2
  exact ⟨h1, by omega, by omega, cur, hc, by omega, fun i hi => by
    have := h5 (i + 1) (by simp; omega)
    rw [show off + 1 + i = off + (i + 1) by omega, this]; simp⟩
theorem QAt.pop_last (h : QAt w base e g off 1 [x]) : QAt w base e g off 0 [] := by
  obtain ⟨h1, h2, h3, cur, hc, h4, h5⟩ := h
  exact ⟨h1, by simp, by simp, cur, hc, by omega, fun i hi => by simp at hi⟩

theorem QAt.pushed (h : QAt w base e g off cap xs) (hr : xs.length + 1 ≤ cap) (x : Value) : QAt (w.setCell ⟨g, off + xs.length, none⟩ x) base e g off cap (xs ++ [x]) := by
  obtain ⟨h1, h2, h3, cur, hc, h4, h5⟩ := h
  refine ⟨h1, by simpa using hr, h3, cur.setIfInBounds (off + xs.length) x, by simp [World.setCell, Array.getElem?_modify, hc], by simpa using h4, fun i hi => ?_⟩
  rw [Array.getElem?_setIfInBounds]
  simp at hi
  by_cases e : i = xs.length
  · subst e
    rw [if_pos rfl, if_pos (by omega), List.getElem?_append_right (Nat.le_refl _)]; simp
  · rw [if_neg (by omega), h5 i (by omega), List.getElem?_append_left (by omega)]
theorem QAt.of_own {n c : Nat} (h : w.ownsRow base e 1 (.slice (some ⟨g, 0, none⟩) n c) n xs) : QAt w base e g 0 c xs := by
  have h1 := h.1
  rw [Nat.mul_one] at h1
  rcases h.2 with ⟨h2, _⟩ | ⟨g', cap', cur, hv, hg, hh, hc, hm, hs, ht⟩
  · cases h2
  · injection hv with e1 e2 e3
    injection e1 with e1
    injection e1 with e1
    subst e1; subst e3
    refine ⟨hg, by omega, hm, cur, hh, by omega, fun i hi => ?_⟩
    rw [← ht, Nat.zero_add, List.getElem?_take, if_pos (by omega)]; simp

theorem wpList_append_q {P : Program} (w : World) {ops : Array Oper} {rest : List Oper} {o : Oper} {a : Act} {Q : Exit → Act → World → Prop}
    (hg : o.guard = none) (s x : Operand) (t : TypeId) (hop : o.op = Op.call { callee := Callee.builtin Builtin.append, args := #[s, x], argTypes := #[t, t] })
    (base : Nat) (e : TypeId) (i : TypeInfo) (z : Value) (bytes : Nat) (h1 : P.underlying t = some (.slice e)) (h2 : P.info? e = some i) (h3 : i.zero = some z) (h4 : i.size = 1) (h5 : i.bytes = bytes) (h6 : z.cells.size = 1)
    (g off n cap : Nat) (xs : List Value) (hs : a.eval s = .slice (some ⟨g, off, none⟩) n cap) (hn : xs.length = n) (hq : QAt w base e g off cap xs)
    (ad : Addr) (c : Nat) (y : Value) (hx : a.eval x = .slice (some ad) 1 c) (hc : ∀ j u, [y][j]? = some u → w.cell? (ad.add j) = some u) (h1c : y.oneCell' = true)
    (b1 : n + 1 ≤ maxLen) (b2 : (n + 1) * bytes ≤ 140737488355328) (hbase : base ≤ w.heap.size)
    (hK : ∀ g' off' cap' w', QAt w' base e g' off' cap' (xs ++ [y]) → w.grownBy w' (some g) → wpList P ops Q rest (a.put o.dst (.slice (some ⟨g', off', none⟩) (n + 1) cap')) w') :
    wpList P ops Q (o :: rest) a w := by
  subst hn
  refine wpList_append_arg w hg s x t hop e i z 1 bytes h1 h2 h3 h4 h5 h6 (by omega) g off xs.length cap xs hs (by simp) (fun j u hj => ?_) ad 1 c [y] hx rfl hc (fun u hu => by simp at hu; subst hu; exact h1c) (fun hr j hj => ?_) b1 b2 (fun hr => ?_) (fun hr v' w' ho hgr => ?_)
  · have hj' := (List.getElem?_eq_some_iff.1 hj).1
    rw [hq.cell hj', ← hj, List.getElem?_eq_getElem hj']
  · obtain ⟨_, _, _, cur, hcur, h7, _⟩ := hq
    have hj0 : j = 0 := by simp at hj; omega
    subst hj0
    refine ⟨?_, by simp [World.frozen?, hcur]⟩
    rw [cell_of_row w g _ cur e (0, 0) hcur]
    simp
    omega
  · have hw : w.setCells g (off + xs.length * 1) [y] = w.setCell ⟨g, off + xs.length, none⟩ y := by simp [World.setCells]
    rw [hw]
    exact hK _ _ _ _ (hq.pushed hr y) (grownBy_setCell w g _ y)
  · obtain ⟨g', cap', rfl, _, _⟩ := ho.form (by omega)
    obtain ⟨k1, k2, k3, cur, k4⟩ := QAt.of_own ho
    exact hK _ _ _ _ ⟨by omega, k2, k3, cur, k4⟩ ⟨hgr.os, hgr.tape, hgr.output, hgr.size, fun k hk _ => hgr.block k hk (by simp)⟩
end Go.Proofs.Ytiebfnchimfjiaa
