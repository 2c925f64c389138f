/- A map from ints to bools that the call made: a set. -/
import Derived.Test.YtiebfnchimfjiaaMem
import Derived.Maps.Views
import Derived.Maps.OwnOps
namespace Go.Proofs.Ytiebfnchimfjiaa
open Go.RowKit Go.Maps

/-- Block b is a map of at most n entries that says S of each int. -/
def IsSet (P : Program) (k e : TypeId) (w : World) (b n : Nat) (S : Int → Bool) : Prop :=
  ∃ D : DataW Unit, w.ownsMap P k (plainElem P e) b n D ∧ IsMap D ∧ ∀ x, D.atKey (.int .i64 x) (.lit (.bool false)) = .lit (.bool (S x))
variable {P : Program} {t k e : TypeId} {w w' : World} {b n : Nat} {S : Int → Bool}
theorem IsSet.made (w : World) : IsSet P k e (w.alloc (.map #[] 0)) w.heap.size 0 fun _ => false :=
  ⟨.map [], World.ownsMap_made w P k _, isMap_empty, fun _ => rfl⟩
theorem IsSet.lt (h : IsSet P k e w b n S) : b < w.heap.size := by obtain ⟨D, h1, _⟩ := h; exact h1.lt
theorem IsSet.mono (h : IsSet P k e w b n S) {m : Nat} (hm : n ≤ m) : IsSet P k e w b m S := by obtain ⟨D, h1, h2⟩ := h; exact ⟨D, h1.mono hm, h2⟩
theorem IsSet.kept {row : Option Nat} (h : IsSet P k e w b n S) (hg : w.grownBy w' row) (hne : some b ≠ row) : IsSet P k e w' b n S := by
  obtain ⟨D, h1, h2⟩ := h; exact ⟨D, h1.kept hg hne, h2⟩
theorem IsSet.far (h : IsSet P k e w b n S) {p : Addr} (hp : b ≠ p.block) (u : Value) : IsSet P k e (w.setCell p u) b n S :=
  h.kept (row := some p.block) ⟨rfl, rfl, rfl, by simp [World.setCell], fun k _ hne => Below.heap_setCell w p u k (fun e => hne (by rw [e]))⟩ (fun e => hp (by injection e))
theorem IsSet.look (h : IsSet P k e w b n S) (ht : P.underlying t = some (.map k e)) (hk : P.underlying k = some (.int .i64)) (he : P.underlying e = some .bool)
    (hz : (zeroValue e).run P w = .ok (.bool false) w) {x : Int} (hx : -9223372036854775808 ≤ x ∧ x ≤ 9223372036854775807) :
    (Instr.lookup t (.map (some b)) (.int .i64 x) false).run P w = .ok (.bool (S x)) w := by
  obtain ⟨D, h1, _, h3⟩ := h
  obtain ⟨v, ps, hrun, hv⟩ := h1.lookup (int_keyed hk) ht hz (plainElem_bool he false) (keyOf_int_mk hk (a := x) (WalkArith.wf_i64 (by omega)))
  rw [h3 x] at hv
  unfold plainElem at hv
  rw [he] at hv
  split at hv
  · cases hv
    exact hrun
  · simp_all
  · simp_all
  · cases hv
theorem IsSet.put (h : IsSet P k e w b n S) (ht : P.underlying t = some (.map k e)) (hk : P.underlying k = some (.int .i64)) (he : P.underlying e = some .bool)
    (hn : n < maxLen) {x : Int} (hx : -9223372036854775808 ≤ x ∧ x ≤ 9223372036854775807) :
    ∃ w', (Instr.mapUpdate t (.map (some b)) (.int .i64 x) (.bool true)).run P w = .ok () w' ∧ IsSet P k e w' b (n + 1) (fun y => decide (y = x) || S y) ∧ w.grownBy w' (some b) := by
  obtain ⟨D, h1, h2, h3⟩ := h
  obtain ⟨w', hrun, h4, h5⟩ := h1.update (int_keyed hk) ht hn (keyOf_int_mk hk (a := x) (WalkArith.wf_i64 (by omega))) (plainElem_bool he true)
  refine ⟨w', hrun, ⟨_, h4, h2.put _ _, fun y => ?_⟩, h5⟩
  by_cases e : y = x
  · subst e; rw [atKey_put_same h2 (by first | trivial | exact rfl | simp [WideAt.IsKeyLit])]; simp
  · rw [atKey_put_other (by intro h; injection h; contradiction), h3 y]; simp [e]
end Go.Proofs.Ytiebfnchimfjiaa
