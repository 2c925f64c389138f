/- Plain facts on components and on the reversed graph. -/
import Derived.Test.YtiebfnchimfjiaaDfs
import Derived.Test.YtiebfnchimfjiaaBfs
namespace Go.Proofs.Ytiebfnchimfjiaa
namespace G
/-- The predecessors of b among the first j nodes. -/
def preds (g : List (List Int)) (b j : Nat) : List Int := ((List.range j).filter fun a => ed g a b).map fun a : Nat => (a : Int)
def rev (g : List (List Int)) : List (List Int) := (List.range g.length).map fun b => preds g b g.length
theorem preds_yes {g : List (List Int)} {b j : Nat} (h : ed g j b = true) : preds g b (j + 1) = preds g b j ++ [(j : Int)] := by
  simp [preds, List.range_succ, List.filter_append, h]
theorem preds_no {g : List (List Int)} {b j : Nat} (h : ed g j b = false) : preds g b (j + 1) = preds g b j := by
  simp [preds, List.range_succ, List.filter_append, h]
theorem preds_len (g : List (List Int)) (b j : Nat) : (preds g b j).length ≤ j := by
  have := List.length_filter_le (fun a => ed g a b) (List.range j)
  simpa [preds] using this
theorem preds_lt {g : List (List Int)} {b j : Nat} {x : Int} (h : x ∈ preds g b j) : ∃ a : Nat, x = a ∧ a < j ∧ ed g a b = true := by
  simp [preds] at h
  obtain ⟨a, ⟨h1, h2⟩, e⟩ := h
  exact ⟨a, e.symm, h1, h2⟩
theorem mem_preds {g : List (List Int)} {a b j : Nat} : (a : Int) ∈ preds g b j ↔ a < j ∧ ed g a b = true := by
  constructor
  · intro h
    obtain ⟨a', e, h1, h2⟩ := preds_lt h
    obtain rfl : a = a' := by omega
    exact ⟨h1, h2⟩
  · intro ⟨h1, h2⟩
    simp [preds]
    exact ⟨a, ⟨h1, h2⟩, rfl⟩
variable {g : List (List Int)}
theorem rev_len (g : List (List Int)) : (rev g).length = g.length := by simp [rev]
theorem rev_row {b : Nat} (hb : b < g.length) : row (rev g) b = preds g b g.length := by
  unfold row rev
  rw [List.getD_eq_getElem?_getD, List.getElem?_map, List.getElem?_range hb]; rfl
theorem ed_rev {a b : Nat} (ha : a < g.length) (hb : b < g.length) : ed (rev g) a b = ed g b a := by
  have h1 : ed (rev g) a b = true ↔ ed g b a = true := by
    unfold ed; rw [rev_row ha, decide_eq_true_iff, mem_preds]
    unfold ed
    exact ⟨fun h => h.2, fun h => ⟨hb, h⟩⟩
  cases h : ed g b a with
  | true => exact h1.2 h
  | false =>
    cases h2 : ed (rev g) a b with
    | true => rw [h1.1 h2] at h; exact h
    | false => rfl
theorem Pk_rev : ∀ {k a b : Nat}, k ≤ g.length → a < g.length → b < g.length → (Pk (rev g) k a b ↔ Pk g k b a) := by
  intro k
  induction k with
  | zero => intro a b _ ha hb; simp only [Pk]; rw [ed_rev ha hb]
  | succ k ih =>
    intro a b hk ha hb
    simp only [Pk]
    rw [ih (by omega) ha hb, ih (by omega) ha (by omega), ih (by omega) (by omega) hb]
    exact ⟨fun h => h.elim .inl fun h => .inr ⟨h.2, h.1⟩, fun h => h.elim .inl fun h => .inr ⟨h.2, h.1⟩⟩
theorem Rs_rev {a b : Nat} (ha : a < g.length) (hb : b < g.length) : Rs (rev g) a b ↔ Rs g b a := by
  unfold Rs
  rw [rev_len, Pk_rev (Nat.le_refl _) ha hb]
  exact ⟨fun h => h.elim (fun h => .inl h.symm) .inr, fun h => h.elim (fun h => .inl h.symm) .inr⟩
theorem Rch_one {v b : Nat} (hv : v < g.length) : Rch g [(v : Int)] b ↔ Rs g v b := by
  constructor
  · intro ⟨a, ha, _, h⟩
    simp at ha
    obtain rfl : a = v := by omega
    exact h
  · intro h; exact ⟨v, by simp, hv, h⟩

/-- Each can be reached from the other. -/
def Mut (g : List (List Int)) (a b : Nat) : Prop := Rs g a b ∧ Rs g b a
theorem Mut.refl (a : Nat) : Mut g a a := ⟨.inl rfl, .inl rfl⟩
theorem Mut.symm {a b : Nat} (h : Mut g a b) : Mut g b a := ⟨h.2, h.1⟩
theorem Mut.trans {a b c : Nat} (hb : b < g.length) (h : Mut g a b) (h' : Mut g b c) : Mut g a c := ⟨h.1.trans hb h'.1, h'.2.trans hb h.2⟩
/-- c is the least node of the component of w. -/
def IsC (g : List (List Int)) (w : Nat) (c : Int) : Prop := ∃ u : Nat, c = u ∧ u < g.length ∧ Mut g u w ∧ ∀ u', u' < u → ¬ Mut g u' w
theorem IsC.eq {w : Nat} {c d : Int} (h : IsC g w c) (h' : IsC g w d) : c = d := by
  obtain ⟨u, rfl, _, h2, h3⟩ := h
  obtain ⟨v, rfl, _, k2, k3⟩ := h'
  rcases Nat.lt_trichotomy u v with e | e | e
  · exact absurd h2 (k3 u e)
  · rw [e]
  · exact absurd k2 (h3 v e)
/-- The nodes below v have been looked at. -/
def CInv (g : List (List Int)) (v : Nat) (o : Nat → Int) : Prop := ∀ w, w < g.length → (o w = -1 ∧ ∀ u, u < v → ¬ Mut g u w) ∨ (IsC g w (o w) ∧ o w < v)
variable {o : Nat → Int}
theorem CInv.start (h : ∀ w, o w = -1) : CInv g 0 o := fun w _ => .inl ⟨h w, fun u hu => absurd hu (by omega)⟩
theorem CInv.skip {v : Nat} (h : CInv g v o) (hv : v < g.length) (ho : o v ≠ -1) : CInv g (v + 1) o := by
  intro w hw
  rcases h w hw with ⟨h1, h2⟩ | ⟨h1, h1'⟩
  · refine .inl ⟨h1, fun u hu hm => ?_⟩
    by_cases e : u = v
    · subst e
      rcases h u hv with ⟨h3, _⟩ | ⟨⟨x, hx, hxn, hx2, hx3⟩, hlt⟩
      · exact ho h3
      · exact h2 x (by omega) (Mut.trans hv hx2 hm)
    · exact h2 u (by omega) hm
  · exact .inr ⟨h1, by omega⟩
/-- In the loop at v: what has been set of the first j. -/
def cset (v j : Nat) (t f : Nat → Bool) (o : Nat → Int) : Nat → Int := fun w => if w < j ∧ (t w && f w) = true then v else o w
theorem CInv.set_ {v : Nat} {t f : Nat → Bool} (h : CInv g v o) (hv : v < g.length) (ho : o v = -1) (ht : ∀ w, w < g.length → (t w = true ↔ Rs g v w)) (hf : ∀ w, w < g.length → (f w = true ↔ Rs g w v)) :
    CInv g (v + 1) (cset v g.length t f o) := by
  have hvu : ∀ u, u < v → ¬ Mut g u v := by
    rcases h v hv with ⟨_, h2⟩ | ⟨⟨x, hx, _⟩, _⟩
    · exact h2
    · omega
  intro w hw
  by_cases hm : Mut g v w
  · have : cset v g.length t f o w = v := by
      unfold cset; rw [if_pos ⟨hw, by rw [Bool.and_eq_true]; exact ⟨(ht w hw).2 hm.1, (hf w hw).2 hm.2⟩⟩]
    rw [this]
    exact .inr ⟨⟨v, rfl, hv, hm, fun u hu hm' => hvu u hu (Mut.trans hw hm' hm.symm)⟩, by omega⟩
  · have : cset v g.length t f o w = o w := by
      unfold cset; rw [if_neg]
      rintro ⟨_, hb⟩
      rw [Bool.and_eq_true] at hb
      exact hm ⟨(ht w hw).1 hb.1, (hf w hw).1 hb.2⟩
    rw [this]
    rcases h w hw with ⟨h1, h2⟩ | ⟨h1, h1'⟩
    · exact .inl ⟨h1, fun u hu hm' => by
        by_cases e : u = v
        · subst e; exact hm hm'
        · exact h2 u (by omega) hm'⟩
    · exact .inr ⟨h1, by omega⟩
theorem CInv.fin (h : CInv g g.length o) (w : Nat) (hw : w < g.length) : IsC g w (o w) := by
  rcases h w hw with ⟨_, h2⟩ | h1
  · exact absurd (Mut.refl w) (h2 w hw)
  · exact h1.1
/-- From a down: the least of the nodes from j on up to a that are in one component with a. -/
def LeastC (g : List (List Int)) (a : Nat) (j : Int) (l : Nat) : Prop := l ≤ a ∧ j ≤ l ∧ Mut g l a ∧ ∀ u : Nat, j ≤ u → u < l → ¬ Mut g u a
theorem LeastC.fin {a l : Nat} (ha : a < g.length) (h : LeastC g a 0 l) : IsC g a l := ⟨l, rfl, by have := h.1; omega, h.2.2.1, fun u hu => h.2.2.2 u (by omega) hu⟩
end G
end Go.Proofs.Ytiebfnchimfjiaa
