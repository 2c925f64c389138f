/- Words for memory that reads as lists: general lemmas over the model's worlds, no statement of the program. -/
import Derived.WalkKit
import Derived.WalkSpells
import Derived.WalkLawsBesides
import Derived.Lib.Hide
import Derived.Deep.AppendLies
import Derived.Deep.Draws
import Derived.Deep.OwnRows
import Derived.BigQuiet
import Derived.Deep.QuietTactic
import Derived.StillTailTactics
namespace Go.Proofs.Ytbfgnafpianliaa
open Go.RowKit

theorem block_of_add (a : Addr) (n : Nat) : (a.add n).block = a.block := by unfold Addr.add; split <;> rfl
theorem add_of_add (a : Addr) (i j : Nat) : (a.add i).add j = a.add (i + j) := by
  unfold Addr.add
  by_cases hi : i = 0 <;> by_cases hj : j = 0 <;> simp [hi, hj, Nat.add_assoc]
theorem add_head (g i : Nat) : (⟨g, 0, none⟩ : Addr).add i = ⟨g, i, none⟩ := by
  unfold Addr.add; split
  · subst i; rfl
  · simp

theorem ret_int {k : IntKind} {a b : Int} (h : a = b) : Ending.returned (.int k a) = .returned (.int k b) := by rw [h]
theorem ret_bool {a b : Bool} (h : a = b) : Ending.returned (.bool a) = .returned (.bool b) := by rw [h]
theorem ret_str {a b : ByteArray} (h : a = b) : Ending.returned (.string a) = .returned (.string b) := by rw [h]

/-- The call only reads: it draws, and hands back v. -/
def Quiet (v : Value) (w : World) (e : Ending) (w' : World) : Prop := e = .returned v ∧ ∃ n, w' = w.drewN n

theorem quiet_left {P : Program} {f : FuncId} {args : Array Value} {w : World} {n : Nat} {v : Value}
    (h : Calls P f args (w.drewN n) fun e w' => e = .returned v ∧ w.drewN n = w') : Calls P f args (w.drewN n) fun e w'' => e = .returned v ∧ ∃ m, w'' = w.drewN m :=
  h.mono fun _ _ ⟨he, hm⟩ => ⟨he, n, hm.symm⟩

/-- Below block B the two worlds hold the same blocks. -/
def Same (B : Nat) (w w' : World) : Prop := ∀ k, k < B → w'.heap[k]? = w.heap[k]?

section
variable {w w' w'' : World} {B B' : Nat}
theorem Same.refl : Same B w w := fun _ _ => rfl
theorem Same.trans (h : Same B w w') (h' : Same B w' w'') : Same B w w'' := fun k hk => (h' k hk).trans (h k hk)
theorem Same.mono (h : Same B w w') (hB : B' ≤ B) : Same B' w w' := fun k hk => h k (Nat.lt_of_lt_of_le hk hB)
theorem Same.of_below (h : Below B w w') : Same B w w' := h.block
theorem Same.cell (h : Same B w w') {p : Addr} (hp : p.block < B) : w'.cell? p = w.cell? p := World.cell?_of_block (h p.block hp)
theorem Same.frozen (h : Same B w w') {p : Addr} (hp : p.block < B) : w'.frozen? p = w.frozen? p := World.frozen?_of_block (h p.block hp)
theorem Same.drewN (n : Nat) : Same B w (w.drewN n) := fun _ _ => rfl
theorem Same.drew : Same B w w.drew := fun _ _ => rfl
theorem Same.alloc (hB : B ≤ w.heap.size) (o : Obj) : Same B w (w.alloc o) := fun k hk => Below.heap_alloc w o k (by omega)
theorem Same.setCell {p : Addr} (hp : B ≤ p.block) (u : Value) : Same B w (w.setCell p u) := fun k hk => Below.heap_setCell w p u k (by omega)
theorem Same.grown {row : Option Nat} (hg : w.grownBy w' row) (hB : B ≤ w.heap.size) (hr : ∀ k, row = some k → B ≤ k) : Same B w w' :=
  fun k hk => hg.block k (by omega) (fun e => by have := hr k e.symm; omega)
theorem below_drewN {a : World} (h : Below B a w) (n : Nat) : Below B a (w.drewN n) := ⟨h.os, h.tape, h.output, h.size, h.block⟩
theorem Quiet.below {v : Value} {e : Ending} (h : Quiet v w e w') (B : Nat) : Below B w w' := by
  obtain ⟨_, n, rfl⟩ := h; exact below_drewN (Below.refl _ _) n

/-- Block g holds just these cells, of element type t, none frozen. -/
def Row (w : World) (g : Nat) (t : TypeId) (vs : List Value) : Prop := w.heap[g]? = some (.cells vs.toArray t (0, 0))
variable {g g' : Nat} {t t' : TypeId} {vs vs' : List Value}
theorem Row.lt (h : Row w g t vs) : g < w.heap.size := by
  rcases Nat.lt_or_ge g w.heap.size with hlt | hge
  · exact hlt
  · unfold Row at h; rw [Array.getElem?_eq_none hge] at h; cases h
theorem Row.cell (h : Row w g t vs) (i : Nat) : w.cell? ⟨g, i, none⟩ = vs[i]? := by
  have := cell_of_row w g i _ t (0, 0) h; simpa using this
theorem Row.frozen (h : Row w g t vs) (i : Nat) : w.frozen? ⟨g, i, none⟩ = false := by
  unfold Row at h
  simp [World.frozen?, h]
theorem Row.new (w : World) (t : TypeId) (vs : List Value) : Row (w.alloc (.cells vs.toArray t)) w.heap.size t vs := heap_alloc_new w _
theorem Row.made (w : World) (t : TypeId) (z : Value) (n : Nat) : Row (w.alloc (.cells (madeCells #[z] n) t)) w.heap.size t (List.replicate n z) := by
  have e : (List.replicate n z).toArray = madeCells #[z] n := by rw [← toList_madeCells_one]
  unfold Row; rw [e]; exact heap_alloc_new w _
theorem Row.same (h : Row w g t vs) (hs : Same B w w') (hg : g < B) : Row w' g t vs := (hs g hg).trans h
theorem Row.drewN (h : Row w g t vs) (n : Nat) : Row (w.drewN n) g t vs := h
theorem Row.alloc (h : Row w g t vs) (o : Obj) : Row (w.alloc o) g t vs := (Below.heap_alloc w o g h.lt).trans h
theorem Row.set_ (h : Row w g t vs) (i : Nat) (u : Value) : Row (w.setCell ⟨g, i, none⟩ u) g t (vs.set i u) := by
  unfold Row at h ⊢
  simp [World.setCell, Array.getElem?_modify, h]
theorem Row.far (h : Row w g t vs) {p : Addr} (hp : g ≠ p.block) (u : Value) : Row (w.setCell p u) g t vs := (Below.heap_setCell w p u g hp).trans h
theorem Row.grown {row : Option Nat} (h : Row w g t vs) (hb : w.grownBy w' row) (hg : some g ≠ row) : Row w' g t vs := (hb.block g h.lt hg).trans h
theorem Row.below (h : Row w g t vs) (hb : Below w.heap.size w w') : Row w' g t vs := (hb.block g h.lt).trans h
theorem Row.ne_ (h : Row w g t vs) (h' : Row w g' t' vs') (hne : t ≠ t') : g ≠ g' := by
  rintro rfl
  unfold Row at h h'
  rw [h] at h'
  injection h' with h'
  injection h' with _ ht
  exact hne ht
theorem own_row_ne {base : Nat} {e : TypeId} {size n : Nat} {v : Value} {xs : List Value} (h : w.ownsRow base e size v n xs) (hg : Row w g t vs) (hne : e ≠ t) : v.ownBlock ≠ some g := by
  rcases h.2 with ⟨rfl, _⟩ | ⟨g', cap, cur, rfl, _, hh, _⟩
  · simp [Value.ownBlock]
  · intro he
    have : g' = g := by simpa [Value.ownBlock] using he
    subst this
    unfold Row at hg
    rw [hg] at hh
    injection hh with hh
    injection hh with _ ht
    exact hne ht.symm

theorem set_range {α : Type} (n i : Nat) (f : Nat → α) (v : α) : ((List.range n).map f).set i v = (List.range n).map fun j => if j = i then v else f j := by
  apply List.ext_getElem?; intro j
  rw [List.getElem?_set]
  by_cases hj : j < n
  · by_cases h : i = j
    · subst h; simp [hj]
    · simp [hj, h, Ne.symm h]
  · have h2 : ((List.range n).map fun j => if j = i then v else f j)[j]? = none := by simp; omega
    rw [h2]
    split
    · simp; omega
    · simp; omega
theorem replicate_range {α : Type} (n : Nat) (v : α) : List.replicate n v = (List.range n).map fun _ => v := by
  apply List.ext_getElem?; intro j
  by_cases hj : j < n
  · simp [hj]
  · rw [List.getElem?_eq_none (by simp; omega), List.getElem?_eq_none (by simp; omega)]

/-- Block g holds f 0, f 1, .. f (n - 1). -/
def RowF (w : World) (g : Nat) (t : TypeId) (n : Nat) (f : Nat → Value) : Prop := Row w g t ((List.range n).map f)
variable {n : Nat} {f f' : Nat → Value}
theorem RowF.get (h : RowF w g t n f) {i : Nat} (hi : i < n) : w.cell? ⟨g, i, none⟩ = some (f i) := by
  rw [Row.cell h, List.getElem?_map, List.getElem?_range hi]; rfl
theorem RowF.free (h : RowF w g t n f) (i : Nat) : w.frozen? ⟨g, i, none⟩ = false := Row.frozen h i
theorem RowF.lt (h : RowF w g t n f) : g < w.heap.size := Row.lt h
theorem RowF.store (h : RowF w g t n f) (i : Nat) (u : Value) : RowF (w.setCell ⟨g, i, none⟩ u) g t n fun j => if j = i then u else f j := by
  have := Row.set_ h i u
  rw [set_range] at this
  exact this
theorem RowF.made (w : World) (t : TypeId) (z : Value) (n : Nat) : RowF (w.alloc (.cells (madeCells #[z] n) t)) w.heap.size t n fun _ => z := by
  have := Row.made w t z n
  rw [replicate_range] at this
  exact this
theorem RowF.congr (h : RowF w g t n f) (hf : ∀ i, i < n → f i = f' i) : RowF w g t n f' := by
  unfold RowF at h ⊢
  rwa [List.map_congr_left (g := f') fun i hi => hf i (List.mem_range.1 hi)] at h

/-- From the address on lie these cells, one behind the other, in a block below B. -/
def At (w : World) (B : Nat) (A : Option Addr) (vs : List Value) : Prop :=
  ∀ i v, vs[i]? = some v → ∃ ad, A = some ad ∧ ad.block < B ∧ w.cell? (ad.add i) = some v
variable {A : Option Addr}
theorem At.nil : At w B A [] := fun i v h => by simp at h
theorem At.at_ (h : At w B A vs) {i : Nat} (hi : i < vs.length) : ∃ ad, A = some ad ∧ ad.block < B ∧ w.cell? (ad.add i) = some vs[i] :=
  h i _ (List.getElem?_eq_getElem hi)
theorem At.same (h : At w B A vs) (hs : Same B w w') : At w' B A vs := fun i v hv => by
  obtain ⟨ad, e, hb, hc⟩ := h i v hv
  exact ⟨ad, e, hb, (hs.cell (by rw [block_of_add]; exact hb)).trans hc⟩
theorem At.more (h : At w B A vs) (hB : B ≤ B') : At w B' A vs := fun i v hv => by
  obtain ⟨ad, e, hb, hc⟩ := h i v hv
  exact ⟨ad, e, by omega, hc⟩
theorem At.of_row (h : Row w g t vs) (hg : g < B) : At w B (some ⟨g, 0, none⟩) vs := fun i v hv =>
  ⟨_, rfl, hg, by rw [add_head, h.cell]; exact hv⟩
theorem At.of_own {base : Nat} {e : TypeId} {n size c : Nat} {xs : List Value} (h : w.ownsRow base e size (.slice A n c) n xs) : At w w.heap.size A xs := by
  intro i v hv
  have hn : 0 < n := by
    rcases Nat.eq_zero_or_pos n with h0 | h0
    · have := h.1; rw [h0] at this; simp at this; subst this; simp at hv
    · exact h0
  obtain ⟨g, cap, he, _, hlt⟩ := h.form hn
  have hA : A = some ⟨g, 0, none⟩ := by injection he
  subst hA
  exact ⟨_, rfl, hlt, h.cells (g := g) rfl i v hv⟩

/-- The value is a slice that reads as these cells (one a element), in blocks below B. -/
def Sl (w : World) (B : Nat) (v : Value) (vs : List Value) : Prop :=
  ∃ A c, v = .slice A vs.length c ∧ vs.length ≤ c ∧ c ≤ maxLen ∧ At w B A vs
variable {v : Value}
theorem Sl.nil : Sl w B (.slice none 0 0) [] := ⟨none, 0, rfl, by simp, by simp [maxLen], At.nil⟩
theorem Sl.same (h : Sl w B v vs) (hs : Same B w w') : Sl w' B v vs := by
  obtain ⟨A, c, e, h1, h2, h3⟩ := h; exact ⟨A, c, e, h1, h2, h3.same hs⟩
theorem Sl.more (h : Sl w B v vs) (hB : B ≤ B') : Sl w B' v vs := by
  obtain ⟨A, c, e, h1, h2, h3⟩ := h; exact ⟨A, c, e, h1, h2, h3.more hB⟩
theorem Sl.of_row (h : Row w g t vs) (hg : g < B) (hm : vs.length ≤ maxLen) : Sl w B (.slice (some ⟨g, 0, none⟩) vs.length vs.length) vs :=
  ⟨_, _, rfl, Nat.le_refl _, hm, At.of_row h hg⟩
theorem Sl.of_own {base : Nat} {e : TypeId} {n : Nat} {xs : List Value} (h : w.ownsRow base e 1 v n xs) : Sl w w.heap.size v xs := by
  have h1 := h.1
  rw [Nat.mul_one] at h1
  rcases h.2 with ⟨rfl, rfl⟩ | ⟨g, cap, cur, rfl, _, _, hc, hm, _⟩
  · have : xs = [] := List.eq_nil_of_length_eq_zero h1
    subst this; exact Sl.nil
  · exact ⟨_, cap, by rw [h1], by omega, hm, At.of_own h⟩

theorem Sl.of_rowF {n : Nat} {f : Nat → Value} (h : RowF w g t n f) (hg : g < B) (hm : n ≤ maxLen) : Sl w B (.slice (some ⟨g, 0, none⟩) n n) ((List.range n).map f) := by
  have := Sl.of_row h hg (by simpa using hm)
  simpa using this

/-- The value is a slice whose elements read as the members of the list. -/
def Els {α : Type} (R : World → Nat → Value → α → Prop) (w : World) (B : Nat) (v : Value) (xs : List α) : Prop :=
  ∃ vs : List Value, Sl w B v vs ∧ vs.length = xs.length ∧ ∀ (i : Nat) u x, vs[i]? = some u → xs[i]? = some x → R w B u x
theorem Els.same {α : Type} {R : World → Nat → Value → α → Prop} (hR : ∀ u x, R w B u x → Same B w w' → R w' B u x) {xs : List α}
    (h : Els R w B v xs) (hs : Same B w w') : Els R w' B v xs := by
  obtain ⟨vs, h1, h2, h3⟩ := h
  exact ⟨vs, h1.same hs, h2, fun i u x hu hx => hR u x (h3 i u x hu hx) hs⟩
theorem Els.more {α : Type} {R : World → Nat → Value → α → Prop} (hR : ∀ u x, R w B u x → R w B' u x) {xs : List α}
    (h : Els R w B v xs) (hB : B ≤ B') : Els R w B' v xs := by
  obtain ⟨vs, h1, h2, h3⟩ := h
  exact ⟨vs, h1.more hB, h2, fun i u x hu hx => hR u x (h3 i u x hu hx)⟩
theorem Els.parts {α : Type} {R : World → Nat → Value → α → Prop} {xs : List α} (h : Els R w B v xs) :
    ∃ A c, v = .slice A xs.length c ∧ xs.length ≤ c ∧ c ≤ maxLen ∧
      ∀ i x, xs[i]? = some x → ∃ ad u, A = some ad ∧ ad.block < B ∧ w.cell? (ad.add i) = some u ∧ R w B u x := by
  obtain ⟨vs, ⟨A, c, e, h1, h2, h3⟩, h4, h5⟩ := h
  refine ⟨A, c, by rw [← h4]; exact e, by omega, h2, fun i x hx => ?_⟩
  have hi : i < vs.length := by
    rw [h4]; exact (List.getElem?_eq_some_iff.1 hx).1
  obtain ⟨ad, ea, hb, hc⟩ := h3.at_ hi
  exact ⟨ad, _, ea, hb, hc, h5 i _ x (List.getElem?_eq_getElem hi) hx⟩

def isInt (_ : World) (_ : Nat) (v : Value) (x : Int) : Prop := v = .int .i64 x
def isBool (_ : World) (_ : Nat) (v : Value) (x : Bool) : Prop := v = .bool x
/-- Slices of int, of bool; slices of slices of int. -/
def Ints (w : World) (B : Nat) (v : Value) (xs : List Int) : Prop := Sl w B v (xs.map (.int .i64))
def Bools (w : World) (B : Nat) (v : Value) (xs : List Bool) : Prop := Sl w B v (xs.map .bool)
def Rows2 (w : World) (B : Nat) (v : Value) (g : List (List Int)) : Prop := Els Ints w B v g
def BRows2 (w : World) (B : Nat) (v : Value) (g : List (List Bool)) : Prop := Els Bools w B v g
variable {xs : List Int} {bs : List Bool} {gr : List (List Int)} {mb : List (List Bool)}
theorem Ints.same (h : Ints w B v xs) (hs : Same B w w') : Ints w' B v xs := Sl.same h hs
theorem Ints.more (h : Ints w B v xs) (hB : B ≤ B') : Ints w B' v xs := Sl.more h hB
theorem Bools.same (h : Bools w B v bs) (hs : Same B w w') : Bools w' B v bs := Sl.same h hs
theorem Bools.more (h : Bools w B v bs) (hB : B ≤ B') : Bools w B' v bs := Sl.more h hB
theorem Rows2.same (h : Rows2 w B v gr) (hs : Same B w w') : Rows2 w' B v gr := Els.same (fun _ _ h hs => h.same hs) h hs
theorem Rows2.more (h : Rows2 w B v gr) (hB : B ≤ B') : Rows2 w B' v gr := Els.more (fun _ _ h => h.more hB) h hB
theorem BRows2.same (h : BRows2 w B v mb) (hs : Same B w w') : BRows2 w' B v mb := Els.same (fun _ _ h hs => h.same hs) h hs
theorem BRows2.more (h : BRows2 w B v mb) (hB : B ≤ B') : BRows2 w B' v mb := Els.more (fun _ _ h => h.more hB) h hB
theorem Ints.parts (h : Ints w B v xs) : ∃ A c, v = .slice A xs.length c ∧ xs.length ≤ c ∧ c ≤ maxLen ∧
    ∀ i x, xs[i]? = some x → ∃ ad, A = some ad ∧ ad.block < B ∧ w.cell? (ad.add i) = some (.int .i64 x) := by
  obtain ⟨A, c, e, h1, h2, h3⟩ := h
  rw [List.length_map] at e h1
  exact ⟨A, c, e, h1, h2, fun i x hx => h3 i _ (by rw [List.getElem?_map, hx]; rfl)⟩
theorem Bools.parts (h : Bools w B v bs) : ∃ A c, v = .slice A bs.length c ∧ bs.length ≤ c ∧ c ≤ maxLen ∧
    ∀ i x, bs[i]? = some x → ∃ ad, A = some ad ∧ ad.block < B ∧ w.cell? (ad.add i) = some (.bool x) := by
  obtain ⟨A, c, e, h1, h2, h3⟩ := h
  rw [List.length_map] at e h1
  exact ⟨A, c, e, h1, h2, fun i x hx => h3 i _ (by rw [List.getElem?_map, hx]; rfl)⟩
end

section
variable {P : Program} {ops : Array Oper} {w : World}
/-- In the walk of a region's first part: an operation whose guard says no, one whose guard says yes. -/
theorem wpStill_skip {Q : Act → Prop} {a : Act} {o : Oper} {rest : List Oper} (hw : Region.wanted o (yielded ops a.tmps) = false)
    (h : wpStill P ops w Q rest (a.put o.dst undef)) : wpStill P ops w Q (o :: rest) a := by
  simp only [wpStill, hw]; exact h
theorem wpStill_want {Q : Act → Prop} {a : Act} {o : Oper} {rest : List Oper} (hw : Region.wanted o (yielded ops a.tmps) = true)
    (h : ∀ K : Act → Prop, (∀ a, wpStill P ops w Q rest a → K a) → o.still P a w K) : wpStill P ops w Q (o :: rest) a := by
  simp only [wpStill, hw]; exact h _ (fun _ h => h)
end

theorem hide {p : Prop} (h : p) : Hid p := h
theorem unhide {p : Prop} (h : Hid p) : p := h
theorem grownBy_setCell (w : World) (g i : Nat) (u : Value) : w.grownBy (w.setCell ⟨g, i, none⟩ u) (some g) :=
  ⟨rfl, rfl, rfl, by simp [World.setCell], fun k _ hne => Below.heap_setCell w _ u k (fun e => hne (by rw [e]))⟩

theorem ofNat_of {a : Int} (h : 0 ≤ a) : ∃ k : Nat, a = k := ⟨a.toNat, by omega⟩
theorem maxLen_le {n : Nat} (h : n ≤ maxLen) : n ≤ 9223372036854775807 := by unfold maxLen at h; exact h
end Go.Proofs.Ytbfgnafpianliaa
