/- The blocks of a call of value; one more item; Is the label among the members?; One more member; number. -/
import Derived.Test.YtmmbbndoimleaaaGreatDoorHAF
import Derived.Test.YtmmbbndoimleaaaGreatDoorHAB
import Derived.Deep.CutBlock
import Derived.Deep.CutRange

/- The blocks of a call of value; one more item. -/
namespace Go.Proofs.YtmmbbndoimleaaaGreatDoor
open Go.RowKit

/-- What value hands back. -/
def VPost (g : Nat) (S : ByteArray) (w : World) (m : Nat) (r : Except Flt (Dt × Nat)) (e : Ending) (w' : World) : Prop :=
  match r with
  | .ok (d, j) => (∃ a c a' c', e = .returned (datV d a c a' c') ∧ PZ w.heap.size none w' m d a c a' c') ∧ Pr w' g S j ∧ Px g w w'
  | .error f => FPost g w f e w'
/-- The three boxes of a call of value. -/
def VSt (w : World) (g b1 b2 b3 b0 : Nat) (D3 : List Value) (wr : World) : Prop :=
  (w.heap.size = b1 ∧ b2 = b1 + 1 ∧ b3 = b1 + 2 ∧ b0 = b1 + 3 ∧ g < b1) ∧ b0 ≤ wr.heap.size ∧ Px g w wr ∧ Row wr b1 44 [.pointer (some ⟨g, 0, none⟩)] ∧
  Row wr b2 25 [.int .i64 0, .int .i64 0, .string ⟨#[]⟩, .slice none 0 0, .slice none 0 0] ∧ Row wr b3 25 D3
section
variable {w wr W : World} {g b1 b2 b3 b0 : Nat} {D3 : List Value}
theorem VSt.turn (h : VSt w g b1 b2 b3 b0 D3 wr) (hX : Px g w W) (hs : wr.heap.size ≤ W.heap.size) (hk : ∀ k, b1 ≤ k → k < b0 → W.heap[k]? = wr.heap[k]?) : VSt w g b1 b2 b3 b0 D3 W := by
  obtain ⟨h0, h1, h2, h3, h4, h5⟩ := h
  exact ⟨h0, Nat.le_trans h1 hs, hX, (hk b1 (by omega) (by omega)).trans h3, (hk b2 (by omega) (by omega)).trans h4, (hk b3 (by omega) (by omega)).trans h5⟩
theorem VSt.px (h : VSt w g b1 b2 b3 b0 D3 wr) (hX : Px g wr W) : VSt w g b1 b2 b3 b0 D3 W :=
  h.turn (h.2.2.1.trans hX) hX.size fun k k1 k2 => hX.2 k (by have := h.2.1; omega) (by have := h.1; omega)
theorem VSt.set (h : VSt w g b1 b2 b3 b0 D3 wr) (i : Nat) (u : Value) : VSt w g b1 b2 b3 b0 (D3.set i u) (wr.setCell ⟨b3, i, none⟩ u) := by
  obtain ⟨h0, h1, h2, h3, h4, h5⟩ := h
  exact ⟨h0, by rw [csize_set]; exact h1, h2.setFar (p := ⟨b3, i, none⟩) (by show _ ≤ b3; omega) u, h3.far (by show b1 ≠ b3; omega) u, h4.far (by show b2 ≠ b3; omega) u, h5.set_ i u⟩
theorem pz_px {lo : Nat} {ob : Option Nat} {m : Nat} {d : Dt} {a c a' c'} (h : PZ lo ob wr m d a c a' c') (hX : Px g wr W) (hg : g < lo) : PZ lo ob W m d a c a' c' :=
  h.turn hX.size fun k k1 k2 k3 => ⟨hX.2 k k2 (by omega), k1, k3⟩
theorem own_px {base : Nat} {e : TypeId} {size : Nat} {v : Value} {n : Nat} {xs : List Value} (h : wr.ownsRow base e size v n xs) (hX : Px g wr W) (hg : g < base) : W.ownsRow base e size v n xs :=
  World.ownsRow.kept h ⟨hX.1.os, hX.1.tape, hX.1.output, hX.1.size, fun k hk hn => hX.2 k hk (by simpa using hn)⟩ (row := some g) (by
    rcases hv : v.ownBlock with _ | y
    · exact .inl rfl
    · exact .inr fun e => by have := (World.ownsRow.lt h y hv).1; injection e with e; omega)
theorem OwnD.px {ob : Option Nat} {m : Nat} {u : Value} {l : List Dt} (h : OwnD (PZ b0 ob wr m) wr b0 u l) (hX : Px g wr W) (hg : g < b0) : OwnD (PZ b0 ob W m) W b0 u l := by
  obtain ⟨xs, ho, hf⟩ := h
  exact ⟨xs, own_px ho hX hg, hf.turn fun x a c a' c' h => pz_px h hX hg⟩
theorem OwnM.px {ob : Option Nat} {m : Nat} {u : Value} {l : List (ByteArray × Dt)} (h : OwnM (PZ b0 ob wr m) wr b0 u l) (hX : Px g wr W) (hg : g < b0) : OwnM (PZ b0 ob W m) W b0 u l := by
  obtain ⟨xs, ho, hf⟩ := h
  exact ⟨xs, own_px ho hX hg, hf.turn fun x a c a' c' h => pz_px h hX hg⟩
end
/-- Five stores. -/
def put5 (w : World) (g o : Nat) (y0 y1 y2 y3 y4 : Value) : World :=
  ((((w.setCell ⟨g, o, none⟩ y0).setCell ⟨g, o + 1, none⟩ y1).setCell ⟨g, o + 2, none⟩ y2).setCell ⟨g, o + 3, none⟩ y3).setCell ⟨g, o + 4, none⟩ y4
theorem put5_size (w : World) (g o : Nat) (y0 y1 y2 y3 y4 : Value) : (put5 w g o y0 y1 y2 y3 y4).heap.size = w.heap.size := by unfold put5; simp only [csize_set]
theorem put5_heap (w : World) (g o : Nat) (y0 y1 y2 y3 y4 : Value) {k : Nat} (hk : k ≠ g) : (put5 w g o y0 y1 y2 y3 y4).heap[k]? = w.heap[k]? := by
  unfold put5
  rw [Below.heap_setCell _ _ _ _ hk, Below.heap_setCell _ _ _ _ hk, Below.heap_setCell _ _ _ _ hk, Below.heap_setCell _ _ _ _ hk, Below.heap_setCell _ _ _ _ hk]
theorem take_set_mid {α : Type} (xs : List α) (zs : List α) (rest : List α) (i : Nat) (u : α) (hi : i < zs.length) : (xs ++ zs ++ rest).set (xs.length + i) u = xs ++ zs.set i u ++ rest := by
  rw [List.append_assoc, List.set_append_right _ _ (by omega), List.append_assoc, show xs.length + i - xs.length = i by omega, List.set_append_left _ _ hi]
/-- A store into the last element of an own row. -/
theorem own_store {w : World} {b0 gn n cap size : Nat} {e : TypeId} {xs zs : List Value} (h : w.ownsRow b0 e size (.slice (some ⟨gn, 0, none⟩) n cap) n (xs ++ zs)) (i : Nat) (u : Value) (hi : i < zs.length) :
    (w.setCell ⟨gn, xs.length + i, none⟩ u).ownsRow b0 e size (.slice (some ⟨gn, 0, none⟩) n cap) n (xs ++ zs.set i u) := by
  obtain ⟨h1, h2⟩ := h
  refine ⟨by simpa using h1, ?_⟩
  rcases h2 with ⟨h2, _⟩ | ⟨g, cap', cur, h2, h3, h4, h5, h6, h7, h8⟩
  · cases h2
  · injection h2 with e1 e2 e3
    injection e1 with e1
    injection e1 with e1 _ _
    subst e1; subst e3
    refine .inr ⟨gn, cap, cur.set! (xs.length + i) u, rfl, h3, ?_, h5, h6, by simpa using h7, ?_⟩
    · simp [World.setCell, Array.getElem?_modify, h4]
    · rw [Array.set!_eq_setIfInBounds, Array.toList_setIfInBounds]
      have hl : n * size ≤ cur.toList.length := by rw [Array.length_toList, h7]; exact Nat.mul_le_mul_right _ h5
      have hd : cur.toList = xs ++ zs ++ cur.toList.drop (n * size) := by rw [← h8, List.take_append_drop]
      rw [hd, take_set_mid _ _ _ _ _ hi, List.take_append_of_le_length (by rw [List.length_append, List.length_set, ← List.length_append, h1]; exact Nat.le_refl _), List.take_of_length_le (by rw [List.length_append, List.length_set, ← List.length_append, h1]; exact Nat.le_refl _)]
theorem own_put5 {w : World} {b0 gn n cap : Nat} {e : TypeId} {xs : List Value} {z0 z1 z2 z3 z4 : Value} (h : w.ownsRow b0 e 5 (.slice (some ⟨gn, 0, none⟩) (n + 1) cap) (n + 1) (xs ++ [z0, z1, z2, z3, z4])) (hx : xs.length = n * 5) (y0 y1 y2 y3 y4 : Value) :
    (put5 w gn (n * 5) y0 y1 y2 y3 y4).ownsRow b0 e 5 (.slice (some ⟨gn, 0, none⟩) (n + 1) cap) (n + 1) (xs ++ [y0, y1, y2, y3, y4]) := by
  have h0 := own_store h 0 y0 (by simp)
  have h1 := own_store h0 1 y1 (by simp)
  have h2 := own_store h1 2 y2 (by simp)
  have h3 := own_store h2 3 y3 (by simp)
  have h4 := own_store h3 4 y4 (by simp)
  rw [hx] at h4
  exact h4
theorem own_five {w : World} {b0 gn n cap : Nat} {e : TypeId} {xs : List Value} {z0 z1 z2 z3 z4 : Value} (h : w.ownsRow b0 e 5 (.slice (some ⟨gn, 0, none⟩) (n + 1) cap) (n + 1) (xs ++ [z0, z1, z2, z3, z4])) (hx : xs.length = n * 5) :
    (w.cell? ⟨gn, n * 5, none⟩ = some z0 ∧ w.cell? ⟨gn, n * 5 + 1, none⟩ = some z1 ∧ w.cell? ⟨gn, n * 5 + 2, none⟩ = some z2 ∧ w.cell? ⟨gn, n * 5 + 3, none⟩ = some z3 ∧ w.cell? ⟨gn, n * 5 + 4, none⟩ = some z4) ∧
    (w.frozen? ⟨gn, n * 5, none⟩ = false ∧ w.frozen? ⟨gn, n * 5 + 1, none⟩ = false ∧ w.frozen? ⟨gn, n * 5 + 2, none⟩ = false ∧ w.frozen? ⟨gn, n * 5 + 3, none⟩ = false ∧ w.frozen? ⟨gn, n * 5 + 4, none⟩ = false) := by
  have hc : ∀ i, i < 5 → w.cell? ⟨gn, n * 5 + i, none⟩ = [z0, z1, z2, z3, z4][i]? := fun i hi => by
    have h5 : ([z0, z1, z2, z3, z4] : List Value).length = 5 := rfl
    have := World.ownsRow.cells h (g := gn) rfl (n * 5 + i) ([z0, z1, z2, z3, z4][i]'(by omega)) (by
      rw [List.getElem?_append_right (by omega), hx, show n * 5 + i - n * 5 = i by omega, List.getElem?_eq_getElem (by omega)])
    rw [add_head] at this
    rw [this, List.getElem?_eq_getElem (by omega)]
  have hf : ∀ i, w.frozen? ⟨gn, i, none⟩ = false := fun i => by
    rcases h.2 with ⟨h2, _⟩ | ⟨g, cap', cur, h2, h3, h4, _⟩
    · cases h2
    · injection h2 with e1 e2 e3
      injection e1 with e1
      injection e1 with e1 _ _
      subst e1
      simp [World.frozen?, h4]
  exact ⟨⟨hc 0 (by omega), hc 1 (by omega), hc 2 (by omega), hc 3 (by omega), hc 4 (by omega)⟩, hf _, hf _, hf _, hf _, hf _⟩
theorem own_push5 {b0 : Nat} {wr w4 W : World} {m : Nat} {uv : Value} {l : List Dt} {r : Dt} {a : Option Addr} {c : Nat} {a' : Option Addr} {c' gn cap n : Nat} {xs : List Value}
    (hf : FlatD (PZ b0 uv.ownBlock wr m) xs l) (hn : l.length = n) (hb : b0 ≤ wr.heap.size) (hp : PZ wr.heap.size none w4 m r a c a' c')
    (ho : W.ownsRow b0 25 5 (.slice (some ⟨gn, 0, none⟩) (n + 1) cap) (n + 1) (xs ++ datCs r a c a' c')) (s1 : wr.heap.size ≤ w4.heap.size) (s2 : w4.heap.size ≤ W.heap.size)
    (k1 : ∀ k, b0 ≤ k → k < wr.heap.size → some k ≠ uv.ownBlock → W.heap[k]? = wr.heap[k]? ∧ k ≠ gn) (k2 : ∀ k, wr.heap.size ≤ k → k < w4.heap.size → W.heap[k]? = w4.heap[k]? ∧ k ≠ gn) :
    OwnD (PZ b0 (Value.slice (some ⟨gn, 0, none⟩) (n + 1) cap).ownBlock W m) W b0 (.slice (some ⟨gn, 0, none⟩) (n + 1) cap) (l ++ [r]) := by
  refine ⟨_, by rw [List.length_append, hn]; exact ho, FlatD.append (hf.turn fun x b q b' q' hx => ?_) (FlatD.one ?_)⟩
  · exact PZ.turn hx (Nat.le_trans s1 s2) fun k h1 h2 h3 => ⟨(k1 k h1 h2 h3).1, h1, fun e => (k1 k h1 h2 h3).2 (by injection e)⟩
  · exact PZ.turn hp s2 fun k h1 h2 _ => ⟨(k2 k h1 h2).1, by omega, fun e => (k2 k h1 h2).2 (by injection e)⟩
theorem own_push6 {b0 : Nat} {wr w4 W : World} {m : Nat} {uv : Value} {l : List (ByteArray × Dt)} {r : ByteArray × Dt} {a : Option Addr} {c : Nat} {a' : Option Addr} {c' gn cap n : Nat} {xs : List Value}
    (hf : FlatM (PZ b0 uv.ownBlock wr m) xs l) (hn : l.length = n) (hb : b0 ≤ wr.heap.size) (hp : PZ wr.heap.size none w4 m r.2 a c a' c')
    (ho : W.ownsRow b0 57 6 (.slice (some ⟨gn, 0, none⟩) (n + 1) cap) (n + 1) (xs ++ .string r.1 :: datCs r.2 a c a' c')) (s1 : wr.heap.size ≤ w4.heap.size) (s2 : w4.heap.size ≤ W.heap.size)
    (k1 : ∀ k, b0 ≤ k → k < wr.heap.size → some k ≠ uv.ownBlock → W.heap[k]? = wr.heap[k]? ∧ k ≠ gn) (k2 : ∀ k, wr.heap.size ≤ k → k < w4.heap.size → W.heap[k]? = w4.heap[k]? ∧ k ≠ gn) :
    OwnM (PZ b0 (Value.slice (some ⟨gn, 0, none⟩) (n + 1) cap).ownBlock W m) W b0 (.slice (some ⟨gn, 0, none⟩) (n + 1) cap) (l ++ [r]) := by
  refine ⟨_, by rw [List.length_append, hn]; exact ho, FlatM.append (hf.turn fun x b q b' q' hx => ?_) (FlatM.one ?_)⟩
  · exact PZ.turn hx (Nat.le_trans s1 s2) fun k h1 h2 h3 => ⟨(k1 k h1 h2 h3).1, h1, fun e => (k1 k h1 h2 h3).2 (by injection e)⟩
  · exact PZ.turn hp s2 fun k h1 h2 _ => ⟨(k2 k h1 h2).1, by omega, fun e => (k2 k h1 h2).2 (by injection e)⟩
/-- The state of reading a list. -/
def ItI (w : World) (g b1 b2 b3 b0 m : Nat) (l : List Dt) (wr : World) : Prop :=
  ∃ u, VSt w g b1 b2 b3 b0 [.int .i64 5, .int .i64 0, .string ⟨#[]⟩, u, .slice none 0 0] wr ∧ OwnD (PZ b0 u.ownBlock wr m) wr b0 u l
theorem ItI.px {w wr W : World} {g b1 b2 b3 b0 m : Nat} {l : List Dt} (h : ItI w g b1 b2 b3 b0 m l wr) (hX : Px g wr W) : ItI w g b1 b2 b3 b0 m l W := by
  obtain ⟨u, h1, h2⟩ := h
  exact ⟨u, h1.px hX, h2.px hX (by have := h1.1; omega)⟩
theorem zero_one : ∀ u ∈ ([.int .i64 0, .int .i64 0, .string ⟨#[]⟩, .slice none 0 0, .slice none 0 0] : List Value), u.oneCell' = true := fun u hu => by
  simp at hu
  rcases hu with rfl | rfl | rfl | rfl <;> rfl

def itemR (l : List Dt) : Except Flt (Dt × Nat) → Except Flt (List Dt × Nat)
  | .error f => .error f
  | .ok (d, j) => .ok (l ++ [d], j)
theorem itemS_eq (v : Nat → Except Flt (Dt × Nat)) (l : List Dt) (i : Nat) : itemS v l i = itemR l (v i) := by
  unfold itemS itemR; rfl

theorem put5_px {g w0s : Nat} {w0 w : World} (h : Px g w0 w) (hs : w0s = w0.heap.size) {gn : Nat} (hg : w0s ≤ gn) (o : Nat) (y0 y1 y2 y3 y4 : Value) : Px g w0 (put5 w gn o y0 y1 y2 y3 y4) := by
  subst hs
  unfold put5
  exact ((((h.setFar (p := ⟨gn, _, none⟩) hg _).setFar (p := ⟨gn, _, none⟩) hg _).setFar (p := ⟨gn, _, none⟩) hg _).setFar (p := ⟨gn, _, none⟩) hg _).setFar (p := ⟨gn, _, none⟩) hg _
theorem VSt.put5 {w0 w : World} {g b1 b2 b3 b0 : Nat} {D3 : List Value} (h : VSt w0 g b1 b2 b3 b0 D3 w) {gn : Nat} (hg : b0 ≤ gn) (o : Nat) (y0 y1 y2 y3 y4 : Value) : VSt w0 g b1 b2 b3 b0 D3 (put5 w gn o y0 y1 y2 y3 y4) :=
  h.turn (put5_px h.2.2.1 h.1.1.symm (by have := h.1; omega) o y0 y1 y2 y3 y4) (by rw [put5_size]; exact Nat.le_refl _) fun k k1 k2 => put5_heap _ _ _ _ _ _ _ _ (by omega)
theorem VSt.grown {w0 w W : World} {g b1 b2 b3 b0 : Nat} {D3 : List Value} (h : VSt w0 g b1 b2 b3 b0 D3 w) {row : Option Nat} (hg : w.grownBy W row) (hr : ∀ k, row = some k → b0 ≤ k) : VSt w0 g b1 b2 b3 b0 D3 W :=
  h.turn (h.2.2.1.grown hg fun k e => by have := hr k e; have := h.1; omega) hg.size fun k k1 k2 => hg.block k (by have := h.2.1; omega) fun e => by have := hr k e.symm; omega
/-- The end of one more item. -/
theorem item_fin {w0 w w4 wv w5 W : World} {S : ByteArray} {g b1 b2 b3 b0 m n q j gn cap : Nat} {A : Option Addr} {l : List Dt} {d : Dt} {a : Option Addr} {c : Nat} {a' : Option Addr} {c' : Nat} {xs : List Value} {z0 z1 z2 z3 z4 u0 u1 u2 u3 u4 : Value}
    (hST : VSt w0 g b1 b2 b3 b0 [.int .i64 5, .int .i64 0, .string ⟨#[]⟩, .slice A n q, .slice none 0 0] w) (ho : w.ownsRow b0 25 5 (.slice A n q) n xs) (hf : FlatD (PZ b0 (Value.slice A n q).ownBlock w m) xs l) (hn : l.length = n)
    (hX : Px g w w4) (hR : Pr w4 g S j) (hP : PZ w.heap.size none w4 m d a c a' c') (hv : Below w4.heap.size w4 wv)
    (o1 : w5.ownsRow b0 25 5 (.slice (some ⟨gn, 0, none⟩) (n + 1) cap) (n + 1) (xs ++ [z0, z1, z2, z3, z4])) (o2 : wv.grownBy w5 (Value.slice A n q).ownBlock) (o3 : (Value.slice A n q).ownBlock = some gn ∨ gn = wv.heap.size)
    (hu : datCs d a c a' c' = [u0, u1, u2, u3, u4])
    (hW : W = (put5 w5 gn (n * 5) u0 u1 u2 u3 u4).setCell ⟨b3, 3, none⟩ (.slice (some ⟨gn, 0, none⟩) (n + 1) cap) ∨ W = put5 (w5.setCell ⟨b3, 3, none⟩ (.slice (some ⟨gn, 0, none⟩) (n + 1) cap)) gn (n * 5) u0 u1 u2 u3 u4) :
    Pr W g S j ∧ ItI w0 g b1 b2 b3 b0 m (l ++ [d]) W := by
  have hob : ∀ k, (Value.slice A n q).ownBlock = some k → b0 ≤ k ∧ k < w.heap.size := fun k e => ho.lt k e
  have hx : xs.length = n * 5 := ho.1
  have hb := hST.1
  have hbs := hST.2.1
  have hgn : b0 ≤ gn := by
    rcases o3 with e | e
    · exact (hob gn e).1
    · have := hv.size; have := hX.size; omega
  have hS5 : VSt w0 g b1 b2 b3 b0 [.int .i64 5, .int .i64 0, .string ⟨#[]⟩, .slice A n q, .slice none 0 0] w5 := ((hST.px hX).px (Px.of_below hv)).grown o2 fun k e => (hob k e).1
  have h6 : W.heap.size = w5.heap.size ∧ (∀ k, k ≠ gn → k ≠ b3 → W.heap[k]? = w5.heap[k]?) ∧ W.ownsRow b0 25 5 (.slice (some ⟨gn, 0, none⟩) (n + 1) cap) (n + 1) (xs ++ [u0, u1, u2, u3, u4]) ∧
      VSt w0 g b1 b2 b3 b0 [.int .i64 5, .int .i64 0, .string ⟨#[]⟩, .slice (some ⟨gn, 0, none⟩) (n + 1) cap, .slice none 0 0] W := by
    rcases hW with rfl | rfl
    · refine ⟨by rw [csize_set, put5_size], fun k k1 k2 => by rw [Below.heap_setCell _ _ _ _ k2, put5_heap _ _ _ _ _ _ _ _ k1], own_set (own_put5 o1 hx _ _ _ _ _) (by show b3 < b0; omega) _, (hS5.put5 hgn _ _ _ _ _ _).set 3 _⟩
    · refine ⟨by rw [put5_size, csize_set], fun k k1 k2 => by rw [put5_heap _ _ _ _ _ _ _ _ k1, Below.heap_setCell _ _ _ _ k2], own_put5 (own_set o1 (by show b3 < b0; omega) _) hx _ _ _ _ _, (hS5.set 3 _).put5 hgn _ _ _ _ _ _⟩
  obtain ⟨s6, k6, own6, st6⟩ := h6
  have e5 : ∀ k, k < w4.heap.size → some k ≠ (Value.slice A n q).ownBlock → w5.heap[k]? = w4.heap[k]? := fun k k1 k2 => (o2.block k (Nat.lt_of_lt_of_le k1 hv.size) k2).trans (hv.block k k1)
  have hgb : some g ≠ (Value.slice A n q).ownBlock := fun e => by have := (hob g e.symm).1; omega
  have hsz : w4.heap.size ≤ W.heap.size := by rw [s6]; exact Nat.le_trans hv.size o2.size
  refine ⟨(k6 g (by omega) (by omega)).trans ((e5 g (Row.lt hR) hgb).trans hR), _, st6, ?_⟩
  refine own_push5 hf hn hbs hP (by rw [hu]; exact own6) hX.size hsz (fun k k1 k2 k3 => ?_) fun k k1 k2 => ?_
  · have hne : k ≠ gn := by
      rcases o3 with e | e
      · intro e'; exact k3 (by rw [e, e'])
      · have := hv.size; have := hX.size; omega
    exact ⟨(k6 k hne (by omega)).trans ((e5 k (Nat.lt_of_lt_of_le k2 hX.size) k3).trans (hX.2 k k2 (by omega))), hne⟩
  · have hnb : some k ≠ (Value.slice A n q).ownBlock := fun e => by have := (hob k e.symm).2; omega
    have hne : k ≠ gn := by
      rcases o3 with e | e
      · intro e'; exact hnb (by rw [e, e'])
      · have := hv.size; omega
    exact ⟨(k6 k hne (by omega)).trans (e5 k k2 hnb), hne⟩

set_option maxRecDepth 20000 in
set_option maxHeartbeats 1000000 in
theorem item_run (S : ByteArray) (w0 : World) (g b1 b2 b3 b0 m : Nat) (l : List Dt) (w : World) (r : Except Flt (Dt × Nat)) (hI : ItI w0 g b1 b2 b3 b0 m l w) (hl : l.length ≤ 1000000000)
    (hv : ∀ W, Below w.heap.size w W → Calls Tryz.prog 24 #[.pointer (some ⟨g, 0, none⟩)] W (VPost g S W m r)) :
    Calls Tryz.prog 42 #[.pointer (some ⟨b3, 0, none⟩), .pointer (some ⟨b1, 0, none⟩)] w (KPost (ItI w0 g b1 b2 b3 b0 m) g S w0 (itemR l r)) := by
  obtain ⟨u, hST, hO⟩ := hI
  obtain ⟨i0, hi0, hz0, hz1, hz2⟩ := info_parts infoD
  obtain ⟨n, hn⟩ : ∃ n, n = l.length := ⟨_, rfl⟩
  obtain ⟨xs, ho, hf⟩ := hO
  rw [← hn] at ho hl
  have hu : ∃ A q, u = .slice A n q := by
    rcases ho.2 with ⟨rfl, rfl⟩ | ⟨gg, cap, cur, rfl, _⟩
    · exact ⟨_, _, rfl⟩
    · exact ⟨_, _, rfl⟩
  obtain ⟨A, q, rfl⟩ := hu
  have HO := hide ho; have HF := hide hf; have HN := Lib.hid hn; have HV := hide hv; have HS := hide hST
  have hgb : g < b0 := by have := hST.1; omega
  obtain ⟨t0, t1, t2, t3, t4⟩ := row5 hST.2.2.2.2.2
  have p1 : w.cell? ⟨b1, 0, none⟩ = some (.pointer (some ⟨g, 0, none⟩)) := hST.2.2.2.1.cell 0
  have q3 := hST.2.2.2.2.2.frozen 3
  have hb3 : b3 < b0 := by have := hST.1; omega
  have hb1 : b1 ≠ b3 := by have := hST.1; omega
  cases r with
  | error f =>
    clear ho hf hn hv
    go_enter Tryz.func42, Tryz.ntmps42
    have HC := hide fun W (h : Px g w W) => (And.intro ((hST.px h).2.2.2.2.2.cell 3) ((hST.px h).2.2.2.1.cell 0) : W.cell? ⟨b3, 3, none⟩ = some (.slice A n q) ∧ W.cell? ⟨b1, 0, none⟩ = some (.pointer (some ⟨g, 0, none⟩)))
    clear hST
    refine wp_region_any (by kernel_rfl) (wpAny_of_held (S := fun W => W.cell? ⟨b3, 3, none⟩ = some (.slice A n q) ∧ W.cell? ⟨b1, 0, none⟩ = some (.pointer (some ⟨g, 0, none⟩))) _ _ _ _ ?_)
    have hH := HC.out w.drew Px.refl.drew
    refine takeH (i := 0) (v := ?_) rfl (by kernel_rfl) (by kernel_rfl) (by kernel_rfl) (fun _ _ _ h => h) (Or.inl ⟨by rfl, ?_⟩) hH ?_
    rotate_left
    · (intro w hSw; (try dsimp only at hSw); go_simp; try with_reducible rfl)
    simp only [Act.put, List.setIfInBounds_toArray, List.set_cons_zero, List.set_cons_succ]
    refine takeH (i := 1) (v := ?_) rfl (by kernel_rfl) (by kernel_rfl) (by kernel_rfl) (fun _ _ _ h => h) (Or.inl ⟨by rfl, ?_⟩) hH ?_
    rotate_left
    · (intro w hSw; (try dsimp only at hSw); go_simp; try with_reducible rfl)
    simp only [Act.put, List.setIfInBounds_toArray, List.set_cons_zero, List.set_cons_succ]
    refine takeH (i := 2) (v := ?_) rfl (by kernel_rfl) (by kernel_rfl) (by kernel_rfl) (fun _ _ _ h => h) (Or.inl ⟨by rfl, ?_⟩) hH ?_
    rotate_left
    · (intro w hSw; (try dsimp only at hSw); go_simp; try with_reducible rfl)
    simp only [Act.put, List.setIfInBounds_toArray, List.set_cons_zero, List.set_cons_succ]
    refine takeH (i := 4) (v := ?_) rfl (by kernel_rfl) (by kernel_rfl) (by kernel_rfl) (fun _ _ _ h => h) (Or.inl ⟨by rfl, ?_⟩) hH ?_
    rotate_left
    · (intro w hSw; (try dsimp only at hSw); go_simp; try with_reducible rfl)
    simp only [Act.put, List.setIfInBounds_toArray, List.set_cons_zero, List.set_cons_succ]
    refine twoH (i := 3) (j := 5) rfl rfl (by kernel_rfl) (fun K hK => ?_) (fun K hK => ?_)
    · go_simp
      go_at_call 24
      refine (HV.out w.drew (Below.refl _ _).drew).mono ?_; rintro e w4 ⟨rfl, hx⟩
      exact ⟨rfl, rfl, HS.out.2.2.1.trans (Px.refl.drew.trans hx)⟩
    · go_simp
      have hX := (Px.refl (g := g) (w := w)).drew.alloc (.cells #[.int .i64 0, .int .i64 0, .string ⟨#[]⟩, .slice none 0 0, .slice none 0 0] 25)
      refine hK.out _ _ (HC.out _ hX) (fun hH => ?_)
      clear hK K
      refine oneH (i := 3) rfl (by kernel_rfl) (fun K hK => ?_)
      go_simp
      go_at_call 24
      refine (HV.out _ ((Below.refl _ _).drew.alloc (Nat.le_refl _) _)).mono ?_; rintro e w4 ⟨rfl, hx⟩
      exact ⟨rfl, rfl, HS.out.2.2.1.trans (hX.trans hx)⟩
  | ok p =>
    obtain ⟨d, j⟩ := p
    clear hST ho hf hn hv
    unfold VPost datV datCs at HV
    go_enter Tryz.func42, Tryz.ntmps42
    have hb0w := HS.out.2.1
    have hgn0 : ∀ {wv : World} {gn : Nat}, w.heap.size ≤ wv.heap.size → ((Value.slice A n q).ownBlock = some gn ∨ gn = wv.heap.size) → gn ≠ b3 := fun {wv gn} hs h => by
      rcases h with e | e
      · have := (HO.out.lt gn e).1; omega
      · omega
    have HC5 := hide fun wv w5 (hX : Px g w wv) (o2 : wv.grownBy w5 (Value.slice A n q).ownBlock) => (And.intro (((HS.out.px hX).grown o2 fun k e => (HO.out.lt k e).1).2.2.2.2.2.cell 3) (((HS.out.px hX).grown o2 fun k e => (HO.out.lt k e).1).2.2.2.2.2.frozen 3) : w5.cell? ⟨b3, 3, none⟩ = some (.slice A n q) ∧ w5.frozen? ⟨b3, 3, none⟩ = false)
    have hlt : (n : Int) < (n : Int) + 1 := by omega
    have HC := hide fun W (h : Px g w W) => (And.intro ((HS.out.px h).2.2.2.2.2.cell 3) ((HS.out.px h).2.2.2.1.cell 0) : W.cell? ⟨b3, 3, none⟩ = some (.slice A n q) ∧ W.cell? ⟨b1, 0, none⟩ = some (.pointer (some ⟨g, 0, none⟩)))
    refine region_head 6 (fun W => W.cell? ⟨b3, 3, none⟩ = some (.slice A n q) ∧ W.cell? ⟨b1, 0, none⟩ = some (.pointer (some ⟨g, 0, none⟩))) _ (by kernel_rfl) (by kernel_rfl) (HC.out _ Px.refl.drew) (fun _ _ h => h) (fun hH => ?_)
    simp only [List.take_succ_cons, List.take_zero]
    clear t0 t1 t2 t3 t4 p1 q3
    refine takeH (i := 0) (v := ?_) rfl (by kernel_rfl) (by kernel_rfl) (by kernel_rfl) (fun _ _ _ h => h) (Or.inl ⟨by rfl, ?_⟩) hH ?_
    rotate_left
    · (intro w hSw; (try dsimp only at hSw); go_simp; try with_reducible rfl)
    simp only [Act.put, List.setIfInBounds_toArray, List.set_cons_zero, List.set_cons_succ]
    refine takeH (i := 1) (v := ?_) rfl (by kernel_rfl) (by kernel_rfl) (by kernel_rfl) (fun _ _ _ h => h) (Or.inl ⟨by rfl, ?_⟩) hH ?_
    rotate_left
    · (intro w hSw; (try dsimp only at hSw); go_simp; try with_reducible rfl)
    simp only [Act.put, List.setIfInBounds_toArray, List.set_cons_zero, List.set_cons_succ]
    refine takeH (i := 2) (v := ?_) rfl (by kernel_rfl) (by kernel_rfl) (by kernel_rfl) (fun _ _ _ h => h) (Or.inl ⟨by rfl, ?_⟩) hH ?_
    rotate_left
    · (intro w hSw; (try dsimp only at hSw); go_simp; try with_reducible rfl)
    simp only [Act.put, List.setIfInBounds_toArray, List.set_cons_zero, List.set_cons_succ]
    refine takeH (i := 4) (v := ?_) rfl (by kernel_rfl) (by kernel_rfl) (by kernel_rfl) (fun _ _ _ h => h) (Or.inl ⟨by rfl, ?_⟩) hH ?_
    rotate_left
    · (intro w hSw; (try dsimp only at hSw); go_simp; try with_reducible rfl)
    simp only [Act.put, List.setIfInBounds_toArray, List.set_cons_zero, List.set_cons_succ]
    refine twoH (i := 3) (j := 5) rfl rfl (by kernel_rfl) (fun K hK => ?_) (fun K hK => ?_)
    · go_simp
      go_at_call 24
      refine (HV.out w.drew (Below.refl _ _).drew).mono ?_; rintro e w4 ⟨⟨ra, rc, ra', rc', rfl, hP4⟩, hR4, hX4⟩
      have hX5 := Px.refl.drew.trans hX4
      have hP5 : PZ w.heap.size none w4 m d ra rc ra' rc' := hP4
      refine hK.out _ _ (HC.out _ hX5) (fun hH => ?_)
      clear hK K
      refine oneH (i := 5) rfl (by kernel_rfl) (fun K hK => ?_)
      go_simp
      refine hK.out _ _ (HC.out _ (hX5.alloc _)) (fun hH => ?_)
      clear hK K hH HC
      refine wpAnyH_done (by kernel_rfl) ?_ _
      unfold TailG
      refine wpAny_of_held (S := fun _ => True) _ _ _ _ ?_
      have hH : True := trivial
      refine oneH (i := 6) rfl (by kernel_rfl) (fun K hK => ?_)
      refine step_append_lies _ rfl (.tmp 3) (.tmp 7) _ rfl b0 25 i0 (.agg #[.int .i64 0, .int .i64 0, .string ⟨#[]⟩, .slice none 0 0, .slice none 0 0]) 5 80 Tryz.underlying22 hi0 hz0 hz1 hz2 rfl (by omega) (.slice A n q) n xs rfl ((own_px HO.out hX5 hgb).alloc _) ⟨w4.heap.size, 0, none⟩ 1 1 [.int .i64 0, .int .i64 0, .string ⟨#[]⟩, .slice none 0 0, .slice none 0 0] rfl rfl (World.news_of_block (heap_alloc_new _ _)) zero_one (by omega) (by unfold maxLen; omega) (by omega) (by have := hX5.size; simp; omega) _ rfl ?_
      intro gn cap w5 o1 o2 o3 o4
      obtain ⟨⟨y0, y1, y2, y3, y4⟩, v0, v1, v2, v3, v4⟩ := own_five o1 HO.out.1
      have hgn := hgn0 (by have := hX5.size; simp; omega) o3
      have hgn2 := Ne.symm hgn
      obtain ⟨hRz, hFz⟩ := HC5.out _ _ (hX5.alloc _) o2
      have HFIN := hide fun W hW => item_fin (W := W) HS.out HO.out HF.out HN.out.symm hX5 hR4 hP5 ((Below.refl _ _).alloc (Nat.le_refl _) _) o1 o2 o3 rfl hW
      unfold put5 at HFIN
      refine hK.out _ _ trivial (fun hH => ?_)
      clear hK K o1 o2 o3 o4 hX5 hR4 hP5 hP4 HV HS HO HF HC5
      refine takeH (i := 9) (v := ?_) rfl (by kernel_rfl) (by kernel_rfl) (by kernel_rfl) (fun _ _ _ h => h) (Or.inl ⟨by rfl, ?_⟩) hH ?_
      rotate_left
      · (intro w hSw; (try dsimp only at hSw); go_simp; try with_reducible rfl)
      simp only [Act.put, List.setIfInBounds_toArray, List.set_cons_zero, List.set_cons_succ]
      refine takeH (i := 7) (v := ?_) rfl (by kernel_rfl) (by kernel_rfl) (by kernel_rfl) (fun _ _ _ h => h) (Or.inl ⟨by rfl, ?_⟩) hH ?_
      rotate_left
      · (intro w hSw; (try dsimp only at hSw); go_simp; try with_reducible rfl)
      simp only [Act.put, List.setIfInBounds_toArray, List.set_cons_zero, List.set_cons_succ]
      refine twoH (i := 8) (j := 10) rfl rfl (by kernel_rfl) (fun K hK => ?_) (fun K hK => ?_)
      · go_simp
        refine hK.out _ _ trivial (fun hH => ?_)
        clear hK K
        refine oneH (i := 10) rfl (by kernel_rfl) (fun K hK => ?_)
        go_simp
        refine hK.out _ _ trivial (fun hH => ?_)
        clear hK K
        refine wpAnyH_done (by kernel_rfl) ?_ _
        go_end0
        show _ ∧ Pr _ g S j ∧ ItI w0 g b1 b2 b3 b0 m (l ++ [d]) _
        refine ⟨rfl, HFIN.out _ ?_⟩
        with_reducible exact .inl rfl
      · go_simp
        refine hK.out _ _ trivial (fun hH => ?_)
        clear hK K
        refine oneH (i := 8) rfl (by kernel_rfl) (fun K hK => ?_)
        go_simp
        refine hK.out _ _ trivial (fun hH => ?_)
        clear hK K
        refine wpAnyH_done (by kernel_rfl) ?_ _
        go_end0
        show _ ∧ Pr _ g S j ∧ ItI w0 g b1 b2 b3 b0 m (l ++ [d]) _
        refine ⟨rfl, HFIN.out _ ?_⟩
        with_reducible exact .inr rfl
    · go_simp
      have hXa := (Px.refl (g := g) (w := w)).drew.alloc (.cells #[.int .i64 0, .int .i64 0, .string ⟨#[]⟩, .slice none 0 0, .slice none 0 0] 25)
      refine hK.out _ _ (HC.out _ hXa) (fun hH => ?_)
      clear hK K
      refine oneH (i := 3) rfl (by kernel_rfl) (fun K hK => ?_)
      go_simp
      go_at_call 24
      refine (HV.out _ ((Below.refl _ _).drew.alloc (Nat.le_refl _) _)).mono ?_; rintro e w4 ⟨⟨ra, rc, ra', rc', rfl, hP4⟩, hR4, hX4⟩
      have hX5 := hXa.trans hX4
      have hP5 : PZ w.heap.size none w4 m d ra rc ra' rc' := hP4.turn (Nat.le_refl _) (fun k k1 k2 _ => ⟨rfl, by simp at k1; omega, by simp⟩)
      have hN4 := (hX4.2 w.heap.size (by simp) (by omega)).trans (heap_alloc_new w.drew (.cells #[.int .i64 0, .int .i64 0, .string ⟨#[]⟩, .slice none 0 0, .slice none 0 0] 25))
      refine hK.out _ _ (HC.out _ hX5) (fun hH => ?_)
      clear hK K hH HC
      refine wpAnyH_done (by kernel_rfl) ?_ _
      unfold TailG
      refine wpAny_of_held (S := fun _ => True) _ _ _ _ ?_
      have hH : True := trivial
      refine oneH (i := 6) rfl (by kernel_rfl) (fun K hK => ?_)
      refine step_append_lies _ rfl (.tmp 3) (.tmp 7) _ rfl b0 25 i0 (.agg #[.int .i64 0, .int .i64 0, .string ⟨#[]⟩, .slice none 0 0, .slice none 0 0]) 5 80 Tryz.underlying22 hi0 hz0 hz1 hz2 rfl (by omega) (.slice A n q) n xs rfl (own_px HO.out hX5 hgb) ⟨w.heap.size, 0, none⟩ 1 1 [.int .i64 0, .int .i64 0, .string ⟨#[]⟩, .slice none 0 0, .slice none 0 0] rfl rfl (World.news_of_block hN4) zero_one (by omega) (by unfold maxLen; omega) (by omega) (by have := hX5.size; simp; omega) _ rfl ?_
      intro gn cap w5 o1 o2 o3 o4
      obtain ⟨⟨y0, y1, y2, y3, y4⟩, v0, v1, v2, v3, v4⟩ := own_five o1 HO.out.1
      have hgn := hgn0 (by have := hX5.size; simp; omega) o3
      have hgn2 := Ne.symm hgn
      obtain ⟨hRz, hFz⟩ := HC5.out _ _ hX5 o2
      have HFIN := hide fun W hW => item_fin (W := W) HS.out HO.out HF.out HN.out.symm hX5 hR4 hP5 (Below.refl _ _) o1 o2 o3 rfl hW
      unfold put5 at HFIN
      refine hK.out _ _ trivial (fun hH => ?_)
      clear hK K o1 o2 o3 o4 hX5 hR4 hP5 hP4 HV HS HO HF HC5
      refine takeH (i := 9) (v := ?_) rfl (by kernel_rfl) (by kernel_rfl) (by kernel_rfl) (fun _ _ _ h => h) (Or.inl ⟨by rfl, ?_⟩) hH ?_
      rotate_left
      · (intro w hSw; (try dsimp only at hSw); go_simp; try with_reducible rfl)
      simp only [Act.put, List.setIfInBounds_toArray, List.set_cons_zero, List.set_cons_succ]
      refine takeH (i := 7) (v := ?_) rfl (by kernel_rfl) (by kernel_rfl) (by kernel_rfl) (fun _ _ _ h => h) (Or.inl ⟨by rfl, ?_⟩) hH ?_
      rotate_left
      · (intro w hSw; (try dsimp only at hSw); go_simp; try with_reducible rfl)
      simp only [Act.put, List.setIfInBounds_toArray, List.set_cons_zero, List.set_cons_succ]
      refine twoH (i := 8) (j := 10) rfl rfl (by kernel_rfl) (fun K hK => ?_) (fun K hK => ?_)
      · go_simp
        refine hK.out _ _ trivial (fun hH => ?_)
        clear hK K
        refine oneH (i := 10) rfl (by kernel_rfl) (fun K hK => ?_)
        go_simp
        refine hK.out _ _ trivial (fun hH => ?_)
        clear hK K
        refine wpAnyH_done (by kernel_rfl) ?_ _
        go_end0
        show _ ∧ Pr _ g S j ∧ ItI w0 g b1 b2 b3 b0 m (l ++ [d]) _
        refine ⟨rfl, HFIN.out _ ?_⟩
        with_reducible exact .inl rfl
      · go_simp
        refine hK.out _ _ trivial (fun hH => ?_)
        clear hK K
        refine oneH (i := 8) rfl (by kernel_rfl) (fun K hK => ?_)
        go_simp
        refine hK.out _ _ trivial (fun hH => ?_)
        clear hK K
        refine wpAnyH_done (by kernel_rfl) ?_ _
        go_end0
        show _ ∧ Pr _ g S j ∧ ItI w0 g b1 b2 b3 b0 m (l ++ [d]) _
        refine ⟨rfl, HFIN.out _ ?_⟩
        with_reducible exact .inr rfl
end Go.Proofs.YtmmbbndoimleaaaGreatDoor

/- Is the label among the members? -/
namespace Go.Proofs.YtmmbbndoimleaaaGreatDoor
open Go.RowKit

def labV (m : ByteArray × Dt) (a : Option Addr) (c : Nat) (a' : Option Addr) (c' : Nat) : Value :=
  .agg #[.string m.1, .int .i64 (kD m.2), .int .i64 (nD m.2), .string (sD m.2), .slice a (iD m.2).length c, .slice a' (mD m.2).length c']
set_option maxHeartbeats 1000000 in
theorem same_label (m : ByteArray × Dt) (a : Option Addr) (c : Nat) (a' : Option Addr) (c' : Nat) (s : ByteArray) (lb : Nat) (w : World) (h : w.cell? ⟨lb, 0, none⟩ = some (.string s)) (hlb : lb < w.heap.size) :
    Calls Tryz.prog 68 #[labV m a c a' c', .pointer (some ⟨lb, 0, none⟩)] w fun e w' => e = .returned (.bool (m.1.toList == s.toList)) ∧ Below w.heap.size w w' := by
  have HC := hide fun W (hB : Below w.heap.size w W) => ((Same.of_below hB).cell (p := ⟨lb, 0, none⟩) hlb).trans h
  unfold labV
  go_enter Tryz.func68, Tryz.ntmps68
  go_upto_region 1 with fail
  obtain ⟨w2, g, e1, e2, hB, hR⟩ := boxM w m a c a' c'
  rw [e1, e2]
  obtain ⟨d0, d1, d2, d3, d4, d5⟩ := row6 hR
  have hc := HC.out _ hB
  have HB := hide hB
  clear hR hB e1 e2 h
  go_wp2_with fail
  all_goals
    go_ret
    exact ⟨rfl, HB.out⟩

set_option maxRecDepth 20000 in
set_option maxHeartbeats 2000000 in
theorem label_index (R : Reads) (u : Value) (l : List (ByteArray × Dt)) (s : ByteArray) (lb : Nat) (w : World) (h : w.cell? ⟨lb, 0, none⟩ = some (.string s)) (hlb : lb < w.heap.size) (hm : MemsR R w w.heap.size u l) :
    Calls Tryz.prog 88 #[u, .func (.func 68) #[] #[.pointer (some ⟨lb, 0, none⟩)]] w fun e w' =>
      (∃ k : Int, e = .returned (.int .i64 k) ∧ decide (0 ≤ k) = l.any fun m => m.1.toList == s.toList) ∧ Below w.heap.size w w' := by
  obtain ⟨A, c, rfl, h1, h2, hM⟩ := hm
  have hml := maxLen_le h2
  have HS := hide fun m a c a' c' W (hB : Below w.heap.size w W) => same_label m a c a' c' s lb W (((Same.of_below hB).cell (p := ⟨lb, 0, none⟩) hlb).trans h) (Nat.lt_of_lt_of_le hlb hB.size)
  unfold labV at HS
  have HM := hide hM
  obtain ⟨n, hn⟩ : ∃ n, n = l.length := ⟨_, rfl⟩
  rw [← hn] at h1 ⊢
  have HN := Lib.hid hn
  have H0 := hide (show Below w.heap.size w w ∧ ((l.take 0).any fun m => m.1.toList == s.toList) = false from ⟨Below.refl _ _, by simp⟩)
  clear h hM h2 hn
  go_enter Tryz.func88, Tryz.ntmps88
  go_wp2_with fail
  go_loopw [5, 8] (fun _ iv wr => ∃ i : Nat, iv = .int .i64 i ∧ i ≤ n ∧ Hid (Below w.heap.size w wr ∧ ((l.take i).any fun m => m.1.toList == s.toList) = false)) (fun _ iv _ => n - (intOf iv).toNat)
  case atStart => exact ⟨0, rfl, Nat.zero_le _, H0⟩
  case round =>
    clear H0
    obtain ⟨i, rfl, hi, hI⟩ := hrel
    by_cases hlt : i < n
    · have hlt' : i < l.length := by rw [← HN.out]; exact hlt
      obtain ⟨ad, rfl, hb, hlab, a, q, a', q', hfive, hpts⟩ := HM.out i _ (List.getElem?_eq_getElem hlt')
      obtain ⟨X, hX⟩ : ∃ X, X = l[i] := ⟨_, rfl⟩
      rw [← hX] at hlab hfive
      have hbb : (ad.add (i * 6)).block < w.heap.size := by rw [block_of_add]; exact hb
      obtain ⟨s0, s1, s2, s3, s4, s5⟩ := six_of (((Same.of_below hI.out.1).cell (p := ad.add (i * 6)) hbb).trans hlab) (hfive.same (p := ⟨_, _, none⟩) hbb (Same.of_below hI.out.1))
      have HS1 := hide (HS.out X a q a' q' _ hI.out.1)
      obtain ⟨b, hb2⟩ : ∃ b, b = (X.1.toList == s.toList) := ⟨_, rfl⟩
      have HT := hide (show ((l.take (i + 1)).any fun m => m.1.toList == s.toList) = b by
        rw [List.take_add_one, List.getElem?_eq_getElem hlt', ← hX, List.any_append, hI.out.2, hb2]; simp)
      rw [← hb2] at HS1
      clear hpts
      clear hX hlt' hfive hlab hb hb2
      have hlt2 : (i : Int) < (n : Int) := by omega
      go_wp2_with fail
      refine HS1.out.mono ?_; rintro e w2 ⟨rfl, hB2⟩
      have HB2 := hide (hI.out.1.trans (hB2.mono hI.out.1.size))
      clear hB2 HS1 s0 s1 s2 s3 s4 s5 hI
      cases b with
      | true =>
        go_wp2_with fail
        go_ret
        refine ⟨⟨_, rfl, ?_⟩, HB2.out⟩
        have h := HT.out
        rw [← List.take_append_drop (i + 1) l, List.any_append, h]
        simp
      | false =>
        go_wp2_with fail
        go_roundw
        case rel => exact ⟨i + 1, by go_num, hlt, hide ⟨HB2.out, HT.out⟩⟩
        case measure => simp [intOf]; omega
    · obtain rfl : i = n := by omega
      go_wp2_with fail
      go_ret
      refine ⟨⟨_, rfl, ?_⟩, hI.out.1⟩
      have h := hI.out.2
      rw [HN.out, List.take_length] at h
      rw [h]; rfl
theorem has_label (R : Reads) (u : Value) (l : List (ByteArray × Dt)) (s : ByteArray) (lb : Nat) (w : World) (h : w.cell? ⟨lb, 0, none⟩ = some (.string s)) (hlb : lb < w.heap.size) (hm : MemsR R w w.heap.size u l) :
    Calls Tryz.prog 67 #[u, .func (.func 68) #[] #[.pointer (some ⟨lb, 0, none⟩)]] w fun e w' =>
      e = .returned (.bool (l.any fun m => m.1.toList == s.toList)) ∧ Below w.heap.size w w' := by
  have HL := hide (label_index R u l s lb w h hlb hm)
  obtain ⟨b, hb⟩ : ∃ b, b = l.any fun m => m.1.toList == s.toList := ⟨_, rfl⟩
  rw [← hb] at HL ⊢
  clear hb hm
  go_enter Tryz.func67, Tryz.ntmps67
  go_wp2_with fail
  refine HL.out.mono ?_; rintro e w2 ⟨⟨k, rfl, hk⟩, hB2⟩
  have HB := hide hB2
  clear hB2 HL
  go_wp2_with fail
  go_ret
  exact ⟨rfl, HB.out⟩
end Go.Proofs.YtmmbbndoimleaaaGreatDoor

/- One more member. -/
namespace Go.Proofs.YtmmbbndoimleaaaGreatDoor
open Go.RowKit

/-- Below b0 nothing has changed but block g. -/
def KP (g b0 : Nat) (w w' : World) : Prop := Below 0 w w' ∧ ∀ k, k < b0 → k ≠ g → w'.heap[k]? = w.heap[k]?
theorem KP.of_px {g b0 : Nat} {w w' : World} (h : Px g w w') (hb : b0 ≤ w.heap.size) : KP g b0 w w' := ⟨h.1, fun k k1 k2 => h.2 k (by omega) k2⟩
theorem VSt.kp {w0 w W : World} {g b1 b2 b3 b0 : Nat} {D3 : List Value} (h : VSt w0 g b1 b2 b3 b0 D3 w) (hk : KP g b0 w W) : VSt w0 g b1 b2 b3 b0 D3 W := by
  have h0 := h.1
  exact h.turn ⟨h.2.2.1.1.trans hk.1, fun k k1 k2 => (hk.2 k (by omega) k2).trans (h.2.2.1.2 k k1 k2)⟩ hk.1.size fun k k1 k2 => hk.2 k k2 (by omega)
/-- What member hands back. -/
def MPost (g b0 m : Nat) (S : ByteArray) (w : World) (r : Except Flt (List (ByteArray × Dt) × Nat)) (e : Ending) (w' : World) : Prop :=
  match r with
  | .ok (l, j) => ∃ u, e = .returned u ∧ Pr w' g S j ∧ KP g b0 w w' ∧ OwnM (PZ b0 u.ownBlock w' m) w' b0 u l
  | .error f => FPost g w f e w'
/-- The end of one more member. -/
theorem mem_fin {w w4 wv W : World} {S : ByteArray} {g b0 m n j gn cap : Nat} {u : Value} {l : List (ByteArray × Dt)} {s : ByteArray} {d : Dt} {a : Option Addr} {c : Nat} {a' : Option Addr} {c' : Nat} {xs : List Value}
    (hg : g < b0) (hb0 : b0 ≤ w.heap.size) (ho : w.ownsRow b0 57 6 u n xs) (hf : FlatM (PZ b0 u.ownBlock w m) xs l) (hn : l.length = n)
    (hX : Px g w w4) (hR : Pr w4 g S j) (hP : PZ w.heap.size none w4 m d a c a' c') (hv : Below w4.heap.size w4 wv)
    (o1 : W.ownsRow b0 57 6 (.slice (some ⟨gn, 0, none⟩) (n + 1) cap) (n + 1) (xs ++ .string s :: datCs d a c a' c')) (o2 : wv.grownBy W u.ownBlock) (o3 : u.ownBlock = some gn ∨ gn = wv.heap.size) :
    Pr W g S j ∧ KP g b0 w W ∧ OwnM (PZ b0 (Value.slice (some ⟨gn, 0, none⟩) (n + 1) cap).ownBlock W m) W b0 (.slice (some ⟨gn, 0, none⟩) (n + 1) cap) (l ++ [(s, d)]) := by
  have hob : ∀ k, u.ownBlock = some k → b0 ≤ k ∧ k < w.heap.size := fun k e => ho.lt k e
  have e5 : ∀ k, k < w4.heap.size → some k ≠ u.ownBlock → W.heap[k]? = w4.heap[k]? := fun k k1 k2 => (o2.block k (Nat.lt_of_lt_of_le k1 hv.size) k2).trans (hv.block k k1)
  have hgb : some g ≠ u.ownBlock := fun e => by have := (hob g e.symm).1; omega
  have hsz : w4.heap.size ≤ W.heap.size := Nat.le_trans hv.size o2.size
  refine ⟨(e5 g (Row.lt hR) hgb).trans hR, ⟨(hX.1.trans (hv.mono (Nat.zero_le _))).grown o2 (Nat.zero_le _) (fun k e => Nat.zero_le _), fun k k1 k2 => ?_⟩, ?_⟩
  · exact (e5 k (by have := hX.size; omega) (fun e => by have := (hob k e.symm).1; omega)).trans (hX.2 k (by omega) k2)
  · refine own_push6 (r := (s, d)) hf hn hb0 hP o1 hX.size hsz (fun k k1 k2 k3 => ?_) fun k k1 k2 => ?_
    · have hne : k ≠ gn := by
        rcases o3 with e | e
        · intro e'; exact k3 (by rw [e, e'])
        · have := hv.size; have := hX.size; omega
      exact ⟨(e5 k (Nat.lt_of_lt_of_le k2 hX.size) k3).trans (hX.2 k k2 (by omega)), hne⟩
    · have hnb : some k ≠ u.ownBlock := fun e => by have := (hob k e.symm).2; omega
      have hne : k ≠ gn := by
        rcases o3 with e | e
        · intro e'; exact hnb (by rw [e, e'])
        · have := hv.size; omega
      exact ⟨e5 k k2 hnb, hne⟩

set_option maxRecDepth 20000 in
set_option maxHeartbeats 2000000 in
theorem member_run (S : ByteArray) (g b0 m i n : Nat) (u : Value) (l : List (ByteArray × Dt)) (w : World) (h : Pr w g S i) (hS : S.size ≤ 1000000000) (hi : i ≤ S.size) (hg : g < b0) (hb0 : b0 ≤ w.heap.size)
    (ho : OwnM (PZ b0 u.ownBlock w m) w b0 u l) (hl : l.length ≤ 1000000000)
    (hv : ∀ k W, Pr W g S k → i < k → k ≤ S.size → Calls Tryz.prog 24 #[.pointer (some ⟨g, 0, none⟩)] W (VPost g S W m (valF S n k))) :
    Calls Tryz.prog 44 #[.pointer (some ⟨g, 0, none⟩), u] w (MPost g b0 m S w (memS S (valF S n) l i)) := by
  obtain ⟨i1, hi1, hy0, hy1, hy2⟩ := info_parts infoM
  obtain ⟨r, hr⟩ : ∃ r, r = memS S (valF S n) l i := ⟨_, rfl⟩
  rw [← hr]
  unfold memS at hr
  have HSTR := hide (str_run S g i w h hS hi)
  obtain ⟨q, hq⟩ : ∃ q, q = strF S i := ⟨_, rfl⟩
  rw [← hq] at hr HSTR
  have HR := Lib.hid hr; have HQ := Lib.hid hq
  have HBL := hide fun k V (h : Pr V g S k) (hk : k ≤ S.size) => blanks_run S g k V h hS hk
  have HW := hide fun k V (h : Pr V g S k) (hk : k ≤ S.size) => word_run S ⟨#[58]⟩ g k V h (by omega) (by decide)
  rw [show (⟨#[58]⟩ : ByteArray).data.toList = [58] from rfl] at HW
  have HF := hide fun (e : Int) (k : Nat) V => fail_run (.pointer (some ⟨g, 0, none⟩)) e (k : Nat) V
  have HV := hide hv
  have HO := hide ho
  obtain ⟨c0, c1, f1⟩ := h.cells
  clear hr hq hv ho
  go_enter Tryz.func44, Tryz.ntmps44
  go_wp2_with fail
  refine HSTR.out.mono ?_
  cases q with
  | error f =>
    rintro e w1 ⟨rfl, hx⟩
    have HE2 := hide (show r = .error f from HR.out)
    have HX := hide hx
    clear hx HR
    go_wp2_with fail
    rw [HE2.out]
    exact ⟨rfl, rfl, HX.out⟩
  | ok p =>
    obtain ⟨s, j⟩ := p
    rintro e w1 ⟨rfl, hP1, hX1⟩
    obtain ⟨gj1, gj2⟩ := str_gain HQ.out.symm
    have HR1 := hide (show r = if (l.any fun m => m.1.toList == s.toList) = true then .error (6, (i : Int)) else match wordF S [58] (blk S j) with
      | .error f => .error f
      | .ok k => match valF S n (blk S k) with
        | .error f => .error f
        | .ok (d, q) => .ok (l ++ [(s, d)], q) from HR.out)
    have HP1 := hide hP1; have HX1 := hide hX1
    clear hP1 hX1 HR HSTR HQ c0 c1 f1 h
    go_upto_region 3 with fail
    obtain ⟨w2, hw2⟩ : ∃ W, W = w1.alloc (.cells #[.string s] 9) := ⟨_, rfl⟩
    obtain ⟨lb, hlb⟩ : ∃ k, k = w1.heap.size := ⟨_, rfl⟩
    have HP2 := hide (show Pr w2 g S j by rw [hw2]; exact Row.alloc HP1.out _)
    have HX2 := hide (show Px g w w2 by rw [hw2]; exact HX1.out.alloc _)
    have HL2 := hide (show Row w2 lb 9 [.string s] by rw [hw2, hlb]; exact Row.new w1 _ _)
    have hlg : lb ≠ g := by have := HP1.out.lt; omega
    have hlw : w.heap.size ≤ lb := by have := HX1.out.size; omega
    rw [← hw2, ← hlb]
    clear hw2 hlb HP1 HX1
    have HLAB := hide (has_label _ u l s lb w2 (HL2.out.cell 0) HL2.out.lt (OwnM.px HO.out HX2.out hg).mems)
    obtain ⟨b, hb⟩ : ∃ b, b = l.any fun m => m.1.toList == s.toList := ⟨_, rfl⟩
    rw [← hb] at HLAB HR1
    clear hb
    go_wp2_with fail
    refine HLAB.out.mono ?_; rintro e w3 ⟨rfl, hB3⟩
    have HP3 := hide (HP2.out.below hB3)
    have HX3 := hide (HX2.out.below hB3)
    have HL3 := hide (HL2.out.below hB3)
    clear hB3 HP2 HX2 HL2 HLAB
    cases b with
    | true =>
      have HE2 := hide (show r = .error (6, (i : Int)) by rw [HR1.out, if_pos rfl])
      clear HR1
      go_wp2_with fail
      refine (HF.out 6 i _).mono ?_; rintro e w4 ⟨rfl, rfl⟩
      go_wp2_with fail
      rw [HE2.out]
      exact ⟨rfl, rfl, HX3.out⟩
    | false =>
      obtain ⟨k1, hk1⟩ : ∃ k, k = blk S j := ⟨_, rfl⟩
      have hks : k1 ≤ S.size := by rw [hk1]; exact run_le _ gj2
      have hkj : j ≤ k1 := by rw [hk1]; exact run_ge _ _ _
      have HR2 := hide (show r = match wordF S [58] k1 with
        | .error f => .error f
        | .ok k => match valF S n (blk S k) with
          | .error f => .error f
          | .ok (d, q) => .ok (l ++ [(s, d)], q) by rw [HR1.out, hk1]; first | done | rfl)
      have HB4 := hide (HBL.out j _ HP3.out gj2)
      rw [show blk S j = k1 from hk1.symm] at HB4
      clear HR1 hk1
      go_wp2_with fail
      refine HB4.out.mono ?_; rintro e w4 ⟨rfl, hP4, hX4⟩
      have HP4 := hide hP4
      have HX4 := hide (HX3.out.trans hX4)
      have HL4 := hide (show Row w4 lb 9 [.string s] from (hX4.2 lb HL3.out.lt hlg).trans HL3.out)
      clear hP4 hX4 HX3 HL3 HP3 HB4
      have HW4 := hide (HW.out k1 _ HP4.out hks)
      obtain ⟨v, hv⟩ : ∃ v, v = wordF S [58] k1 := ⟨_, rfl⟩
      rw [← hv] at HW4 HR2
      have HVV := Lib.hid hv
      clear hv
      go_wp2_with fail
      refine HW4.out.mono ?_
      cases v with
      | error f =>
        rintro e w5 ⟨rfl, hx⟩
        have HE2 := hide (show r = .error f from HR2.out)
        have HX := hide (HX4.out.trans hx)
        clear hx HR2 HW4
        go_wp2_with fail
        rw [HE2.out]
        exact ⟨rfl, rfl, HX.out⟩
      | ok k2 =>
        rintro e w5 ⟨rfl, hP5, hX5⟩
        obtain ⟨g5, g6⟩ := word1 (by decide) HVV.out.symm
        have HP5 := hide hP5
        have HX5 := hide (HX4.out.trans hX5)
        have HL5 := hide (show Row w5 lb 9 [.string s] from (hX5.2 lb HL4.out.lt hlg).trans HL4.out)
        obtain ⟨k3, hk3⟩ : ∃ k, k = blk S k2 := ⟨_, rfl⟩
        have hks3 : k3 ≤ S.size := by rw [hk3]; exact run_le _ (by omega)
        have hkj3 : k2 ≤ k3 := by rw [hk3]; exact run_ge _ _ _
        have HR3 := hide (show r = match valF S n k3 with
          | .error f => .error f
          | .ok (d, q) => .ok (l ++ [(s, d)], q) by rw [HR2.out, hk3])
        have HB6 := hide (HBL.out k2 _ HP5.out (by omega))
        rw [show blk S k2 = k3 from hk3.symm] at HB6
        clear HR2 hk3 hP5 hX5 HW4 HX4 HL4 HP4
        go_wp2_with fail
        refine HB6.out.mono ?_; rintro e w6 ⟨rfl, hP6, hX6⟩
        have HP6 := hide hP6
        have HX6 := hide (HX5.out.trans hX6)
        have HL6 := hide (show Row w6 lb 9 [.string s] from (hX6.2 lb HL5.out.lt hlg).trans HL5.out)
        clear hP6 hX6 HX5 HL5 HP5 HB6
        have HV6 := hide (HV.out k3 w6.drew HP6.out (by omega) hks3)
        obtain ⟨x, hx⟩ : ∃ x, x = valF S n k3 := ⟨_, rfl⟩
        rw [← hx] at HR3 HV6
        clear hx
        have HLW := hide fun W (h : Px g w6 W) => (show Row W lb 9 [.string s] from (h.2 lb HL6.out.lt hlg).trans HL6.out)
        go_upto_region 8 with fail
        refine wp_region_any (by kernel_rfl) (wpAny_of_held (S := fun W => W.cell? ⟨lb, 0, none⟩ = some (.string s)) _ _ _ _ ?_)
        have hH : w6.drew.cell? ⟨lb, 0, none⟩ = some (.string s) := (HLW.out _ Px.refl.drew).cell 0
        refine takeH (i := 0) (v := ?_) rfl (by kernel_rfl) (by kernel_rfl) (by kernel_rfl) (fun _ _ _ h => h) (Or.inl ⟨by rfl, ?_⟩) hH ?_
        rotate_left
        · (intro w hSw; (try dsimp only at hSw); go_simp; try with_reducible rfl)
        simp only [Act.put, List.setIfInBounds_toArray, List.set_cons_zero, List.set_cons_succ]
        refine takeH (i := 1) (v := ?_) rfl (by kernel_rfl) (by kernel_rfl) (by kernel_rfl) (fun _ _ _ h => h) (Or.inl ⟨by rfl, ?_⟩) hH ?_
        rotate_left
        · (intro w hSw; (try dsimp only at hSw); go_simp; try with_reducible rfl)
        simp only [Act.put, List.setIfInBounds_toArray, List.set_cons_zero, List.set_cons_succ]
        refine takeH (i := 2) (v := ?_) rfl (by kernel_rfl) (by kernel_rfl) (by kernel_rfl) (fun _ _ _ h => h) (Or.inl ⟨by rfl, ?_⟩) hH ?_
        rotate_left
        · (intro w hSw; (try dsimp only at hSw); go_simp; try with_reducible rfl)
        simp only [Act.put, List.setIfInBounds_toArray, List.set_cons_zero, List.set_cons_succ]
        refine oneH (i := 3) rfl (by kernel_rfl) (fun K hK => ?_)
        go_simp
        go_at_call 24
        refine HV6.out.mono ?_
        cases x with
        | error f =>
          rintro e w7 ⟨rfl, hx⟩
          rw [show r = .error f from HR3.out]
          exact ⟨rfl, rfl, HX6.out.trans (Px.refl.drew.trans hx)⟩
        | ok p =>
          obtain ⟨d, q⟩ := p
          rintro e w7 ⟨⟨ra, rc, ra', rc', rfl, hP7⟩, hR7, hX7⟩
          have hX8 := Px.refl.drew.trans hX7
          have hXX := HX6.out.trans hX8
          have hP8 : PZ w.heap.size none w7 m d ra rc ra' rc' := hP7.turn (Nat.le_refl _) (fun k k1 k2 _ => ⟨rfl, by have := HX6.out.size; have : w6.heap.size ≤ k := k1; omega, by simp⟩)
          obtain ⟨xs, ho, hf⟩ := HO.out
          refine hK.out _ _ ((HLW.out _ hX8).cell 0) (fun hH => ?_)
          clear hK K
          unfold datV datCs
          refine takeH (i := 4) (v := ?_) rfl (by kernel_rfl) (by kernel_rfl) (by kernel_rfl) (fun _ _ _ h => h) (Or.inl ⟨by rfl, ?_⟩) hH ?_
          rotate_left
          · (intro w hSw; (try dsimp only at hSw); go_simp; try with_reducible rfl)
          simp only [Act.put, List.setIfInBounds_toArray, List.set_cons_zero, List.set_cons_succ]
          refine oneH (i := 5) rfl (by kernel_rfl) (fun K hK => ?_)
          go_simp
          refine hK.out _ _ ((HLW.out _ (hX8.alloc _)).cell 0) (fun hH => ?_)
          clear hK K
          refine oneH (i := 6) rfl (by kernel_rfl) (fun K hK => ?_)
          refine step_append_lies _ rfl (.tmp 25) (.tmp 30) _ rfl b0 57 i1 (.agg #[.string ⟨#[]⟩, .int .i64 0, .int .i64 0, .string ⟨#[]⟩, .slice none 0 0, .slice none 0 0]) 6 96 Tryz.underlying23 hi1 hy0 hy1 hy2 rfl (by omega) u l.length xs rfl ((own_px ho hXX hg).alloc _) ⟨w7.heap.size, 0, none⟩ 1 1 (.string s :: datCs d ra rc ra' rc') rfl rfl (World.news_of_block (heap_alloc_new _ _)) memCs_one (by omega) (by unfold maxLen; omega) (by omega) (by have := hXX.size; simp; omega) _ rfl ?_
          intro gn cap w8 o1 o2 o3 o4
          have HFIN := hide (mem_fin hg hb0 ho hf rfl hXX hR7 hP8 ((Below.refl _ _).alloc (Nat.le_refl _) _) o1 o2 o3)
          have hlo : some lb ≠ u.ownBlock := fun e => by have := (ho.lt lb e.symm).2; omega
          refine hK.out _ _ ((Row.grown (Row.alloc (HLW.out _ hX8) _) o2 hlo).cell 0) (fun hH => ?_)
          clear hK K o1 o2 o3 o4 hP7 hP8 hX7 hX8 hXX ho hf
          refine oneH (i := 7) rfl (by kernel_rfl) (fun K hK => ?_)
          go_simp
          refine hK.out _ _ hH (fun hH => ?_)
          clear hK K
          refine wpAnyH_done (by kernel_rfl) ?_ _
          go_wp2_with fail
          go_ret
          rw [show r = .ok (l ++ [(s, d)], q) from HR3.out]
          exact ⟨_, rfl, HFIN.out⟩
end Go.Proofs.YtmmbbndoimleaaaGreatDoor

/- number. -/
namespace Go.Proofs.YtmmbbndoimleaaaGreatDoor
open Go.RowKit

def NPost (g : Nat) (S : ByteArray) (w : World) (r : Except Flt (Int × Nat)) (e : Ending) (w' : World) : Prop :=
  match r with
  | .ok (u, j) => e = .returned (datV (mkD 3 u ⟨#[]⟩ [] []) none 0 none 0) ∧ Pr w' g S j ∧ Px g w w'
  | .error f => FPost g w f e w'
/-- The end of the whole part. -/
def wend (S : ByteArray) (i1 : Nat) : Nat := if nx S i1 = 48 then i1 + 1 else dge S i1
/-- The end of the number. -/
def nend (S : ByteArray) (j : Nat) : Nat := if nx S j = 46 then dge S (j + 1) else j
def numR (S : ByteArray) (i i1 j e : Nat) : Except Flt (Int × Nat) :=
  if 5 < e - j ∨ 15 < j - i1 then .error (1, i) else
    if 1000000000000000 < fracN S (j + 1) e (digN S i1 (j - i1)) 4 then .error (1, i) else .ok (if i1 = i then (fracN S (j + 1) e (digN S i1 (j - i1)) 4 : Int) else -(fracN S (j + 1) e (digN S i1 (j - i1)) 4 : Int), e)
theorem numE_eq (S : ByteArray) (i : Nat) : numE S i = if digB (nx S (if nx S i = 45 then i + 1 else i)) = false then .error (19, ((if nx S i = 45 then i + 1 else i : Nat) : Int)) else
    if nx S (wend S (if nx S i = 45 then i + 1 else i)) = 46 ∧ digB (nx S (wend S (if nx S i = 45 then i + 1 else i) + 1)) = false then .error (19, ((wend S (if nx S i = 45 then i + 1 else i) + 1 : Nat) : Int))
    else numR S i (if nx S i = 45 then i + 1 else i) (wend S (if nx S i = 45 then i + 1 else i)) (nend S (wend S (if nx S i = 45 then i + 1 else i))) := rfl
/-- Where the whole part ends, from inside. -/
def wpart (S : ByteArray) (i1 k J : Nat) : Prop := i1 < k → (nx S i1 = 48 → J = k) ∧ (nx S i1 ≠ 48 → J = dge S k)
theorem wpart_zero (S : ByteArray) (i1 J : Nat) : wpart S i1 i1 J := fun h => absurd h (Nat.lt_irrefl _)
theorem wpart_first {S : ByteArray} {i1 : Nat} (h : digB (nx S i1) = true) : wpart S i1 (i1 + 1) (wend S i1) := fun _ =>
  ⟨fun h48 => by unfold wend; rw [if_pos h48], fun h48 => by unfold wend; rw [if_neg h48]; exact run_step rfl h⟩
theorem wpart_next {S : ByteArray} {i1 k J : Nat} (h : wpart S i1 k J) (hk : i1 < k) (h48 : nx S i1 ≠ 48) (hd : digB (nx S k) = true) : wpart S i1 (k + 1) J := fun _ =>
  ⟨fun h => absurd h h48, fun h' => by rw [(h hk).2 h']; exact run_step rfl hd⟩
theorem wpart_stop {S : ByteArray} {i1 k J : Nat} (h : wpart S i1 k J) (hk : i1 < k) (hd : nx S i1 = 48 ∨ digB (nx S k) = false) : J = k := by
  by_cases h48 : nx S i1 = 48
  · exact (h hk).1 h48
  · rw [(h hk).2 h48]; exact run_stop (hd.resolve_left h48)

theorem boxZ (w : World) : ∃ w1 g, w.alloc (Obj.cells #[.int .i64 0, .int .i64 0, .string ⟨#[]⟩, .slice none 0 0, .slice none 0 0] 25) = w1 ∧ w.heap.size = g ∧ Below w.heap.size w w1 ∧
    Row w1 g 25 [.int .i64 0, .int .i64 0, .string ⟨#[]⟩, .slice none 0 0, .slice none 0 0] := by
  obtain ⟨w1, g, e1, e2, h, _, _, _, _, _, hR⟩ := boxD w 0 0 ⟨#[]⟩ (.slice none 0 0) (.slice none 0 0)
  exact ⟨w1, g, e1, e2, h, hR⟩
abbrev zrow : List Value := [.int .i64 0, .int .i64 0, .string ⟨#[]⟩, .slice none 0 0, .slice none 0 0]
/-- The parser and the result's box. -/
def Nb (w0 : World) (g b : Nat) (S : ByteArray) (k : Nat) (wr : World) : Prop := Pr wr g S k ∧ Px g w0 wr ∧ Row wr b 25 zrow ∧ g < b ∧ w0.heap.size ≤ b
section
variable {w0 wr w' : World} {g b k : Nat} {S : ByteArray}
theorem Nb.drewN (h : Nb w0 g b S k wr) (n : Nat) : Nb w0 g b S k (wr.drewN n) := ⟨h.1.drewN n, h.2.1.drewN n, h.2.2.1.drewN n, h.2.2.2⟩
theorem Nb.step (h : Nb w0 g b S k wr) (j : Nat) : Nb w0 g b S j (wr.setCell ⟨g, 1, none⟩ (.int .i64 j)) := ⟨h.1.set_ j, h.2.1.set_ 1 _, h.2.2.1.far (by have := h.2.2.2.1; show b ≠ g; omega) _, h.2.2.2⟩
end

theorem valid_yes (u : Int) (w : World) (h0 : 0 ≤ u) (h1 : u ≤ 1000000000000000) : Calls Tryz.prog 66 #[.int .i64 u] w fun e w' => e = .returned (.bool true) ∧ w = w' :=
  (valid_run u w).mono fun e w' ⟨h, h'⟩ => ⟨by rw [h, show validB u = true by unfold validB; simp; omega], h'.symm⟩
theorem valid_no (u : Int) (w : World) (h1 : 1000000000000000 < u) : Calls Tryz.prog 66 #[.int .i64 u] w fun e w' => e = .returned (.bool false) ∧ w = w' :=
  (valid_run u w).mono fun e w' ⟨h, h'⟩ => ⟨by rw [h, show validB u = false by unfold validB; simp; omega], h'.symm⟩
theorem Px.set5 {g b : Nat} {w0 wr : World} (h : Px g w0 wr) (hb : w0.heap.size ≤ b) (x0 x1 x2 x3 x4 : Value) : Px g w0 (set5 wr b x0 x1 x2 x3 x4) :=
  ((((h.setFar (p := ⟨b, 0, none⟩) hb x0).setFar (p := ⟨b, 1, none⟩) hb x1).setFar (p := ⟨b, 2, none⟩) hb x2).setFar (p := ⟨b, 3, none⟩) hb x3).setFar (p := ⟨b, 4, none⟩) hb x4
theorem number_fin {w0 wr : World} {g b E : Nat} {S : ByteArray} {r : Except Flt (Int × Nat)} {u : Int} (h : Nb w0 g b S E wr) (hr : r = .ok (u, E)) (x0 x1 x2 x3 x4 : Value) :
    NPost g S w0 r (.returned (.agg #[.int .i64 3, .int .i64 u, .string ⟨#[]⟩, .slice none 0 0, .slice none 0 0])) (set5 wr b x0 x1 x2 x3 x4) := by
  rw [hr]
  exact ⟨rfl, row_far5 h.1 (by have := h.2.2.2.1; omega) _ _ _ _ _, h.2.1.set5 h.2.2.2.2 _ _ _ _ _⟩

set_option maxRecDepth 100000 in
set_option maxHeartbeats 4000000 in
theorem number_run (S : ByteArray) (g i : Nat) (w : World) (h : Pr w g S i) (hS : S.size ≤ 1000000000) (hi : i ≤ S.size) :
    Calls Tryz.prog 40 #[.pointer (some ⟨g, 0, none⟩)] w (NPost g S w (numE S i)) := by
  obtain ⟨r, hr⟩ : ∃ r, r = numE S i := ⟨_, rfl⟩
  rw [← hr]
  rw [numE_eq] at hr
  obtain ⟨i1, hi1⟩ : ∃ k, k = (if nx S i = 45 then i + 1 else i) := ⟨_, rfl⟩
  rw [← hi1] at hr
  obtain ⟨J, hJ⟩ : ∃ k, k = wend S i1 := ⟨_, rfl⟩
  rw [← hJ] at hr
  obtain ⟨E, hE⟩ : ∃ k, k = nend S J := ⟨_, rfl⟩
  rw [← hE] at hr
  have HR := Lib.hid hr; have HI1 := Lib.hid hi1; have HJ := Lib.hid hJ; have HE := Lib.hid hE
  have HN := hide fun k V (h : Pr V g S k) => next_run S g k V h
  have HD := hide fun k V (h : Pr V g S k) => digit_run S g k V h
  have HF := hide fun (e : Int) (k : Nat) V => fail_run (.pointer (some ⟨g, 0, none⟩)) e (k : Nat) V
  have hi1s : i1 ≤ S.size := by
    rw [hi1]
    split
    · rename_i h45; exact nx_in (by omega)
    · exact hi
  have hi1i : i ≤ i1 ∧ i1 ≤ i + 1 := by rw [hi1]; split <;> omega
  have HP := hide h
  clear h hr hi1 hJ hE
  go_enter Tryz.func40, Tryz.ntmps40
  go_upto_region 1 with fail
  obtain ⟨w1, b, e1, e2, hB1, hR1⟩ := boxZ w
  have hgb : g < b := by have := HP.out.lt; omega
  have H1 := hide (show Nb w g b S i w1 from ⟨HP.out.below hB1, Px.of_below hB1, hR1, hgb, by omega⟩)
  rw [e1, e2]
  clear e1 e2 hB1 hR1 HP
  obtain ⟨c0, c1, f1⟩ := H1.out.1.cells
  have HN1 := hide fun V (h : Pr V g S i) => HN.out i V h
  obtain ⟨x, hx⟩ : ∃ x, x = nx S i := ⟨_, rfl⟩
  rw [← hx] at HN1
  have HX := Lib.hid hx
  clear hx
  go_wp2_with fail
  refine (HN1.out _ H1.out.1).mono ?_; rintro e w2 ⟨rfl, n1, rfl⟩
  go_upto_if 15 with (fail)
  have H2 := hide (H1.out.drewN n1)
  obtain ⟨w2, hw2⟩ : ∃ W, W = w1.drewN n1 := ⟨_, rfl⟩
  rw [← hw2] at H2 ⊢
  clear hw2 H1 c0 c1 f1 HN1
  obtain ⟨c0, c1, f1⟩ := H2.out.1.cells
  go_cut [3] from 14 to 22 (fun a wc => a = .int .i64 i ∧ Hid (Nb w g b S i1 wc))
  case first =>
    by_cases h45 : x = 45
    · subst h45
      have HI2 := hide (show i1 = i + 1 by rw [HI1.out, if_pos HX.out.symm])
      go_wp2_with fail
      go_meet
      case rel => exact ⟨rfl, hide (by rw [HI2.out]; exact H2.out.step (i + 1))⟩
    · have d45 : ((x : Int) == 45) = false := by simp; omega
      have HI2 := hide (show i1 = i by rw [HI1.out, if_neg (by rw [← HX.out]; exact h45)])
      go_wp2_with fail
      go_meet
      case rel => exact ⟨rfl, hide (by rw [HI2.out]; exact H2.out)⟩
  case rest =>
    obtain ⟨rfl, H2⟩ := hcut
    obtain ⟨c0, c1, f1⟩ := H2.out.1.cells
    have HD1 := hide fun V (h : Pr V g S i1) => HD.out i1 V h
    obtain ⟨q, hq⟩ : ∃ q, q = digB (nx S i1) := ⟨_, rfl⟩
    rw [← hq] at HD1
    have HQ := Lib.hid hq
    clear hq
    cases q with
    | false =>
      have HE2 := hide (show r = .error (19, (i1 : Int)) by rw [HR.out, if_pos HQ.out.symm])
      go_wp2_with fail
      refine (HD1.out _ H2.out.1).mono ?_; rintro e w2 ⟨rfl, n1, rfl⟩
      go_wp2_with fail
      refine (HF.out 19 i1 _).mono ?_; rintro e w2 ⟨rfl, rfl⟩
      go_wp2_with fail
      rw [HE2.out]
      exact ⟨rfl, rfl, H2.out.2.1.drewN _⟩
    | true =>
      have HR2 := hide (show r = if nx S J = 46 ∧ digB (nx S (J + 1)) = false then .error (19, ((J + 1 : Nat) : Int)) else numR S i i1 J E by rw [HR.out, if_neg (by rw [← HQ.out]; simp)])
      have hJs : J ≤ S.size ∧ i1 < J := by
        have h1 : i1 < S.size := nx_in (by intro h0; have := HQ.out; rw [h0] at this; cases this)
        rw [HJ.out]
        unfold wend
        split
        · omega
        · rw [show dge S i1 = dge S (i1 + 1) from run_step rfl HQ.out.symm]
          exact ⟨run_le _ (by omega), run_ge _ _ _⟩
      obtain ⟨hJs, hJ1⟩ := hJs
      have HDJ := hide (show ∀ m, i1 ≤ m → m < J → digB (nx S m) = true from fun m h1 h2 => by
        rw [HJ.out] at h2
        unfold wend at h2
        split at h2
        · obtain rfl : m = i1 := by omega
          exact HQ.out.symm
        · exact run_all h1 h2)
      clear HR HI1
      go_wp2_with fail
      refine (HD1.out _ H2.out.1).mono ?_; rintro e w2 ⟨rfl, n1, rfl⟩
      have H3 := hide (H2.out.drewN n1)
      obtain ⟨w3, hw3⟩ : ∃ W, W = wc.drewN n1 := ⟨_, rfl⟩
      rw [← hw3] at H3 ⊢
      clear hw3 H2 c0 c1 f1 HD1
      go_upto_block 0 with fail
      go_cut [4] from 36 to 61 (fun a wc => a = .int .i64 i1 ∧ Hid (Nb w g b S J wc))
      case first =>
        go_wp2_with fail
        go_loopw [36] (fun _ wr => ∃ k : Nat, i1 ≤ k ∧ k ≤ S.size ∧ Hid (Nb w g b S k wr ∧ wpart S i1 k J)) (fun _ wr => S.size + 1 - atOf wr g)
        case atStart => exact ⟨i1, Nat.le_refl _, hi1s, hide ⟨H3.out, wpart_zero _ _ _⟩⟩
        case round =>
          clear H3
          obtain ⟨k, hk1, hk2, hR⟩ := hrel
          obtain ⟨c0, c1, f1⟩ := hR.out.1.1.cells
          have HD1 := hide fun V (h : Pr V g S k) => HD.out k V h
          obtain ⟨d, hd⟩ : ∃ d, d = digB (nx S k) := ⟨_, rfl⟩
          rw [← hd] at HD1
          have HDD := Lib.hid hd
          clear hd
          cases d with
          | false =>
            have HK := hide (show J = k from wpart_stop hR.out.2 (by
              rcases Nat.lt_or_ge i1 k with h | h
              · exact h
              · have : k = i1 := by omega
                subst this
                have h1 := HDD.out; have h2 := HQ.out; rw [← h2] at h1; cases h1) (.inr HDD.out.symm))
            go_wp2_with fail
            refine (HD1.out _ hR.out.1.1).mono ?_; rintro e w2 ⟨rfl, n1, rfl⟩
            go_wp2_with fail
            go_meet
            case rel => exact ⟨rfl, hide (by rw [HK.out]; exact hR.out.1.drewN _)⟩
          | true =>
            have hks : k < S.size := nx_in (by intro h0; have := HDD.out; rw [h0] at this; cases this)
            by_cases hk : k = i1
            · subst hk
              have HNX := hide (show wpart S k (k + 1) J by rw [HJ.out]; exact wpart_first HDD.out.symm)
              go_wp2_with fail
              refine (HD1.out _ hR.out.1.1).mono ?_; rintro e w2 ⟨rfl, n1, rfl⟩
              go_wp2_with fail
              go_roundw
              case rel => exact ⟨k + 1, by omega, hks, hide ⟨(hR.out.1.drewN _).step (k + 1), HNX.out⟩⟩
              case measure =>
                have e1 : atOf (((wr.drewN n1)).setCell ⟨g, 1, none⟩ (.int .i64 ((k : Int) + 1))) g = k + 1 := ((hR.out.1.drewN n1).step (k + 1)).1.at_
                rw [e1, hR.out.1.1.at_]; omega
            · have hkn : ((k : Int) == (i1 : Int)) = false := by simp; omega
              obtain ⟨y, hy⟩ : ∃ y, y = (S[i1]'(by omega)).toNat := ⟨_, rfl⟩
              have hy1 : nx S i1 = y := by rw [hy]; exact nx_at (by omega)
              have HY := Lib.hid hy1
              have hi1lt : i1 < S.size := by omega
              have hy2 : (S[i1]).toNat = y := hy.symm
              clear hy hy1
              by_cases h48 : y = 48
              · have HK := hide (show J = k from wpart_stop hR.out.2 (by omega) (.inl (by rw [HY.out]; exact h48)))
                subst h48
                go_wp2_with fail
                refine (HD1.out _ hR.out.1.1).mono ?_; rintro e w2 ⟨rfl, n1, rfl⟩
                go_wp2_with fail
                go_meet
                case rel => exact ⟨rfl, hide (by rw [HK.out]; exact hR.out.1.drewN _)⟩
              · have d48 : ((y : Int) != 48) = true := by simp; omega
                have HNX := hide (wpart_next hR.out.2 (by omega) (by rw [HY.out]; exact h48) HDD.out.symm)
                go_wp2_with fail
                refine (HD1.out _ hR.out.1.1).mono ?_; rintro e w2 ⟨rfl, n1, rfl⟩
                go_wp2_with fail
                go_roundw
                case rel => exact ⟨k + 1, by omega, hks, hide ⟨(hR.out.1.drewN _).step (k + 1), HNX.out⟩⟩
                case measure =>
                  have e1 : atOf (((wr.drewN n1)).setCell ⟨g, 1, none⟩ (.int .i64 ((k : Int) + 1))) g = k + 1 := ((hR.out.1.drewN n1).step (k + 1)).1.at_
                  rw [e1, hR.out.1.1.at_]; omega
      case rest =>
        obtain ⟨rfl, H4⟩ := hcut
        obtain ⟨c0, c1, f1⟩ := H4.out.1.cells
        have HN1 := hide fun V (h : Pr V g S J) => HN.out J V h
        obtain ⟨x, hx⟩ : ∃ x, x = nx S J := ⟨_, rfl⟩
        rw [← hx] at HN1 HR2
        have HX := Lib.hid hx
        clear hx HJ HQ
        go_wp2_with fail
        refine (HN1.out _ H4.out.1).mono ?_; rintro e w4 ⟨rfl, n1, rfl⟩
        go_upto_if 68 with (fail)
        have H5 := hide (H4.out.drewN n1)
        obtain ⟨w5, hw5⟩ : ∃ W, W = wc.drewN n1 := ⟨_, rfl⟩
        rw [← hw5] at H5 ⊢
        clear hw5 H4 c0 c1 f1 HN1
        obtain ⟨c0, c1, f1⟩ := H5.out.1.cells
        go_cut [3, 4, 5] from 67 to 93 (fun a b' c wc => a = .int .i64 i ∧ b' = .int .i64 i1 ∧ c = .int .i64 J ∧ Hid (Nb w g b S E wc ∧ E ≤ S.size ∧ J ≤ E ∧ r = numR S i i1 J E ∧ (J < E → E = dge S (J + 1))))
        case first =>
          by_cases h46 : x = 46
          · subst h46
            have hJ2 : J < S.size := nx_in (by rw [← HX.out]; decide)
            have HD1 := hide fun V (h : Pr V g S (J + 1)) => HD.out (J + 1) V h
            obtain ⟨d, hd⟩ : ∃ d, d = digB (nx S (J + 1)) := ⟨_, rfl⟩
            rw [← hd] at HD1 HR2
            have HDD := Lib.hid hd
            clear hd
            go_upto_region 12 with fail
            obtain ⟨w6, hw6⟩ : ∃ W, W = w5.setCell ⟨g, 1, none⟩ (.int .i64 ((J : Int) + 1)) := ⟨_, rfl⟩
            have H6 := hide (show Nb w g b S (J + 1) w6 by rw [hw6]; exact H5.out.step (J + 1))
            rw [← hw6]
            clear hw6 H5 c0 c1 f1
            obtain ⟨c0, c1, f1⟩ := H6.out.1.cells
            cases d with
            | false =>
              have HE2 := hide (show r = .error (19, ((J + 1 : Nat) : Int)) by rw [HR2.out, if_pos ⟨rfl, rfl⟩])
              go_wp2_with fail
              refine (HD1.out _ H6.out.1).mono ?_; rintro e w7 ⟨rfl, n2, rfl⟩
              go_wp2_with fail
              refine (HF.out 19 (J + 1) _).mono ?_; rintro e w7 ⟨rfl, rfl⟩
              go_wp2_with fail
              rw [HE2.out]
              exact ⟨rfl, rfl, H6.out.2.1.drewN _⟩
            | true =>
              have HE2 := hide (show r = numR S i i1 J E by rw [HR2.out, if_neg (by simp)])
              have HE3 := hide (show E = dge S (J + 1) by rw [HE.out]; unfold nend; rw [if_pos HX.out.symm])
              go_wp2_with fail
              refine (HD1.out _ H6.out.1).mono ?_; rintro e w7 ⟨rfl, n2, rfl⟩
              have H7 := hide (H6.out.drewN n2)
              obtain ⟨w7, hw7⟩ : ∃ W, W = w6.drewN n2 := ⟨_, rfl⟩
              rw [← hw7] at H7 ⊢
              clear hw7 H6 c0 c1 f1 HD1 HR2
              go_wp2_with fail
              go_loopw [85] (fun _ wr => ∃ k : Nat, J + 1 ≤ k ∧ k ≤ S.size ∧ Hid (Nb w g b S k wr ∧ E = dge S k)) (fun _ wr => S.size + 1 - atOf wr g)
              case atStart => exact ⟨J + 1, Nat.le_refl _, hJ2, hide ⟨H7.out, HE3.out⟩⟩
              case round =>
                clear H7
                obtain ⟨k, hk1, hk2, hR⟩ := hrel
                obtain ⟨c0, c1, f1⟩ := hR.out.1.1.cells
                have HD1 := hide fun V (h : Pr V g S k) => HD.out k V h
                obtain ⟨d, hd⟩ : ∃ d, d = digB (nx S k) := ⟨_, rfl⟩
                rw [← hd] at HD1
                have HDE := Lib.hid hd
                clear hd
                cases d with
                | false =>
                  have HK := hide (show E = k by rw [hR.out.2]; exact run_stop HDE.out.symm)
                  go_wp2_with fail
                  refine (HD1.out _ hR.out.1.1).mono ?_; rintro e w8 ⟨rfl, n3, rfl⟩
                  go_wp2_with fail
                  go_meet
                  case rel => exact ⟨rfl, rfl, rfl, hide ⟨by rw [HK.out]; exact hR.out.1.drewN _, by rw [HK.out]; exact hk2, by rw [HK.out]; omega, HE2.out, fun _ => HE3.out⟩⟩
                | true =>
                  have hks : k < S.size := nx_in (by intro h0; have := HDE.out; rw [h0] at this; cases this)
                  have HNX := hide (show E = dge S (k + 1) by rw [hR.out.2]; exact run_step rfl HDE.out.symm)
                  go_wp2_with fail
                  refine (HD1.out _ hR.out.1.1).mono ?_; rintro e w8 ⟨rfl, n3, rfl⟩
                  go_wp2_with fail
                  go_roundw
                  case rel => exact ⟨k + 1, by omega, hks, hide ⟨(hR.out.1.drewN _).step (k + 1), HNX.out⟩⟩
                  case measure =>
                    have e1 : atOf (((wr.drewN n3)).setCell ⟨g, 1, none⟩ (.int .i64 ((k : Int) + 1))) g = k + 1 := ((hR.out.1.drewN n3).step (k + 1)).1.at_
                    rw [e1, hR.out.1.1.at_]; omega
          · have d46 : ((x : Int) == 46) = false := by simp; omega
            have HE2 := hide (show r = numR S i i1 J E by rw [HR2.out, if_neg (fun h => h46 h.1)])
            have HE3 := hide (show E = J by rw [HE.out]; unfold nend; rw [if_neg (by rw [← HX.out]; exact h46)])
            go_wp2_with fail
            go_meet
            case rel => exact ⟨rfl, rfl, rfl, hide ⟨by rw [HE3.out]; exact H5.out, by rw [HE3.out]; exact hJs, by rw [HE3.out]; omega, HE2.out, fun h => by rw [HE3.out] at h; omega⟩⟩
        case rest =>
          obtain ⟨rfl, rfl, rfl, H6⟩ := hcut
          obtain ⟨hNb, hE1, hE2, hr, hE3⟩ := H6.out
          have HNB := hide hNb; have HR4 := Lib.hid hr
          have HDE := hide (show ∀ m, J + 1 ≤ m → m < E → digB (nx S m) = true from fun m h1 h2 => run_all (i := J + 1) h1 (by rw [show runF digB S (J + 1) = E from (hE3 (by omega)).symm]; exact h2))
          clear H6 hNb hr hE3 H5 c0 c1 f1 HR2 HX HE HN HD
          obtain ⟨c0, c1, f1⟩ := HNB.out.1.cells
          have HF1 := hide fun V => HF.out 1 i V
          by_cases hbig : 5 < E - J ∨ 15 < J - i1
          · have HE2 := hide (show r = .error (1, (i : Int)) by rw [HR4.out]; unfold numR; rw [if_pos hbig])
            by_cases h5 : 5 < E - J
            · have q0 : (5 : Int) < (E : Int) - (J : Int) := by omega
              go_wp2_with fail
              refine (HF1.out _).mono ?_; rintro e w8 ⟨rfl, rfl⟩
              go_wp2_with fail
              rw [HE2.out]
              exact ⟨rfl, rfl, HNB.out.2.1⟩
            · have q0 : ¬ (5 : Int) < (E : Int) - (J : Int) := by omega
              have q1 : (15 : Int) < (J : Int) - (i1 : Int) := by omega
              go_wp2_with fail
              refine (HF1.out _).mono ?_; rintro e w8 ⟨rfl, rfl⟩
              go_wp2_with fail
              rw [HE2.out]
              exact ⟨rfl, rfl, HNB.out.2.1⟩
          · have q0 : ¬ (5 : Int) < (E : Int) - (J : Int) := by omega
            have q1 : ¬ (15 : Int) < (J : Int) - (i1 : Int) := by omega
            have HR5 := hide (show r = if 1000000000000000 < fracN S (J + 1) E (digN S i1 (J - i1)) 4 then .error (1, (i : Int)) else .ok (if i1 = i then (fracN S (J + 1) E (digN S i1 (J - i1)) 4 : Int) else -(fracN S (J + 1) E (digN S i1 (J - i1)) 4 : Int), E) by
              rw [HR4.out]; unfold numR; rw [if_neg hbig])
            have h15 : J - i1 ≤ 15 := by omega
            clear HR4 hbig
            go_wp2_with fail
            clear q0 q1
            go_loop [6, 7] (fun uv mv => ∃ m : Nat, mv = .int .i64 m ∧ i1 ≤ m ∧ m ≤ J ∧ uv = .int .i64 (digN S i1 (m - i1))) (fun _ mv => J - (intOf mv).toNat)
            case atStart => exact ⟨i1, rfl, Nat.le_refl _, by omega, by rw [Nat.sub_self]; rfl⟩
            case round =>
              obtain ⟨m, rfl, hm1, hm2, rfl⟩ := hrel
              have hu := digN_small (S := S) (a := i1) (n := m - i1) (fun m' h1 h2 => HDJ.out m' h1 (by omega)) (by omega)
              by_cases hlt : m < J
              · have hb := dig_bounds (HDJ.out m hm1 hlt)
                have hms : m < S.size := by omega
                obtain ⟨y, hy⟩ : ∃ y, y = (S[m]).toNat := ⟨_, rfl⟩
                have hy1 : nx S m = y := by rw [hy]; exact nx_at hms
                have hy2 : (S[m]).toNat = y := hy.symm
                rw [hy1] at hb
                have HNX := hide (show digN S i1 (m + 1 - i1) = digN S i1 (m - i1) * 10 + (y - 48) by
                  rw [show m + 1 - i1 = (m - i1) + 1 by omega, digN, show i1 + (m - i1) = m by omega, hy1])
                obtain ⟨U, hU⟩ : ∃ u, u = digN S i1 (m - i1) := ⟨_, rfl⟩
                rw [← hU] at hu HNX ⊢
                clear hy hy1 hU
                go_wp2_with fail
                go_round
                case rel => exact ⟨m + 1, by go_num, by omega, hlt, by rw [HNX.out]; go_num⟩
                case measure => simp [intOf]; omega
              · obtain rfl : m = J := by omega
                obtain ⟨U, hU⟩ : ∃ u, u = digN S i1 (m - i1) := ⟨_, rfl⟩
                rw [← hU] at hu HR5 ⊢
                clear hU HDJ hlt
                obtain ⟨J, rfl⟩ : ∃ J, J = m := ⟨_, rfl⟩
                go_wp2_with fail
                go_loop [6, 8] (fun uv mv => ∃ m : Nat, mv = .int .i64 m ∧ J + 1 ≤ m ∧ m ≤ J + 5 ∧ uv = .int .i64 (fracN S (J + 1) E U (m - (J + 1))) ∧ fracN S (J + 1) E U (m - (J + 1)) ≤ 1000000000000000) (fun _ mv => J + 5 - (intOf mv).toNat)
                case atStart => exact ⟨J + 1, by go_num, Nat.le_refl _, by omega, by rw [Nat.sub_self]; rfl, by rw [Nat.sub_self]; show U ≤ _; omega⟩
                case round =>
                  clear hu
                  obtain ⟨m, rfl, hm1, hm2, rfl, hu⟩ := hrel
                  by_cases hlt : m ≤ J + 4
                  · have HNX := hide (show fracN S (J + 1) E U (m + 1 - (J + 1)) = fracN S (J + 1) E U (m - (J + 1)) * 10 + (if m < E then nx S m - 48 else 0) by
                      rw [show m + 1 - (J + 1) = (m - (J + 1)) + 1 by omega, fracN, show J + 1 + (m - (J + 1)) = m by omega])
                    have HMO := hide (show fracN S (J + 1) E U (m + 1 - (J + 1)) ≤ fracN S (J + 1) E U 4 by
                      have := frac_mono S (J + 1) E U (m + 1 - (J + 1)) (4 - (m + 1 - (J + 1)))
                      rwa [show m + 1 - (J + 1) + (4 - (m + 1 - (J + 1))) = 4 by omega] at this)
                    obtain ⟨F, hF⟩ : ∃ u, u = fracN S (J + 1) E U (m - (J + 1)) := ⟨_, rfl⟩
                    obtain ⟨G, hG⟩ : ∃ u, u = fracN S (J + 1) E U (m + 1 - (J + 1)) := ⟨_, rfl⟩
                    rw [← hF] at hu HNX ⊢
                    rw [← hG] at HNX HMO
                    have HGG := Lib.hid hG
                    clear hF hG
                    by_cases hmE : m < E
                    · have hb := dig_bounds (HDE.out m hm1 hmE)
                      have hms : m < S.size := by omega
                      obtain ⟨y, hy⟩ : ∃ y, y = (S[m]).toNat := ⟨_, rfl⟩
                      have hy1 : nx S m = y := by rw [hy]; exact nx_at hms
                      have hy2 : (S[m]).toNat = y := hy.symm
                      rw [hy1] at hb
                      have HG2 := hide (show G = F * 10 + (y - 48) by rw [HNX.out, if_pos hmE, hy1])
                      clear hy hy1 HNX
                      by_cases hv : F * 10 + (y - 48) ≤ 1000000000000000
                      · go_wp2_with fail
                        refine (valid_yes _ _ (by omega) (by omega)).mono ?_; rintro e w8 ⟨rfl, rfl⟩
                        go_wp2_with fail
                        go_round
                        case rel => exact ⟨m + 1, by go_num, by omega, by omega, by rw [← HGG.out, HG2.out]; go_num, by rw [← HGG.out, HG2.out]; exact hv⟩
                        case measure => simp [intOf]; omega
                      · have HE2 := hide (show r = .error (1, (i : Int)) by rw [HR5.out, if_pos (by have := HMO.out; have := HG2.out; omega)])
                        go_wp2_with fail
                        refine (valid_no _ _ (by omega)).mono ?_; rintro e w8 ⟨rfl, rfl⟩
                        go_wp2_with fail
                        refine (HF1.out _).mono ?_; rintro e w8 ⟨rfl, rfl⟩
                        go_wp2_with fail
                        rw [HE2.out]
                        exact ⟨rfl, rfl, HNB.out.2.1⟩
                    · have HG2 := hide (show G = F * 10 by rw [HNX.out, if_neg hmE]; omega)
                      clear HNX
                      by_cases hv : F * 10 ≤ 1000000000000000
                      · go_wp2_with fail
                        refine (valid_yes _ _ (by omega) (by omega)).mono ?_; rintro e w8 ⟨rfl, rfl⟩
                        go_wp2_with fail
                        go_round
                        case rel => exact ⟨m + 1, by go_num, by omega, by omega, by rw [← HGG.out, HG2.out]; go_num, by rw [← HGG.out, HG2.out]; exact hv⟩
                        case measure => simp [intOf]; omega
                      · have HE2 := hide (show r = .error (1, (i : Int)) by rw [HR5.out, if_pos (by have := HMO.out; have := HG2.out; omega)])
                        go_wp2_with fail
                        refine (valid_no _ _ (by omega)).mono ?_; rintro e w8 ⟨rfl, rfl⟩
                        go_wp2_with fail
                        refine (HF1.out _).mono ?_; rintro e w8 ⟨rfl, rfl⟩
                        go_wp2_with fail
                        rw [HE2.out]
                        exact ⟨rfl, rfl, HNB.out.2.1⟩
                  · obtain rfl : m = J + 5 := by omega
                    rw [show J + 5 - (J + 1) = 4 by omega] at hu ⊢
                    obtain ⟨F, hF⟩ : ∃ u, u = fracN S (J + 1) E U 4 := ⟨_, rfl⟩
                    rw [← hF] at hu HR5 ⊢
                    clear hF
                    obtain ⟨r0, r1, r2, r3, r4⟩ := row5 HNB.out.2.2.1
                    have z0 := HNB.out.2.2.1.frozen 0
                    have z1 := HNB.out.2.2.1.frozen 1
                    have z2 := HNB.out.2.2.1.frozen 2
                    have z3 := HNB.out.2.2.1.frozen 3
                    have z4 := HNB.out.2.2.1.frozen 4
                    by_cases hneg : i1 = i
                    · have HE2 := hide (show r = .ok ((F : Int), E) by rw [HR5.out, if_neg (by omega), if_pos hneg])
                      have q3 : ¬ (i : Int) < (i1 : Int) := by omega
                      go_wp2_with fail
                      refine bodyPost_ret (results_dat rfl _ _ b _ _ _ _ _ rfl (row_set5 HNB.out.2.2.1 _ _ _ _ _)) rfl ?_
                      exact number_fin HNB.out HE2.out _ _ _ _ _
                    · have HE2 := hide (show r = .ok (-(F : Int), E) by rw [HR5.out, if_neg (by omega), if_neg hneg])
                      have q3 : (i : Int) < (i1 : Int) := by omega
                      go_wp2_with fail
                      refine bodyPost_ret (results_dat rfl _ _ b _ _ _ _ _ rfl (row_set5 HNB.out.2.2.1 _ _ _ _ _)) rfl ?_
                      exact number_fin HNB.out HE2.out _ _ _ _ _
end Go.Proofs.YtmmbbndoimleaaaGreatDoor
