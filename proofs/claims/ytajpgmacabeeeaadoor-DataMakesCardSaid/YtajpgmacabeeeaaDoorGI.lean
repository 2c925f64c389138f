/- Data made afresh: it stands as long as the blocks behind a bound do; clean: the function's own blocks, and rows that grow by data made afresh; clean: data with sorted members and without unused fields; Make; Get. -/
import Derived.Test.YtajpgmacabeeeaaDoorGH
import Derived.Test.YtajpgmacabeeeaaDoorGA
import Derived.Test.YtajpgmacabeeeaaDoorGF
import Derived.Test.YtajpgmacabeeeaaDoorGD
import Derived.Test.YtajpgmacabeeeaaDoorGB

/- Data made afresh: it stands as long as the blocks behind a bound do. -/
namespace Go.Proofs.YtajpgmacabeeeaaDoor
open Go.RowKit

/-- Data that stands in every world which keeps the blocks from lo on, but for one. -/
def PZ (lo : Nat) (ex : Option Nat) (w : World) (m : Nat) : Reads := fun d a c a' c' =>
  ∀ W, w.heap.size ≤ W.heap.size → (∀ k, lo ≤ k → k < w.heap.size → some k ≠ ex → W.heap[k]? = w.heap[k]?) → Parts W W.heap.size m d a c a' c'
theorem PZ.turn {lo lo' : Nat} {ex ex' : Option Nat} {w w' : World} {m : Nat} {d : Dt} {a c a' c'} (h : PZ lo ex w m d a c a' c') (hs : w.heap.size ≤ w'.heap.size)
    (hk : ∀ k, lo ≤ k → k < w.heap.size → some k ≠ ex → w'.heap[k]? = w.heap[k]? ∧ lo' ≤ k ∧ some k ≠ ex') : PZ lo' ex' w' m d a c a' c' := fun W h1 h2 =>
  h W (Nat.le_trans hs h1) fun k k1 k2 k3 => (h2 k (hk k k1 k2 k3).2.1 (Nat.lt_of_lt_of_le k2 hs) (hk k k1 k2 k3).2.2).trans (hk k k1 k2 k3).1
theorem PZ.parts {lo : Nat} {ex : Option Nat} {w : World} {m : Nat} {d : Dt} {a c a' c'} (h : PZ lo ex w m d a c a' c') : Parts w w.heap.size m d a c a' c' := h w (Nat.le_refl _) fun _ _ _ _ => rfl
/-- A slice of data made afresh. -/
def DZ (lo : Nat) (w : World) (m : Nat) (u : Value) (l : List Dt) : Prop :=
  ∃ A c, u = .slice A l.length c ∧ l.length ≤ c ∧ c ≤ maxLen ∧ ∀ W, w.heap.size ≤ W.heap.size → (∀ k, lo ≤ k → k < w.heap.size → W.heap[k]? = w.heap[k]?) → DatsAt (Parts W W.heap.size m) W W.heap.size A l
def MZ (lo : Nat) (w : World) (m : Nat) (u : Value) (l : List (ByteArray × Dt)) : Prop :=
  ∃ A c, u = .slice A l.length c ∧ l.length ≤ c ∧ c ≤ maxLen ∧ ∀ W, w.heap.size ≤ W.heap.size → (∀ k, lo ≤ k → k < w.heap.size → W.heap[k]? = w.heap[k]?) → MemsAt (Parts W W.heap.size m) W W.heap.size A l
theorem DZ.nil (lo : Nat) (w : World) (m : Nat) : DZ lo w m (.slice none 0 0) [] := ⟨none, 0, rfl, Nat.le_refl _, Nat.zero_le _, fun W _ _ i x h => by simp at h⟩
theorem MZ.nil (lo : Nat) (w : World) (m : Nat) : MZ lo w m (.slice none 0 0) [] := ⟨none, 0, rfl, Nat.le_refl _, Nat.zero_le _, fun W _ _ i x h => by simp at h⟩
theorem DZ.turn {lo lo' : Nat} {w w' : World} {m : Nat} {u : Value} {l : List Dt} (h : DZ lo w m u l) (hl : lo' ≤ lo) (hs : w.heap.size ≤ w'.heap.size) (hk : ∀ k, lo ≤ k → k < w.heap.size → w'.heap[k]? = w.heap[k]?) : DZ lo' w' m u l := by
  obtain ⟨A, c, e, h1, h2, h3⟩ := h
  exact ⟨A, c, e, h1, h2, fun W g1 g2 => h3 W (Nat.le_trans hs g1) fun k k1 k2 => (g2 k (Nat.le_trans hl k1) (Nat.lt_of_lt_of_le k2 hs)).trans (hk k k1 k2)⟩
theorem MZ.turn {lo lo' : Nat} {w w' : World} {m : Nat} {u : Value} {l : List (ByteArray × Dt)} (h : MZ lo w m u l) (hl : lo' ≤ lo) (hs : w.heap.size ≤ w'.heap.size) (hk : ∀ k, lo ≤ k → k < w.heap.size → w'.heap[k]? = w.heap[k]?) : MZ lo' w' m u l := by
  obtain ⟨A, c, e, h1, h2, h3⟩ := h
  exact ⟨A, c, e, h1, h2, fun W g1 g2 => h3 W (Nat.le_trans hs g1) fun k k1 k2 => (g2 k (Nat.le_trans hl k1) (Nat.lt_of_lt_of_le k2 hs)).trans (hk k k1 k2)⟩
/-- Data from its two slices. -/
theorem pz_mk {lo : Nat} {w : World} {m : Nat} {k n : Int} {s : ByteArray} {u v : Value} {l : List Dt} {ms : List (ByteArray × Dt)} (h : DZ lo w m u l) (h' : MZ lo w m v ms) :
    ∃ a c a' c', u = .slice a l.length c ∧ v = .slice a' ms.length c' ∧ PZ lo none w (m + 1) (mkD k n s l ms) a c a' c' := by
  obtain ⟨A, c, e, h1, h2, h3⟩ := h
  obtain ⟨A', c', e', h1', h2', h3'⟩ := h'
  refine ⟨A, c, A', c', e, e', fun W g1 g2 => ⟨⟨h1, h2, by rw [mD_mk]; exact h1', h2'⟩, ?_, ?_⟩⟩
  · exact h3 W g1 fun k k1 k2 => g2 k k1 k2 (by simp)
  · rw [mD_mk]; exact h3' W g1 fun k k1 k2 => g2 k k1 k2 (by simp)
theorem own_lo {w : World} {base : Nat} {e : TypeId} {size n c : Nat} {A : Option Addr} {xs : List Value} (h : w.ownsRow base e size (.slice A n c) n xs) (hn : 0 < n) : ∃ g, A = some ⟨g, 0, none⟩ ∧ base ≤ g ∧ g < w.heap.size := by
  obtain ⟨g, cap, e, h1, h2⟩ := h.form hn
  injection e with e1
  exact ⟨g, e1, h1, h2⟩
theorem OwnD.dz {lo base : Nat} {w : World} {m : Nat} {u : Value} {l : List Dt} (h : OwnD (PZ base u.ownBlock w m) w base u l) (hl : lo ≤ base) : DZ lo w m u l := by
  obtain ⟨A, c, rfl, h1, h2, _⟩ := h.dats
  refine ⟨A, c, rfl, h1, h2, fun W g1 g2 => ?_⟩
  obtain ⟨xs, ho, hf⟩ := h
  rcases Nat.eq_zero_or_pos l.length with h0 | h0
  · rw [List.eq_nil_of_length_eq_zero h0]; intro i x hx; simp at hx
  · obtain ⟨g, rfl, hg, hg2⟩ := own_lo ho h0
    refine DatsAt.of_flat (hf.turn fun x a c a' c' hp => hp W g1 fun k k1 k2 _ => g2 k (by omega) k2) (by show g < _; omega) fun j v hv => ?_
    have hc := ho.cells (g := g) rfl j v hv
    rw [add_head] at hc ⊢
    exact (World.cell?_of_block (g2 g (by omega) hg2)).trans hc
/-- The members' row as the sort sees it. -/
theorem mcs_of_flat {R : Reads} : ∀ {xs : List Value} {l : List (ByteArray × Dt)}, FlatM R xs l → ∃ L : List Mc, xs = L.flatMap mcs ∧ L.map (fun e => (e.1, e.2.1)) = l ∧ ∀ e ∈ L, R e.2.1 e.2.2.1 e.2.2.2.1 e.2.2.2.2.1 e.2.2.2.2.2
  | _, [], h => by have h : _ = [] := h; exact ⟨[], by rw [h]; rfl, rfl, by simp⟩
  | _, d :: l, ⟨a, c, a', c', ys, e, hR, h⟩ => by
    obtain ⟨L, e1, e2, e3⟩ := mcs_of_flat h
    refine ⟨(d.1, d.2, a, c, a', c') :: L, by rw [e, e1]; rfl, by rw [List.map_cons, e2], fun x hx => ?_⟩
    rcases List.mem_cons.1 hx with rfl | hx
    · exact hR
    · exact e3 x hx
theorem flat_of_mcs {R : Reads} : ∀ {L : List Mc}, (∀ e ∈ L, R e.2.1 e.2.2.1 e.2.2.2.1 e.2.2.2.2.1 e.2.2.2.2.2) → FlatM R (L.flatMap mcs) (L.map fun e => (e.1, e.2.1))
  | [], _ => rfl
  | x :: L, h => ⟨x.2.2.1, x.2.2.2.1, x.2.2.2.2.1, x.2.2.2.2.2, L.flatMap mcs, rfl, h x (List.mem_cons_self ..), flat_of_mcs fun e he => h e (List.mem_cons_of_mem _ he)⟩
/-- Sorted members by labels. -/
theorem sorted_members {C L : List Mc} (h : Sorted_ C L) : C.map (fun e => (e.1, e.2.1)) = sortK Prod.fst (L.map fun e => (e.1, e.2.1)) :=
  eq_sortK (k := Prod.fst) (SrtK.map (k := lab) (k' := Prod.fst) (fun e : Mc => (e.1, e.2.1)) (fun _ => rfl) h.1) (StaK.map (k := lab) (k' := Prod.fst) (fun e : Mc => (e.1, e.2.1)) (fun _ => rfl) h.2.1)
end Go.Proofs.YtajpgmacabeeeaaDoor

/- clean: the function's own blocks, and rows that grow by data made afresh. -/
namespace Go.Proofs.YtajpgmacabeeeaaDoor
open Go.RowKit

theorem infoM : (Tryd.prog.info? 53).map (fun i => (i.zero, i.size, i.bytes)) = some (some (.agg #[.string ⟨#[]⟩, .int .i64 0, .int .i64 0, .string ⟨#[]⟩, .slice none 0 0, .slice none 0 0]), 6, 96) := by kernel_rfl

theorem memCs_one {s : ByteArray} {d : Dt} {a c a' c'} : ∀ u ∈ (Value.string s :: datCs d a c a' c'), u.oneCell' = true := fun u hu => by
  rcases List.mem_cons.1 hu with rfl | hu
  · rfl
  · exact datCs_one u hu
/-- The three boxes of a call of clean. -/
def CSt (w : World) (g g4 g5 b0 : Nat) (D2 D4 D5 : List Value) (wr : World) : Prop :=
  (w.heap.size = g ∧ g4 = g + 1 ∧ g5 = g + 2 ∧ b0 = g + 3) ∧ b0 ≤ wr.heap.size ∧ Below w.heap.size w wr ∧ Row wr g 25 D2 ∧ Row wr g4 25 D4 ∧ Row wr g5 25 D5
section
variable {w wr W : World} {g g4 g5 b0 : Nat} {D2 D4 D5 : List Value}
theorem CSt.below (h : CSt w g g4 g5 b0 D2 D4 D5 wr) (hb : Below wr.heap.size wr W) : CSt w g g4 g5 b0 D2 D4 D5 W := by
  obtain ⟨h0, h1, h2, h3, h4, h5⟩ := h
  exact ⟨h0, Nat.le_trans h1 hb.size, h2.trans (hb.mono h2.size), h3.below hb, h4.below hb, h5.below hb⟩
theorem CSt.grown (h : CSt w g g4 g5 b0 D2 D4 D5 wr) {row : Option Nat} (hg : wr.grownBy W row) (hr : ∀ k, row = some k → b0 ≤ k) : CSt w g g4 g5 b0 D2 D4 D5 W := by
  obtain ⟨h0, h1, h2, h3, h4, h5⟩ := h
  exact ⟨h0, Nat.le_trans h1 hg.size, h2.grown hg h2.size (fun k e => by have := hr k e; omega), h3.grown hg (fun e => by have := hr g e.symm; omega), h4.grown hg (fun e => by have := hr g4 e.symm; omega), h5.grown hg (fun e => by have := hr g5 e.symm; omega)⟩
theorem CSt.set (h : CSt w g g4 g5 b0 D2 D4 D5 wr) (i : Nat) (u : Value) : CSt w g g4 g5 b0 D2 D4 (D5.set i u) (wr.setCell ⟨g5, i, none⟩ u) := by
  obtain ⟨h0, h1, h2, h3, h4, h5⟩ := h
  have hs : wr.heap.size ≤ (wr.setCell ⟨g5, i, none⟩ u).heap.size := (Below.setCell (B := 0) (Below.refl 0 wr) (p := ⟨g5, i, none⟩) (Nat.zero_le _) u).size
  exact ⟨h0, Nat.le_trans h1 hs, h2.setCell (p := ⟨g5, i, none⟩) (by show _ ≤ g5; omega) u, h3.far (by show g ≠ g5; omega) u, h4.far (by show g4 ≠ g5; omega) u, h5.set_ i u⟩
theorem csize_set (wr : World) (p : Addr) (u : Value) : (wr.setCell p u).heap.size = wr.heap.size := by
  show (Array.modify _ _ _).size = _; rw [Array.size_modify]
end
/-- The end of clean. -/
theorem clean_fin {w wr : World} {g g4 g5 b0 m : Nat} {D2 D4 : List Value} {k n : Int} {s : ByteArray} {u v : Value} {l : List Dt} {ms : List (ByteArray × Dt)} {r : Dt}
    (h : CSt w g g4 g5 b0 D2 D4 [.int .i64 k, .int .i64 n, .string s, u, v] wr) (hd : DZ b0 wr m u l) (hm : MZ b0 wr m v ms) (hr : r = mkD k n s l ms) (x0 x1 x2 x3 x4 : Value) :
    ∃ a c a' c', Ending.returned (.agg #[.int .i64 k, .int .i64 n, .string s, u, v]) = .returned (datV r a c a' c') ∧ Below w.heap.size w (set5 wr g4 x0 x1 x2 x3 x4) ∧ PZ w.heap.size none (set5 wr g4 x0 x1 x2 x3 x4) (m + 1) r a c a' c' := by
  obtain ⟨h0, h1, h2, h3, h4, h5⟩ := h
  have hb := below_set5 h2 (g := g4) (by omega) x0 x1 x2 x3 x4
  have hs : (set5 wr g4 x0 x1 x2 x3 x4).heap.size = wr.heap.size := by unfold set5; simp only [csize_set]
  have hk : ∀ k, k ≠ g4 → (set5 wr g4 x0 x1 x2 x3 x4).heap[k]? = wr.heap[k]? := fun k hk => by
    unfold set5
    rw [Below.heap_setCell _ _ _ _ hk, Below.heap_setCell _ _ _ _ hk, Below.heap_setCell _ _ _ _ hk, Below.heap_setCell _ _ _ _ hk, Below.heap_setCell _ _ _ _ hk]
  obtain ⟨a, c, a', c', rfl, rfl, hp⟩ := pz_mk (k := k) (n := n) (s := s) (hd.turn (lo' := w.heap.size) (w' := set5 wr g4 x0 x1 x2 x3 x4) (by omega) (by omega) fun k k1 _ => hk k (by omega)) (hm.turn (lo' := w.heap.size) (w' := set5 wr g4 x0 x1 x2 x3 x4) (by omega) (by omega) fun k k1 _ => hk k (by omega))
  subst hr
  exact ⟨a, c, a', c', by unfold datV datCs; simp, hb, hp⟩
/-- A row takes one more made afresh. -/
theorem pz_push {g5 b0 : Nat} {wr w4 w5 : World} {m : Nat} {ob : Option Nat} {gn i : Nat} {u' : Value} {d : Dt} {a c a' c'} (hd : PZ b0 ob wr m d a c a' c') (hg5 : g5 < b0) (h2 : Below wr.heap.size wr w4)
    (o2 : w4.grownBy w5 ob) (o3 : ob = some gn ∨ gn = w4.heap.size) : PZ b0 (some gn) (w5.setCell ⟨g5, i, none⟩ u') m d a c a' c' := by
  refine hd.turn (by rw [csize_set]; exact Nat.le_trans h2.size o2.size) fun k k1 k2 k3 => ⟨?_, k1, ?_⟩
  · rw [Below.heap_setCell _ _ _ _ (by show k ≠ g5; omega), o2.block k (Nat.lt_of_lt_of_le k2 h2.size) k3, h2.block k k2]
  · rcases o3 with e | e
    · rw [← e]; exact k3
    · intro e'; injection e' with e'; have := h2.size; omega
theorem pz_new {g5 b0 H : Nat} {wr w3 w4 w5 : World} {m : Nat} {ob : Option Nat} {gn i : Nat} {u' : Value} {d : Dt} {a c a' c'} (hp : PZ H none w3 m d a c a' c') (hg5 : g5 < b0) (hb0 : b0 ≤ wr.heap.size) (h1 : wr.heap.size ≤ H) (hob : ∀ k, ob = some k → k < wr.heap.size) (h3 : Below w3.heap.size w3 w4) 
    (o2 : w4.grownBy w5 ob) (o3 : ob = some gn ∨ gn = w4.heap.size) : PZ b0 (some gn) (w5.setCell ⟨g5, i, none⟩ u') m d a c a' c' := by
  refine hp.turn (by rw [csize_set]; exact Nat.le_trans h3.size o2.size) fun k k1 k2 _ => ⟨?_, by omega, ?_⟩
  · have hne : some k ≠ ob := fun e => by have := hob k e.symm; omega
    rw [Below.heap_setCell _ _ _ _ (by show k ≠ g5; omega), o2.block k (Nat.lt_of_lt_of_le k2 h3.size) hne, h3.block k k2]
  · rcases o3 with e | e
    · intro e'; injection e' with e'; have := hob gn e; omega
    · intro e'; injection e' with e'; have := h3.size; omega
theorem own_set {w : World} {base : Nat} {e : TypeId} {size : Nat} {v : Value} {n : Nat} {xs : List Value} (h : w.ownsRow base e size v n xs) {p : Addr} (hp : p.block < base) (u : Value) : (w.setCell p u).ownsRow base e size v n xs := ownsRow_setCell_below h hp u
theorem own_push {g5 b0 H : Nat} {wr w3 w4 w5 : World} {m : Nat} {uv : Value} {l : List Dt} {r : Dt} {a : Option Addr} {c : Nat} {a' : Option Addr} {c' gn cap n : Nat} {xs : List Value} {i : Nat} {u' : Value}
    (ho : wr.ownsRow b0 25 5 uv n xs) (hf : FlatD (PZ b0 uv.ownBlock wr m) xs l) (hn : l.length = n) (hg5 : g5 < b0) (hb0 : b0 ≤ wr.heap.size) (h1 : wr.heap.size ≤ H) (h2 : Below wr.heap.size wr w4) (hp : PZ H none w3 m r a c a' c') (h3 : Below w3.heap.size w3 w4)
    (o1 : w5.ownsRow b0 25 5 (.slice (some ⟨gn, 0, none⟩) (n + 1) cap) (n + 1) (xs ++ datCs r a c a' c')) (o2 : w4.grownBy w5 uv.ownBlock) (o3 : uv.ownBlock = some gn ∨ gn = w4.heap.size) :
    OwnD (PZ b0 (Value.slice (some ⟨gn, 0, none⟩) (n + 1) cap).ownBlock (w5.setCell ⟨g5, i, none⟩ u') m) (w5.setCell ⟨g5, i, none⟩ u') b0 (.slice (some ⟨gn, 0, none⟩) (n + 1) cap) (l ++ [r]) := by
  refine ⟨_, by rw [List.length_append, hn]; exact own_set o1 hg5 u', ?_⟩
  exact (hf.turn fun x b q b' q' hx => pz_push hx hg5 h2 o2 o3).append (FlatD.one (pz_new hp hg5 hb0 h1 (fun k e => (ho.lt k e).2) h3 o2 o3))
theorem own_pushM {g5 b0 H : Nat} {wr w3 w4 w5 : World} {m : Nat} {uv : Value} {l : List (ByteArray × Dt)} {r : ByteArray × Dt} {a : Option Addr} {c : Nat} {a' : Option Addr} {c' gn cap n : Nat} {xs : List Value} {i : Nat} {u' : Value}
    (ho : wr.ownsRow b0 53 6 uv n xs) (hf : FlatM (PZ b0 uv.ownBlock wr m) xs l) (hn : l.length = n) (hg5 : g5 < b0) (hb0 : b0 ≤ wr.heap.size) (h1 : wr.heap.size ≤ H) (h2 : Below wr.heap.size wr w4) (hp : PZ H none w3 m r.2 a c a' c') (h3 : Below w3.heap.size w3 w4)
    (o1 : w5.ownsRow b0 53 6 (.slice (some ⟨gn, 0, none⟩) (n + 1) cap) (n + 1) (xs ++ .string r.1 :: datCs r.2 a c a' c')) (o2 : w4.grownBy w5 uv.ownBlock) (o3 : uv.ownBlock = some gn ∨ gn = w4.heap.size) :
    OwnM (PZ b0 (Value.slice (some ⟨gn, 0, none⟩) (n + 1) cap).ownBlock (w5.setCell ⟨g5, i, none⟩ u') m) (w5.setCell ⟨g5, i, none⟩ u') b0 (.slice (some ⟨gn, 0, none⟩) (n + 1) cap) (l ++ [r]) := by
  refine ⟨_, by rw [List.length_append, hn]; exact own_set o1 hg5 u', ?_⟩
  exact (hf.turn fun x b q b' q' hx => pz_push hx hg5 h2 o2 o3).append (FlatM.one (pz_new hp hg5 hb0 h1 (fun k e => (ho.lt k e).2) h3 o2 o3))
theorem clean_sort {b0 m : Nat} {wr : World} {u : Value} {L : List (ByteArray × Dt)} (h : OwnM (PZ b0 u.ownBlock wr m) wr b0 u L) (hl : L.length ≤ 39) :
    Calls Tryd.prog 59 #[u, .func (.func 60) #[] #[]] wr fun e w' => e = .returned (.tuple #[]) ∧ ∃ row, wr.grownBy w' row ∧ (∀ k, row = some k → b0 ≤ k) ∧ MZ b0 w' m u (sortK Prod.fst L) := by
  obtain ⟨xs, ho, hf⟩ := h
  rcases ho.2 with ⟨rfl, hn⟩ | ⟨g, cap, cur, rfl, hb, hh, hc, hm, hcs, htk⟩
  · refine (sortStable_nil wr).mono ?_
    rintro e w' ⟨rfl, rfl⟩
    rw [List.eq_nil_of_length_eq_zero hn]
    exact ⟨rfl, none, grown_refl _ _, by simp, MZ.nil _ _ _⟩
  · obtain ⟨ML, hxs, hML, hR⟩ := mcs_of_flat hf
    have hlen : ML.length = L.length := by rw [← hML, List.length_map]
    have hrow : SRow wr g ML (cur.toList.drop (L.length * 6)) := by
      unfold SRow Row
      rw [← hxs, ← htk, List.take_append_drop]
      simpa using hh
    refine (sortStable_run g cap L.length ML _ wr hrow hlen hl).mono ?_
    rintro e w' ⟨rfl, C, hC, hS, hG⟩
    refine ⟨rfl, some g, hG, fun k e => by injection e with e; omega, some ⟨g, 0, none⟩, cap, by rw [sortK_length], by rw [sortK_length]; exact hc, hm, fun W h1 h2 => ?_⟩
    rw [← hML, ← sorted_members hC]
    refine MemsAt.of_flat (flat_of_mcs fun e he => hR e (hC.2.1.mem he) W (Nat.le_trans hG.size h1) fun k k1 k2 k3 => (h2 k k1 (Nat.lt_of_lt_of_le k2 hG.size)).trans (hG.block k k2 k3)) ?_ fun j v hv => ?_
    · have := hS.lt; show g < _; omega
    · rw [add_head]
      refine (World.cell?_of_block (h2 g hb hS.lt)).trans ?_
      rw [Row.cell hS, List.getElem?_append_left (List.getElem?_eq_some_iff.1 hv).1]
      exact hv
end Go.Proofs.YtajpgmacabeeeaaDoor

/- clean: data with sorted members and without unused fields. -/
namespace Go.Proofs.YtajpgmacabeeeaaDoor
open Go.RowKit

def FitC : Nat → Dt → Prop
  | 0, _ => True
  | r + 1, d => (kids d).length ≤ 39 ∧ ∀ x ∈ kids d, FitC r x
def cleanF : Nat → Int → Dt → Dt
  | 0, _, _ => zeroD
  | m + 1, lv, d => if 16 < lv then mkD (kD d) 0 ⟨#[]⟩ [] [] else
      mkD (kD d) (if kD d = 2 ∨ kD d = 3 then nD d else 0) (if kD d = 4 then sD d else ⟨#[]⟩) (if kD d = 5 then (iD d).map (cleanF m (lv + 1)) else [])
        (if kD d = 6 then sortK Prod.fst ((mD d).map fun x => (x.1, cleanF m (lv + 1) x.2)) else [])
def CleanPost (w : World) (m : Nat) (r : Dt) (e : Ending) (w' : World) : Prop := ∃ a c a' c', e = .returned (datV r a c a' c') ∧ Below w.heap.size w w' ∧ PZ w.heap.size none w' m r a c a' c'

set_option maxRecDepth 20000 in
set_option maxHeartbeats 4000000 in
theorem clean_run : ∀ (m : Nat) (d : Dt) (A : Option Addr) (c : Nat) (A' : Option Addr) (c' : Nat) (lv : Int) (w : World), Parts w w.heap.size m d A c A' c' → FitC m d → 1 ≤ lv → lv ≤ 17 →
    Calls Tryd.prog 41 #[datV d A c A' c', .int .i64 lv] w (CleanPost w m (cleanF m lv d)) := by
  intro m
  induction m with
  | zero => intro d A c A' c' lv w hp; exact hp.elim
  | succ m ih =>
    intro d A c A' c' lv w hp hf hlv1 hlv2
    obtain ⟨⟨h1, h2, h3, h4⟩, hI, hM⟩ := hp
    have hm := maxLen_le h2; have hm' := maxLen_le h4
    have hkl := hf.1
    unfold kids at hkl
    rw [List.length_append, List.length_map] at hkl
    have HCK := hide fun W X a q a' q' (hx : X ∈ kids d) (hX : Parts w w.heap.size m X a q a' q') (hB : Below w.heap.size w W) (h1 : lv + 1 ≤ 17) => ih X a q a' q' (lv + 1) W (hX.turn (Same.of_below hB) hB.size) (hf.2 X hx) (by omega) h1
    unfold kids at HCK
    have HI := Lib.hid hI; have HM := Lib.hid hM
    obtain ⟨i0, hi0, hz0, hz1, hz2⟩ := info_parts infoD
    obtain ⟨i1, hi1, hy0, hy1, hy2⟩ := info_parts infoM
    obtain ⟨r, hr⟩ : ∃ r, r = cleanF (m + 1) lv d := ⟨_, rfl⟩
    rw [← hr]
    unfold cleanF at hr
    unfold datV datCs
    obtain ⟨k, hk⟩ : ∃ k, k = kD d := ⟨_, rfl⟩
    obtain ⟨n, hn'⟩ : ∃ k, k = nD d := ⟨_, rfl⟩
    obtain ⟨s, hs⟩ : ∃ k, k = sD d := ⟨_, rfl⟩
    obtain ⟨xs, hxs⟩ : ∃ k, k = iD d := ⟨_, rfl⟩
    obtain ⟨ys, hys⟩ : ∃ k, k = mD d := ⟨_, rfl⟩
    rw [← hk, ← hn', ← hs, ← hxs, ← hys] at hr
    rw [← hxs] at HI h1 hkl HCK
    rw [← hys] at HM h3 hkl HCK
    rw [← hk, ← hn', ← hs, ← hxs, ← hys]
    obtain ⟨x, hx⟩ : ∃ k, k = xs.length := ⟨_, rfl⟩
    obtain ⟨y, hy⟩ : ∃ k, k = ys.length := ⟨_, rfl⟩
    rw [← hx] at h1 hkl
    rw [← hy] at h3 hkl
    rw [← hx, ← hy]
    have HX := Lib.hid hx; have HY := Lib.hid hy; have HRES := Lib.hid hr
    clear hr hk hn' hs hxs hys hx hy h2 h4 hM hI hf ih
    go_enter Tryd.func41, Tryd.ntmps41
    go_upto_region 2 with fail
    obtain ⟨w1, g, e1, e2, hB1, _, _, _, _, _, hR1⟩ := boxD w k n s (.slice A x c) (.slice A' y c')
    obtain ⟨w2, g4, e3, e4, hB2, _, _, _, _, _, hR2⟩ := boxD w1 0 0 ⟨#[]⟩ (.slice none 0 0) (.slice none 0 0)
    obtain ⟨w3, g5, e5, e6, hB3, _, _, _, _, _, hR3⟩ := boxD w2 k 0 ⟨#[]⟩ (.slice none 0 0) (.slice none 0 0)
    have e7 : w.heap.size + 1 = g4 := by rw [← e4, ← e1]; simp
    have e8 : g4 + 1 = g5 := by rw [← e6, ← e3, ← e4]; simp
    have e9 : w3.heap.size = g5 + 1 := by rw [← e5, ← e6]; simp
    rw [e7, e8, e1, e2, e3, e5]
    obtain ⟨b0, hb0⟩ : ∃ b, b = g + 3 := ⟨_, rfl⟩
    have HST := hide (show CSt w g g4 g5 b0 [.int .i64 k, .int .i64 n, .string s, .slice A x c, .slice A' y c'] [.int .i64 0, .int .i64 0, .string ⟨#[]⟩, .slice none 0 0, .slice none 0 0] [.int .i64 k, .int .i64 0, .string ⟨#[]⟩, .slice none 0 0, .slice none 0 0] w3 from
      ⟨⟨e2, by omega, by omega, hb0⟩, by omega, (hB1.trans (hB2.mono hB1.size)).trans (hB3.mono (Nat.le_trans hB1.size hB2.size)), (hR1.below hB2).below hB3, hR2.below hB3, hR3⟩)
    obtain ⟨s0, s1, s2, s3, s4⟩ := row5 HST.out.2.2.2.1
    obtain ⟨t0, t1, t2, t3, t4⟩ := row5 HST.out.2.2.2.2.2
    have f0 := HST.out.2.2.2.2.1.frozen 0
    have f1 := HST.out.2.2.2.2.1.frozen 1
    have f2 := HST.out.2.2.2.2.1.frozen 2
    have f3 := HST.out.2.2.2.2.1.frozen 3
    have f4 := HST.out.2.2.2.2.1.frozen 4
    have q1 := HST.out.2.2.2.2.2.frozen 1
    have q2 := HST.out.2.2.2.2.2.frozen 2
    have q3 := HST.out.2.2.2.2.2.frozen 3
    have q4 := HST.out.2.2.2.2.2.frozen 4
    obtain ⟨r0, r1, r2, r3, r4⟩ := row5 HST.out.2.2.2.2.1
    have hgg : g4 ≠ g5 := by have := HST.out.1; omega
    clear e1 e2 e3 e4 e5 e6 e7 e8 e9 hB1 hB2 hB3 hR1 hR2 hR3 hb0
    by_cases hlv : 16 < lv
    · have HE := hide (show r = mkD k 0 ⟨#[]⟩ [] [] by rw [HRES.out, if_pos hlv])
      clear HRES
      go_wp2_with fail
      refine bodyPost_ret (results_dat rfl _ _ g4 _ _ _ _ _ rfl (row_set5 HST.out.2.2.2.2.1 _ _ _ _ _)) rfl ?_
      exact clean_fin HST.out (DZ.nil _ _ _) (MZ.nil _ _ _) HE.out _ _ _ _ _
    · have hlv3 : lv + 1 ≤ 17 := by omega
      have HE := hide (show r = mkD k (if k = 2 ∨ k = 3 then n else 0) (if k = 4 then s else ⟨#[]⟩) (if k = 5 then xs.map (cleanF m (lv + 1)) else []) (if k = 6 then sortK Prod.fst (ys.map fun x => (x.1, cleanF m (lv + 1) x.2)) else []) by rw [HRES.out, if_neg hlv])
      have w1' : IntKind.i64.wrap (lv + 1) = lv + 1 := IntWalk.i64_in _ (by omega)
      clear HRES
      by_cases k2 : k = 2
      · subst k2
        have HE2 := hide (show r = mkD 2 n ⟨#[]⟩ [] [] by rw [HE.out]; rfl)
        have HS1 := hide (HST.out.set 1 (.int .i64 n))
        clear HE
        go_wp2_with fail
        refine bodyPost_ret (results_dat rfl _ _ g4 _ _ _ _ _ rfl (row_set5 HS1.out.2.2.2.2.1 _ _ _ _ _)) rfl ?_
        exact clean_fin HS1.out (DZ.nil _ _ _) (MZ.nil _ _ _) HE2.out _ _ _ _ _
      by_cases k3 : k = 3
      · subst k3
        have HE2 := hide (show r = mkD 3 n ⟨#[]⟩ [] [] by rw [HE.out]; rfl)
        have HS1 := hide (HST.out.set 1 (.int .i64 n))
        clear HE
        go_wp2_with fail
        refine bodyPost_ret (results_dat rfl _ _ g4 _ _ _ _ _ rfl (row_set5 HS1.out.2.2.2.2.1 _ _ _ _ _)) rfl ?_
        exact clean_fin HS1.out (DZ.nil _ _ _) (MZ.nil _ _ _) HE2.out _ _ _ _ _
      by_cases k4 : k = 4
      · subst k4
        have HE2 := hide (show r = mkD 4 0 s [] [] by rw [HE.out]; rfl)
        have HS1 := hide (HST.out.set 2 (.string s))
        clear HE
        go_wp2_with fail
        refine bodyPost_ret (results_dat rfl _ _ g4 _ _ _ _ _ rfl (row_set5 HS1.out.2.2.2.2.1 _ _ _ _ _)) rfl ?_
        exact clean_fin HS1.out (DZ.nil _ _ _) (MZ.nil _ _ _) HE2.out _ _ _ _ _
      by_cases k5 : k = 5
      · subst k5
        have HE2 := hide (show r = mkD 5 0 ⟨#[]⟩ (xs.map (cleanF m (lv + 1))) [] by rw [HE.out]; rfl)
        obtain ⟨L, hL⟩ : ∃ L, L = xs.map (cleanF m (lv + 1)) := ⟨_, rfl⟩
        rw [← hL] at HE2
        have HLL := Lib.hid (show L.length = x by rw [hL, List.length_map, HX.out])
        have HL := Lib.hid hL
        have HO := hide (show OwnD (PZ b0 (Value.slice none 0 0).ownBlock w3 m) w3 b0 (.slice none 0 0) (L.take 0) from ⟨[], World.ownsRow_nil _ _ _ _, rfl⟩)
        clear HE hL
        go_wp2_with fail
        go_loopw [7, 34] (fun _ iv wr => ∃ (i : Nat) (u : Value), iv = .int .i64 i ∧ i ≤ x ∧ Hid (CSt w g g4 g5 b0 [.int .i64 5, .int .i64 n, .string s, .slice A x c, .slice A' y c'] [.int .i64 0, .int .i64 0, .string ⟨#[]⟩, .slice none 0 0, .slice none 0 0] [.int .i64 5, .int .i64 0, .string ⟨#[]⟩, u, .slice none 0 0] wr) ∧ Hid (OwnD (PZ b0 u.ownBlock wr m) wr b0 u (L.take i))) (fun _ iv _ => x - (intOf iv).toNat)
        case atStart => exact ⟨0, _, rfl, Nat.zero_le _, HST, HO⟩
        case round =>
          clear HO HST s0 s1 s2 s3 s4 t0 t1 t2 t3 t4 f0 f1 f2 f3 f4 q1 q2 q3 q4 r0 r1 r2 r3 r4
          obtain ⟨i, u, rfl, hi, hST, hO⟩ := hrel
          by_cases hlt : i < x
          · have hlt' : i < xs.length := by rw [← HX.out]; exact hlt
            obtain ⟨ad, rfl, hb, a, q, a', q', hfive, hpts⟩ := HI.out i _ (List.getElem?_eq_getElem hlt')
            obtain ⟨X, hX⟩ : ∃ X, X = xs[i] := ⟨_, rfl⟩
            have hmem : X ∈ xs ++ ys.map Prod.snd := List.mem_append.2 (.inl (hX ▸ List.getElem_mem hlt'))
            rw [← hX] at hfive hpts
            have hbb : (ad.add (i * 5)).block < w.heap.size := by rw [block_of_add]; exact hb
            obtain ⟨s0, s1, s2, s3, s4⟩ := hfive.same hbb (Same.of_below hST.out.2.2.1)
            have HXX := Lib.hid (show L.take (i + 1) = L.take i ++ [cleanF m (lv + 1) X] by
              have h1 : i < L.length := by rw [HLL.out]; exact hlt
              rw [List.take_add_one, List.getElem?_eq_getElem h1]
              have : L[i] = cleanF m (lv + 1) X := by
                have := HL.out; subst this; rw [List.getElem_map, hX]
              rw [this]; rfl)
            have HLT := Lib.hid (show (L.take i).length = i by rw [List.length_take, HLL.out]; omega)
            have HCK2 := hide fun W (hB : Below w.heap.size w W) => HCK.out W X a q a' q' hmem hpts hB hlv3
            unfold CleanPost datV datCs at HCK2
            obtain ⟨Y, hY⟩ : ∃ Y, Y = cleanF m (lv + 1) X := ⟨_, rfl⟩
            rw [← hY] at HCK2 HXX
            clear hY
            clear hfive hpts hX hlt' hb hbb hmem
            obtain ⟨zs, ho, hf⟩ := hO.out
            rw [HLT.out] at ho
            have HOW := hide ho; have HFL := hide hf
            clear ho hf hO
            go_upto_region 14 with fail
            obtain ⟨wa, b, e1, e2, hBa, _, _, _, _, _, hRa⟩ := boxD wr (kD X) (nD X) (sD X) (.slice a (iD X).length q) (.slice a' (mD X).length q')
            rw [e1, e2]
            have HSA := hide (hST.out.below hBa)
            have HRA := hide hRa
            have HBA := hide hBa
            have hbg : b ≠ g5 := by have := hST.out.1; have := hST.out.2.1; omega
            obtain ⟨t0, t1, t2, t3, t4⟩ := row5 HSA.out.2.2.2.2.2
            have q3 := HSA.out.2.2.2.2.2.frozen 3
            obtain ⟨d0, d1, d2, d3, d4⟩ := row5 hRa
            have HS := hide fun W (h : Below wa.heap.size wa W) => row5 (hRa.below h)
            have hb0a : b0 ≤ wa.heap.size := HSA.out.2.1
            have HSB := hide hST.out.2.1
            have HG5 := hide (show g5 < b0 by have := hST.out.1; omega)
            have HOA := hide (show wa.ownsRow b0 25 5 u i zs from own_below HOW.out hBa)
            have HBN := hide (show ∀ k, u.ownBlock = some k → some b ≠ some k from fun k e e' => by injection e' with e'; have := (HOW.out.lt k e).2; omega)
            have HWB := hide fun W (h : Below wa.heap.size wa W) => (hST.out.2.2.1.trans ((hBa.trans (h.mono hBa.size)).mono hST.out.2.2.1.size))
            clear e1 e2 hBa hRa s0 s1 s2 s3 s4 hST
            go_region_law (first
                | (go_simp; go_at_call 41; refine (HCK2.out _ (HWB.out _ (Below.refl _ _).drew)).mono ?_; rintro e w4 ⟨ra, rc, ra', rc', rfl, hB4, hP4⟩; have hB5 := (Below.refl wa.heap.size wa).drew.trans hB4; have hzA : w4.cell? ⟨g5, 3, none⟩ = some u := (HSA.out.below hB5).2.2.2.2.2.cell 3; have hzB : ∀ o, (w4.alloc o).cell? ⟨g5, 3, none⟩ = some u := fun o => (HSA.out.below (below_al hB5 o)).2.2.2.2.2.cell 3; have hzC := hB5.size)
                | (refine step_append_lies _ rfl (.tmp 39) (.tmp 44) _ rfl b0 25 i0 _ 5 80 Tryd.underlying22 hi0 hz0 hz1 hz2 rfl (by omega) u i zs rfl ((own_below HOA.out hB5).alloc _) ⟨w4.heap.size, 0, none⟩ 1 1 (datCs Y ra rc ra' rc') rfl rfl (World.news_of_block (heap_alloc_new _ _)) datCs_one (by omega) (by unfold maxLen; omega) (by omega) (by simp; omega) _ rfl ?_; intro gn cap w5 o1 o2 o3 o4; have hS5 := (HSA.out.below (below_al hB5 (.cells (datCs Y ra rc ra' rc').toArray 25))).grown o2 (fun k e => (HOA.out.lt k e).1); have z3 : w5.cell? ⟨g5, 3, none⟩ = some u := hS5.2.2.2.2.2.cell 3; have zf := hS5.2.2.2.2.2.frozen 3))
            all_goals
              have HS9 := hide (hS5.set 3 (.slice (some ⟨gn, 0, none⟩) (i + 1) cap))
              have HO9 := hide (own_push (i := 3) (u' := .slice (some ⟨gn, 0, none⟩) (i + 1) cap) HOW.out HFL.out HLT.out HG5.out HSB.out HBA.out.size (below_al (HBA.out.trans (hB5.mono HBA.out.size)) _) hP4 (below_al (Below.refl _ _) _) o1 o2 o3)
              rw [← HXX.out] at HO9
              clear o1 o2 o3 o4 hB5 hB4 hP4 hzA hzB hzC hS5 z3 zf HS HRA HBA HSA HOA HOW HFL HBN HWB HCK2 HXX t0 t1 t2 t3 t4 d0 d1 d2 d3 d4 q3
              go_wp2_with fail
              go_roundw
              case rel => exact ⟨i + 1, _, by go_num, by omega, HS9, HO9⟩
              case measure => simp [intOf]; omega
          · obtain rfl : i = x := by omega
            obtain ⟨t0, t1, t2, t3, t4⟩ := row5 hST.out.2.2.2.2.2
            have f0 := hST.out.2.2.2.2.1.frozen 0
            have f1 := hST.out.2.2.2.2.1.frozen 1
            have f2 := hST.out.2.2.2.2.1.frozen 2
            have f3 := hST.out.2.2.2.2.1.frozen 3
            have f4 := hST.out.2.2.2.2.1.frozen 4
            obtain ⟨r0, r1, r2, r3, r4⟩ := row5 hST.out.2.2.2.2.1
            have HD := hide (show DZ b0 wr m u L by have := hO.out.dz (Nat.le_refl _); rw [← HLL.out, List.take_length] at this; exact this)
            clear hO
            obtain ⟨uA, uc, hu, _⟩ := HD.out
            subst hu
            go_wp2_with fail
            refine bodyPost_ret (results_dat rfl _ _ g4 _ _ _ _ _ rfl (row_set5 hST.out.2.2.2.2.1 _ _ _ _ _)) rfl ?_
            exact clean_fin hST.out HD.out (MZ.nil _ _ _) HE2.out _ _ _ _ _
      by_cases k6 : k = 6
      · subst k6
        have HE2 := hide (show r = mkD 6 0 ⟨#[]⟩ [] (sortK Prod.fst (ys.map fun x => (x.1, cleanF m (lv + 1) x.2))) by rw [HE.out]; rfl)
        obtain ⟨L, hL⟩ : ∃ L, L = ys.map fun x => (x.1, cleanF m (lv + 1) x.2) := ⟨_, rfl⟩
        rw [← hL] at HE2
        have HLL := Lib.hid (show L.length = y by rw [hL, List.length_map, HY.out])
        have HL := Lib.hid hL
        have HO := hide (show OwnM (PZ b0 (Value.slice none 0 0).ownBlock w3 m) w3 b0 (.slice none 0 0) (L.take 0) from ⟨[], World.ownsRow_nil _ _ _ _, rfl⟩)
        clear HE hL
        go_wp2_with fail
        go_loopw [9, 53] (fun _ iv wr => ∃ (i : Nat) (u : Value), iv = .int .i64 i ∧ i ≤ y ∧ Hid (CSt w g g4 g5 b0 [.int .i64 6, .int .i64 n, .string s, .slice A x c, .slice A' y c'] [.int .i64 0, .int .i64 0, .string ⟨#[]⟩, .slice none 0 0, .slice none 0 0] [.int .i64 6, .int .i64 0, .string ⟨#[]⟩, .slice none 0 0, u] wr) ∧ Hid (OwnM (PZ b0 u.ownBlock wr m) wr b0 u (L.take i))) (fun _ iv _ => y - (intOf iv).toNat)
        case atStart => exact ⟨0, _, rfl, Nat.zero_le _, HST, HO⟩
        case round =>
          clear HO HST s0 s1 s2 s3 s4 t0 t1 t2 t3 t4 f0 f1 f2 f3 f4 q1 q2 q3 q4 r0 r1 r2 r3 r4
          obtain ⟨i, u, rfl, hi, hST, hO⟩ := hrel
          by_cases hlt : i < y
          · have hlt' : i < ys.length := by rw [← HY.out]; exact hlt
            obtain ⟨ad, rfl, hb, hlab, a, q, a', q', hfive, hpts⟩ := HM.out i _ (List.getElem?_eq_getElem hlt')
            obtain ⟨X, hX⟩ : ∃ X, X = ys[i] := ⟨_, rfl⟩
            have hmem : X.2 ∈ xs ++ ys.map Prod.snd := List.mem_append.2 (.inr (List.mem_map.2 ⟨X, hX ▸ List.getElem_mem hlt', rfl⟩))
            rw [← hX] at hlab hfive hpts
            have hbb : (ad.add (i * 6)).block < w.heap.size := by rw [block_of_add]; exact hb
            obtain ⟨s0, s1, s2, s3, s4, s5⟩ := six_of ((hST.out.2.2.1.cell (p := ad.add (i * 6)) hbb).trans hlab) (hfive.same (p := ⟨_, _, none⟩) hbb (Same.of_below hST.out.2.2.1))
            have HXX := Lib.hid (show L.take (i + 1) = L.take i ++ [(X.1, cleanF m (lv + 1) X.2)] by
              have h1 : i < L.length := by rw [HLL.out]; exact hlt
              rw [List.take_add_one, List.getElem?_eq_getElem h1]
              have : L[i] = (X.1, cleanF m (lv + 1) X.2) := by
                have := HL.out; subst this; rw [List.getElem_map, hX]
              rw [this]; rfl)
            have HLT := Lib.hid (show (L.take i).length = i by rw [List.length_take, HLL.out]; omega)
            have HCK2 := hide fun W (hB : Below w.heap.size w W) => HCK.out W X.2 a q a' q' hmem hpts hB hlv3
            unfold CleanPost datV datCs at HCK2
            obtain ⟨Y, hY⟩ : ∃ Y, Y = cleanF m (lv + 1) X.2 := ⟨_, rfl⟩
            rw [← hY] at HCK2 HXX
            clear hY
            clear hfive hpts hX hlt' hb hbb hmem hlab
            obtain ⟨zs, ho, hf⟩ := hO.out
            rw [HLT.out] at ho
            have HOW := hide ho; have HFL := hide hf
            clear ho hf hO
            go_upto_region 20 with fail
            obtain ⟨wa, b, e1, e2, hBa, hRa⟩ := boxM wr X a q a' q'
            rw [e1, e2]
            have HSA := hide (hST.out.below hBa)
            have HBA := hide hBa
            have hbg : b ≠ g5 := by have := hST.out.1; have := hST.out.2.1; omega
            obtain ⟨t0, t1, t2, t3, t4⟩ := row5 HSA.out.2.2.2.2.2
            have q4 := HSA.out.2.2.2.2.2.frozen 4
            obtain ⟨d0, d1, d2, d3, d4, d5⟩ := row6 hRa
            have HS := hide fun W (h : Below wa.heap.size wa W) => (row6 (hRa.below h)).1
            have hb0a : b0 ≤ wa.heap.size := HSA.out.2.1
            have HSB := hide hST.out.2.1
            have HG5 := hide (show g5 < b0 by have := hST.out.1; omega)
            have HOA := hide (show wa.ownsRow b0 53 6 u i zs from own_below HOW.out hBa)
            have HWB := hide fun W (h : Below wa.heap.size wa W) => (hST.out.2.2.1.trans ((hBa.trans (h.mono hBa.size)).mono hST.out.2.2.1.size))
            clear e1 e2 hBa hRa s0 s1 s2 s3 s4 s5 hST
            go_region_law (first
                | (go_simp; go_at_call 41; refine (HCK2.out _ (HWB.out _ (Below.refl _ _).drew)).mono ?_; rintro e w4 ⟨ra, rc, ra', rc', rfl, hB4, hP4⟩; have hB5 := (Below.refl wa.heap.size wa).drew.trans hB4; have hzA : w4.cell? ⟨g5, 4, none⟩ = some u := (HSA.out.below hB5).2.2.2.2.2.cell 4; have hzB : ∀ o, (w4.alloc o).cell? ⟨g5, 4, none⟩ = some u := fun o => (HSA.out.below (below_al hB5 o)).2.2.2.2.2.cell 4; have hzC := hB5.size; have hzD := HS.out _ hB5)
                | (refine step_append_lies _ rfl (.tmp 58) (.tmp 67) _ rfl b0 53 i1 _ 6 96 Tryd.underlying23 hi1 hy0 hy1 hy2 rfl (by omega) u i zs rfl ((own_below HOA.out hB5).alloc _) ⟨w4.heap.size, 0, none⟩ 1 1 (.string X.1 :: datCs Y ra rc ra' rc') rfl rfl (World.news_of_block (heap_alloc_new _ _)) memCs_one (by omega) (by unfold maxLen; omega) (by omega) (by simp; omega) _ rfl ?_; intro gn cap w5 o1 o2 o3 o4; have hS5 := (HSA.out.below (below_al hB5 (.cells (.string X.1 :: datCs Y ra rc ra' rc').toArray 53))).grown o2 (fun k e => (HOA.out.lt k e).1); have z3 : w5.cell? ⟨g5, 4, none⟩ = some u := hS5.2.2.2.2.2.cell 4; have zf := hS5.2.2.2.2.2.frozen 4))
            all_goals
              have HS9 := hide (hS5.set 4 (.slice (some ⟨gn, 0, none⟩) (i + 1) cap))
              have HO9 := hide (own_pushM (r := (X.1, Y)) (i := 4) (u' := .slice (some ⟨gn, 0, none⟩) (i + 1) cap) HOW.out HFL.out HLT.out HG5.out HSB.out HBA.out.size (below_al (HBA.out.trans (hB5.mono HBA.out.size)) _) hP4 (below_al (Below.refl _ _) _) o1 o2 o3)
              rw [← HXX.out] at HO9
              clear o1 o2 o3 o4 hB5 hB4 hP4 hzA hzB hzC hzD hS5 z3 zf HS HBA HSA HOA HOW HFL HWB HCK2 HXX t0 t1 t2 t3 t4 d0 d1 d2 d3 d4 d5 q4
              go_wp2_with fail
              go_roundw
              case rel => exact ⟨i + 1, _, by go_num, by omega, HS9, HO9⟩
              case measure => simp [intOf]; omega
          · obtain rfl : i = y := by omega
            obtain ⟨t0, t1, t2, t3, t4⟩ := row5 hST.out.2.2.2.2.2
            have hcs := hO.out
            rw [show L.take i = L by rw [← HLL.out, List.take_length]] at hcs
            have HCS := hide (clean_sort hcs (by rw [HLL.out]; omega))
            clear hO hcs
            go_wp2_with fail
            refine HCS.out.mono ?_; rintro e w4 ⟨rfl, row, hG, hrow, hMZ⟩
            have HS4 := hide (hST.out.grown hG hrow)
            have HMZ := hide hMZ
            clear hG hrow hMZ HCS hST t0 t1 t2 t3 t4
            obtain ⟨t0, t1, t2, t3, t4⟩ := row5 HS4.out.2.2.2.2.2
            have f0 := HS4.out.2.2.2.2.1.frozen 0
            have f1 := HS4.out.2.2.2.2.1.frozen 1
            have f2 := HS4.out.2.2.2.2.1.frozen 2
            have f3 := HS4.out.2.2.2.2.1.frozen 3
            have f4 := HS4.out.2.2.2.2.1.frozen 4
            obtain ⟨r0, r1, r2, r3, r4⟩ := row5 HS4.out.2.2.2.2.1
            obtain ⟨uA, uc, hu, _⟩ := HMZ.out
            subst hu
            go_wp2_with fail
            refine bodyPost_ret (results_dat rfl _ _ g4 _ _ _ _ _ rfl (row_set5 HS4.out.2.2.2.2.1 _ _ _ _ _)) rfl ?_
            exact clean_fin HS4.out (DZ.nil _ _ _) HMZ.out HE2.out _ _ _ _ _
      · have d2 : (k == 2) = false := by simpa using k2
        have d3 : (k == 3) = false := by simpa using k3
        have d4 : (k == 4) = false := by simpa using k4
        have d5 : (k == 5) = false := by simpa using k5
        have d6 : (k == 6) = false := by simpa using k6
        have HE2 := hide (show r = mkD k 0 ⟨#[]⟩ [] [] by rw [HE.out, if_neg (by omega), if_neg k4, if_neg k5, if_neg k6])
        clear HE k2 k3 k4 k5 k6
        go_wp2_with fail
        refine bodyPost_ret (results_dat rfl _ _ g4 _ _ _ _ _ rfl (row_set5 HST.out.2.2.2.2.1 _ _ _ _ _)) rfl ?_
        exact clean_fin HST.out (DZ.nil _ _ _) (MZ.nil _ _ _) HE2.out _ _ _ _ _
end Go.Proofs.YtajpgmacabeeeaaDoor

/- Make. -/
namespace Go.Proofs.YtajpgmacabeeeaaDoor
open Go.RowKit

theorem fitC_of_parts {w : World} {B : Nat} : ∀ (m : Nat) {d : Dt} {A c A' c'} (r : Nat), Parts w B m d A c A' c' → partsF m d ≤ 40 → FitC r d
  | _, _, _, _, _, _, 0, _, _ => trivial
  | 0, _, _, _, _, _, _ + 1, h, _ => h.elim
  | m + 1, d, A, c, A', c', r + 1, h, hle => by
    refine ⟨by have := kids_le h; omega, fun x hx => ?_⟩
    obtain ⟨a, q, a', q', hp⟩ := parts_kid h hx
    exact fitC_of_parts m r hp (by have := parts_kid_le (m := m) hx; omega)
theorem fitD_of_fitC : ∀ (r : Nat) {d : Dt}, FitC r d → FitD r d
  | 0, _, _ => trivial
  | r + 1, d, h => ⟨by have := h.1; omega, fun x hx => fitD_of_fitC r (h.2 x hx)⟩
theorem fitC_zero (r : Nat) : FitC r zeroD := by
  cases r with
  | zero => trivial
  | succ r => exact ⟨by simp [kids, zeroD], fun x hx => by simp [kids, zeroD] at hx⟩
theorem kids_mk (k n : Int) (s : ByteArray) (l : List Dt) (ms : List (ByteArray × Dt)) : kids (mkD k n s l ms) = l ++ ms.map Prod.snd := by unfold kids; rw [iD_mk, mD_mk]
/-- A kid of the cleaned data is a cleaned kid. -/
theorem clean_kid {m : Nat} {lv : Int} {d x : Dt} (h : x ∈ kids (cleanF (m + 1) lv d)) : ∃ y ∈ kids d, x = cleanF m (lv + 1) y := by
  unfold cleanF at h
  split at h
  · rw [kids_mk] at h; simp at h
  · rw [kids_mk] at h
    rcases List.mem_append.1 h with h | h
    · split at h
      · obtain ⟨y, hy, rfl⟩ := List.mem_map.1 h; exact ⟨y, is_kid hy, rfl⟩
      · cases h
    · obtain ⟨z, hz, rfl⟩ := List.mem_map.1 h
      split at hz
      · have := (sortK_ok (k := Prod.fst) _).2.mem hz
        obtain ⟨y, hy, rfl⟩ := List.mem_map.1 this
        exact ⟨y.2, ms_kid hy, rfl⟩
      · cases hz
theorem clean_kids_length (m : Nat) (lv : Int) (d : Dt) : (kids (cleanF (m + 1) lv d)).length ≤ (kids d).length := by
  unfold cleanF
  split
  · rw [kids_mk]; simp
  · rw [kids_mk]
    unfold kids
    simp only [List.length_append, List.length_map]
    have h1 : (if kD d = 5 then (iD d).map (cleanF m (lv + 1)) else []).length ≤ (iD d).length := by split <;> simp
    have h2 : (if kD d = 6 then sortK Prod.fst ((mD d).map fun x => (x.1, cleanF m (lv + 1) x.2)) else []).length ≤ (mD d).length := by
      split
      · rw [sortK_length, List.length_map]; exact Nat.le_refl _
      · simp
    omega
theorem fitC_clean : ∀ (r m : Nat) (lv : Int) {d : Dt}, FitC r d → FitC r (cleanF m lv d)
  | 0, _, _, _, _ => trivial
  | r + 1, 0, _, _, _ => fitC_zero (r + 1)
  | r + 1, m + 1, lv, d, h => ⟨Nat.le_trans (clean_kids_length m lv d) h.1, fun x hx => by
    obtain ⟨y, hy, rfl⟩ := clean_kid hx
    exact fitC_clean r m (lv + 1) (h.2 y hy)⟩

theorem set5_size (w : World) (g : Nat) (a b c d e : Value) : (set5 w g a b c d e).heap.size = w.heap.size := by unfold set5; simp only [csize_set]
theorem set5_heap (w : World) (g : Nat) (a b c d e : Value) {k : Nat} (hk : k ≠ g) : (set5 w g a b c d e).heap[k]? = w.heap[k]? := by
  unfold set5
  rw [Below.heap_setCell _ _ _ _ hk, Below.heap_setCell _ _ _ _ hk, Below.heap_setCell _ _ _ _ hk, Below.heap_setCell _ _ _ _ hk, Below.heap_setCell _ _ _ _ hk]
/-- Fresh data stands behind stores to an elder block. -/
theorem pz_set5 {lo m : Nat} {w W : World} {r : Dt} {a c a' c'} (h : PZ lo none w m r a c a' c') (hb : Below w.heap.size w W) {g : Nat} (hg : g < lo) (x0 x1 x2 x3 x4 : Value) : Parts (set5 W g x0 x1 x2 x3 x4) (set5 W g x0 x1 x2 x3 x4).heap.size m r a c a' c' :=
  h _ (by rw [set5_size]; exact hb.size) fun k k1 k2 _ => by rw [set5_heap _ _ _ _ _ _ _ (by omega)]; exact hb.block k k2
def MakePost (w : World) (m : Nat) (r : Dt) (e : Ending) (w' : World) : Prop :=
  ∃ X a q a' q', e = .returned (.tuple #[datV X a q a' q', .int .i64 (checkD r)]) ∧ X = (if checkD r = 0 then r else zeroD) ∧ Parts w' w'.heap.size m X a q a' q' ∧ Below w.heap.size w w'

set_option maxRecDepth 20000 in
set_option maxHeartbeats 1000000 in
theorem Make_run (m : Nat) (d : Dt) (A : Option Addr) (c : Nat) (A' : Option Addr) (c' : Nat) (w : World) (hp : Parts w w.heap.size m d A c A' c') (hf : ∀ r, FitC r d) :
    Calls Tryd.prog 17 #[datV d A c A' c'] w (MakePost w m (cleanF m 1 d)) := by
  have HCL := hide fun w' (hB : Below w.heap.size w w') => clean_run m d A c A' c' 1 w' (hp.turn (Same.of_below hB) hB.size) (hf m) (by omega) (by omega)
  obtain ⟨m', rfl⟩ : ∃ m', m = m' + 1 := by
    cases m with
    | zero => exact hp.elim
    | succ m => exact ⟨m, rfl⟩
  obtain ⟨r, hr⟩ : ∃ r, r = cleanF (m' + 1) 1 d := ⟨_, rfl⟩
  have hfr : FitD 16 r := by rw [hr]; exact fitD_of_fitC 16 (fitC_clean 16 (m' + 1) 1 (hf 16))
  rw [← hr] at HCL ⊢
  have HCK := hide fun a q a' q' W (hP : Parts W W.heap.size (m' + 1) r a q a' q') => Check_run (m' + 1) r a q a' q' W hP hfr
  obtain ⟨z, hz⟩ : ∃ z, z = checkD r := ⟨_, rfl⟩
  rw [← hz] at HCK
  have HZ := Lib.hid hz
  unfold CleanPost datV datCs at HCL
  unfold datV datCs at HCK
  unfold datV datCs
  obtain ⟨k, hk⟩ : ∃ k, k = kD d := ⟨_, rfl⟩
  obtain ⟨n, hn⟩ : ∃ k, k = nD d := ⟨_, rfl⟩
  obtain ⟨s, hs⟩ : ∃ k, k = sD d := ⟨_, rfl⟩
  obtain ⟨x, hx⟩ : ∃ k, k = (iD d).length := ⟨_, rfl⟩
  obtain ⟨y, hy⟩ : ∃ k, k = (mD d).length := ⟨_, rfl⟩
  rw [← hk, ← hn, ← hs, ← hx, ← hy] at HCL ⊢
  clear hp hf hk hn hs hx hy hr hfr hz
  go_enter Tryd.func17, Tryd.ntmps17
  go_upto_region 1 with fail
  obtain ⟨w1, g, e1, e2, hB1, _, _, _, _, _, hR1⟩ := boxD w k n s (.slice A x c) (.slice A' y c')
  obtain ⟨w2, g2, e3, e4, hB2, _, _, _, _, _, hR2⟩ := boxD w1 0 0 ⟨#[]⟩ (.slice none 0 0) (.slice none 0 0)
  have e5 : g + 1 = g2 := by rw [← e4, ← e1, ← e2]; simp
  rw [e1, e2, e3, e5]
  have HB2 := hide (hB1.trans (hB2.mono hB1.size))
  have HG2 := hide (show w.heap.size ≤ g2 by omega)
  have HG3 := hide (show g2 < w2.heap.size from hR2.lt)
  obtain ⟨s0, s1, s2, s3, s4⟩ := row5 (hR1.below hB2)
  have HR2 := hide hR2
  clear e1 e2 e3 e4 e5 hB1 hB2 hR1 hR2
  go_wp2_with (refine (HCL.out _ HB2.out).mono ?_; rintro e w3 ⟨ra, rc, ra', rc', rfl, hB3, hP3⟩; have HB3 := hide hB3; have HPZ := hide hP3; clear hB3 hP3)
  obtain ⟨w4, g4, e1, e2, hB4, _, _, _, _, _, hR4⟩ := boxD w3 (kD r) (nD r) (sD r) (.slice ra (iD r).length rc) (.slice ra' (mD r).length rc')
  rw [e1, e2]
  have HB4 := hide (HB3.out.trans (hB4.mono HB3.out.size))
  have HP4 := hide (HPZ.out.parts.turn (Same.of_below hB4) hB4.size)
  have HW4 := hide hB4
  have HR4 := hide hR4
  clear e1 e2 hB4 hR4 HB3 s0 s1 s2 s3 s4 HCL
  refine (HCK.out ra rc ra' rc' _ HP4.out).mono ?_; rintro e w5 ⟨rfl, hB5⟩
  have HB5 := hide (HB4.out.trans (hB5.mono HB4.out.size))
  have HW5 := hide (HW4.out.trans (hB5.mono HW4.out.size))
  have HBL := hide (HB2.out.trans (HB5.out.mono HB2.out.size))
  have HR := hide (HR2.out.below HB5.out)
  obtain ⟨s0, s1, s2, s3, s4⟩ := row5 (HR4.out.below hB5)
  obtain ⟨r0, r1, r2, r3, r4⟩ := row5 HR.out
  have f0 := HR.out.frozen 0
  have f1 := HR.out.frozen 1
  have f2 := HR.out.frozen 2
  have f3 := HR.out.frozen 3
  have f4 := HR.out.frozen 4
  clear hB5 HP4 HB4 HR4 HR2 HCK
  by_cases hz : z = 0
  · subst hz
    have HZ2 := hide (show r = if checkD r = 0 then r else zeroD by rw [if_pos HZ.out.symm])
    go_wp2_with fail
    refine bodyPost_ret (results_dat2 rfl _ _ g2 _ _ _ _ _ rfl (row_set5 HR.out _ _ _ _ _)) rfl ?_
    exact ⟨r, ra, rc, ra', rc', by rw [← HZ.out]; rfl, HZ2.out, pz_set5 HPZ.out HW5.out HG3.out _ _ _ _ _, below_set5 HBL.out HG2.out _ _ _ _ _⟩
  · have g0 : (z != 0) = true := by simpa using hz
    have HZ2 := hide (show zeroD = if checkD r = 0 then r else zeroD by rw [if_neg (by rw [← HZ.out]; exact hz)])
    go_wp2_with fail
    refine bodyPost_ret (results_dat2 rfl _ _ g2 _ _ _ _ _ rfl (row_set5 HR.out _ _ _ _ _)) rfl ?_
    exact ⟨zeroD, none, 0, none, 0, by rw [← HZ.out]; rfl, HZ2.out, zero_parts _ _ _, below_set5 HBL.out HG2.out _ _ _ _ _⟩
end Go.Proofs.YtajpgmacabeeeaaDoor

/- Get. -/
namespace Go.Proofs.YtajpgmacabeeeaaDoor
open Go.RowKit

abbrev Sp := ByteArray × Int
/-- From the address on lie these steps, two cells each. -/
def StepsAt (w : World) (B : Nat) (A : Option Addr) (l : List Sp) : Prop :=
  ∀ i s, l[i]? = some s → ∃ ad, A = some ad ∧ ad.block < B ∧ w.cell? (ad.add (i * 2)) = some (.string s.1) ∧ w.cell? ⟨(ad.add (i * 2)).block, (ad.add (i * 2)).off + 1, none⟩ = some (.int .i64 s.2)
def StepsR (w : World) (B : Nat) (v : Value) (l : List Sp) : Prop := ∃ A c, v = .slice A l.length c ∧ l.length ≤ c ∧ c ≤ maxLen ∧ StepsAt w B A l
theorem StepsR.turn {w w' : World} {B B' : Nat} {v : Value} {l : List Sp} (h : StepsR w B v l) (hs : Same B w w') (hB : B ≤ B') : StepsR w' B' v l := by
  obtain ⟨A, c, e, h1, h2, h3⟩ := h
  refine ⟨A, c, e, h1, h2, fun i s hi => ?_⟩
  obtain ⟨ad, e, hb, c0, c1⟩ := h3 i s hi
  have hb' : (ad.add (i * 2)).block < B := by rw [block_of_add]; exact hb
  exact ⟨ad, e, by omega, (hs.cell hb').trans c0, (hs.cell (p := ⟨_, _, none⟩) hb').trans c1⟩
def goD : Dt → List Sp → Option Dt
  | d, [] => some d
  | d, s :: l => match stepD d s.1 s.2 with
    | none => none
    | some x => goD x l
def getF (m : Nat) (d : Dt) (l : List Sp) : Option Dt := if checkD d = 0 then (goD d l).map (cleanF m 1) else none
theorem findM_mem {lab : ByteArray} : ∀ {l : List (ByteArray × Dt)} {x : Dt}, findM lab l = some x → x ∈ l.map Prod.snd
  | [], _, h => by cases h
  | y :: l, x, h => by
    unfold findM at h
    split at h
    · injection h with h; subst h; simp
    · exact List.mem_cons_of_mem _ (findM_mem h)
theorem stepD_kid {d x : Dt} {lab : ByteArray} {ix : Int} (h : stepD d lab ix = some x) : x ∈ kids d := by
  unfold stepD at h
  split at h
  · split at h
    · exact is_kid (List.mem_of_getElem? h)
    · cases h
  · exact List.mem_append.2 (.inr (findM_mem h))
theorem fitC_kid {d x : Dt} (h : ∀ r, FitC r d) (hx : x ∈ kids d) : ∀ r, FitC r x := fun r => (h (r + 1)).2 x hx
def GetPost (w : World) (m : Nat) (o : Option Dt) (e : Ending) (w' : World) : Prop :=
  ∃ X a q a' q', e = .returned (.tuple #[datV X a q a' q', .bool o.isSome]) ∧ X = o.getD zeroD ∧ Parts w' w'.heap.size m X a q a' q' ∧ Below w.heap.size w w'

set_option maxRecDepth 20000 in
set_option maxHeartbeats 2000000 in
theorem Get_run (m : Nat) (d : Dt) (A : Option Addr) (c : Nat) (A' : Option Addr) (c' : Nat) (v : Value) (l : List Sp) (w : World) (hp : Parts w w.heap.size (m + 1) d A c A' c') (hf : ∀ r, FitC r d) (hv : StepsR w w.heap.size v l) :
    Calls Tryd.prog 28 #[datV d A c A' c', v] w (GetPost w (m + 1) (getF (m + 1) d l)) := by
  have HCK := hide fun w' (hB : Below w.heap.size w w') => Check_run (m + 1) d A c A' c' w' (hp.turn (Same.of_below hB) hB.size) (fitD_of_fitC 16 (hf 16))
  obtain ⟨S, cs, rfl, g1, g2, hS⟩ := hv
  have hm := maxLen_le g2
  obtain ⟨N, hN⟩ : ∃ n, n = l.length := ⟨_, rfl⟩
  rw [← hN] at g1 ⊢
  obtain ⟨res, hres⟩ : ∃ k, k = getF (m + 1) d l := ⟨_, rfl⟩
  rw [← hres]
  unfold getF at hres
  obtain ⟨z, hz⟩ : ∃ z, z = checkD d := ⟨_, rfl⟩
  rw [← hz] at HCK hres
  have HX0 := hide (show ∃ X a q a' q', datCs X a q a' q' = datCs d A c A' c' ∧ Parts w w.heap.size (m + 1) X a q a' q' ∧ (∀ r, FitC r X) ∧ goD d l = goD X (l.drop 0) from ⟨d, A, c, A', c', rfl, hp, hf, rfl⟩)
  unfold datV datCs at HCK
  unfold datCs at HX0
  unfold datV datCs
  obtain ⟨k, hk⟩ : ∃ k, k = kD d := ⟨_, rfl⟩
  obtain ⟨n, hn⟩ : ∃ k, k = nD d := ⟨_, rfl⟩
  obtain ⟨s, hs⟩ : ∃ k, k = sD d := ⟨_, rfl⟩
  obtain ⟨x, hx⟩ : ∃ k, k = (iD d).length := ⟨_, rfl⟩
  obtain ⟨y, hy⟩ : ∃ k, k = (mD d).length := ⟨_, rfl⟩
  rw [← hk, ← hn, ← hs, ← hx, ← hy] at HCK HX0 ⊢
  have HRES := Lib.hid hres; have HN := Lib.hid hN; have HSS := hide hS
  clear hp hf hk hn hs hx hy hz hres hN hS g2
  go_enter Tryd.func28, Tryd.ntmps28
  go_upto_region 1 with fail
  obtain ⟨w1, g, e1, e2, hB1, _, _, _, _, _, hR1⟩ := boxD w k n s (.slice A x c) (.slice A' y c')
  obtain ⟨w2, g4, e3, e4, hB2, _, _, _, _, _, hR2⟩ := boxD w1 0 0 ⟨#[]⟩ (.slice none 0 0) (.slice none 0 0)
  have e5 : g + 1 = g4 := by rw [← e4, ← e1, ← e2]; simp
  rw [e1, e2, e3, e5]
  have HB2 := hide (hB1.trans (hB2.mono hB1.size))
  have HG := hide (show w.heap.size = g ∧ g4 = g + 1 from ⟨e2, by omega⟩)
  have HR1 := hide (hR1.below hB2)
  have HR2 := hide hR2
  obtain ⟨s0, s1, s2, s3, s4⟩ := row5 HR1.out
  clear e1 e2 e3 e4 e5 hB1 hB2 hR1 hR2
  go_wp2_with fail
  refine (HCK.out _ HB2.out).mono ?_; rintro e w3 ⟨rfl, hB3⟩
  have HB3 := hide (HB2.out.trans (hB3.mono HB2.out.size))
  have HR13 := hide (HR1.out.below hB3)
  have HR23 := hide (HR2.out.below hB3)
  clear hB3 HR1 HR2 HB2 HCK s0 s1 s2 s3 s4
  by_cases hz : z = 0
  · subst hz
    have HRES2 := hide (show res = (goD d l).map (cleanF (m + 1) 1) by rw [HRES.out, if_pos rfl])
    clear HRES
    go_wp2_with fail
    have HX1 := hide (show ∃ X a q a' q', Row w3 g 25 (datCs X a q a' q') ∧ Parts w3 w.heap.size (m + 1) X a q a' q' ∧ (∀ r, FitC r X) ∧ goD d l = goD X (l.drop 0) by
      obtain ⟨X, a, q, a', q', h1, h2, h3, h4⟩ := HX0.out
      exact ⟨X, a, q, a', q', by unfold datCs; rw [h1]; exact HR13.out, h2.turn (Same.of_below HB3.out) (Nat.le_refl _), h3, h4⟩)
    clear HX0 HR13
    go_loopw [7, 8, 9, 16] (fun _ _ _ iv wr => ∃ i : Nat, iv = .int .i64 i ∧ i ≤ N ∧ Hid (Below w.heap.size w wr) ∧ Hid (Row wr g4 25 [.int .i64 0, .int .i64 0, .string ⟨#[]⟩, .slice none 0 0, .slice none 0 0]) ∧
      Hid (∃ X a q a' q', Row wr g 25 (datCs X a q a' q') ∧ Parts wr w.heap.size (m + 1) X a q a' q' ∧ (∀ r, FitC r X) ∧ goD d l = goD X (l.drop i))) (fun _ _ _ iv _ => N - (intOf iv).toNat)
    case atStart => exact ⟨0, rfl, Nat.zero_le _, HB3, HR23, HX1⟩
    case round =>
      clear HX1 HR23 HB3
      obtain ⟨i, rfl, hi, hB, hR4, hX⟩ := hrel
      obtain ⟨X, a, q, a', q', hR2, hP, hF, hgo⟩ := hX.out
      have HP := hide hP; have HF := hide hF
      by_cases hlt : i < N
      · have hlt' : i < l.length := by rw [← HN.out]; exact hlt
        obtain ⟨ad, rfl, hb, hc0, hc1⟩ := HSS.out i _ (List.getElem?_eq_getElem hlt')
        obtain ⟨T, hT⟩ : ∃ T, T = l[i] := ⟨_, rfl⟩
        rw [drop_at hlt', ← hT, goD] at hgo
        rw [← hT] at hc0 hc1
        have hbb : (ad.add (i * 2)).block < w.heap.size := by rw [block_of_add]; exact hb
        have c0 := (hB.out.cell (p := ad.add (i * 2)) hbb).trans hc0
        have c1 := (hB.out.cell (p := ⟨_, _, none⟩) hbb).trans hc1
        have HGO := Lib.hid hgo
        clear hlt' hb hc0 hc1 hT hbb hP hF hgo hX
        go_upto_region 6 with fail
        obtain ⟨wa, hwa⟩ : ∃ wa, wa = wr.alloc (Obj.cells #[Value.string T.1, Value.int IntKind.i64 T.2] 48) := ⟨_, rfl⟩
        obtain ⟨b, hbn⟩ : ∃ b, b = wr.heap.size := ⟨_, rfl⟩
        have hRa : Row wa b 48 [Value.string T.1, Value.int IntKind.i64 T.2] := by rw [hwa, hbn]; exact Row.new wr _ _
        have hBa : Below wr.heap.size wr wa := by rw [hwa]; exact (Below.refl _ _).alloc (Nat.le_refl _) _
        rw [← hwa, ← hbn]
        have d0 := hRa.cell 0
        have d1 := hRa.cell 1
        have HRA := hide (hR2.below hBa)
        have HR4A := hide (hR4.out.below hBa)
        obtain ⟨s0, s1, s2, s3, s4⟩ := row5 HRA.out
        have HBA := hide (hB.out.trans (hBa.mono hB.out.size))
        have HST := hide (step_run m X a q a' q' T.1 T.2 wa w.heap.size HBA.out.size (HP.out.turn ((Same.of_below hBa).mono hB.out.size) (Nat.le_refl _)))
        unfold FoundPost datV datCs at HST
        obtain ⟨o, ho⟩ : ∃ o, o = stepD X T.1 T.2 := ⟨_, rfl⟩
        rw [← ho] at HST
        have HOO := Lib.hid ho
        clear c0 c1 hwa hbn hRa hBa hR2 hR4 hB HP ho
        go_wp2_with fail
        refine HST.out.mono ?_; rintro e w5 ⟨Y, ya, yq, ya', yq', rfl, hY, hPY, hB5⟩
        have HY := Lib.hid hY; have HPY := hide hPY; have HB5 := hide hB5
        clear hY hPY hB5 HST s0 s1 s2 s3 s4
        go_upto_region 7 with fail
        obtain ⟨w6, b8, e1, e2, hB6, _, _, _, _, _, hR6⟩ := boxD w5 (kD Y) (nD Y) (sD Y) (.slice ya (iD Y).length yq) (.slice ya' (mD Y).length yq')
        rw [e1, e2]
        have HB56 := hide (HB5.out.trans (hB6.mono HB5.out.size))
        have HB6 := hide (HBA.out.trans (HB56.out.mono HBA.out.size))
        have HR4B := hide (HR4A.out.below HB56.out)
        have HRB := hide (HRA.out.below HB56.out)
        have HPY6 := hide (HPY.out.turn ((Same.of_below hB6).mono (Nat.le_trans HBA.out.size HB5.out.size)) (Nat.le_refl _))
        obtain ⟨s0, s1, s2, s3, s4⟩ := row5 hR6
        clear e1 e2 hB6 hR6 HBA HR4A HRA HB5 HPY HB56 d0 d1
        cases o with
        | none =>
          have HZ := hide (show res = none by rw [HRES2.out, HGO.out, ← HOO.out]; rfl)
          obtain ⟨r0, r1, r2, r3, r4⟩ := row5 HR4B.out
          have f0 := HR4B.out.frozen 0
          have f1 := HR4B.out.frozen 1
          have f2 := HR4B.out.frozen 2
          have f3 := HR4B.out.frozen 3
          have f4 := HR4B.out.frozen 4
          go_wp2_with fail
          refine bodyPost_ret (results_dat2 rfl _ _ g4 _ _ _ _ _ rfl (row_set5 HR4B.out _ _ _ _ _)) rfl ?_
          exact ⟨zeroD, none, 0, none, 0, by rw [HZ.out]; rfl, by rw [HZ.out]; rfl, zero_parts _ _ _, below_set5 HB6.out (by have := HG.out; omega) _ _ _ _ _⟩
        | some x =>
          have hYx : Y = x := HY.out
          subst hYx
          have HX9 := hide (show ∀ x0 x1 x2 x3 x4, (∀ r, FitC r Y) ∧ goD d l = goD Y (l.drop (i + 1)) ∧ Parts (set5 w6 g x0 x1 x2 x3 x4) w.heap.size (m + 1) Y ya yq ya' yq' from fun x0 x1 x2 x3 x4 =>
            ⟨fitC_kid HF.out (stepD_kid HOO.out.symm), by rw [HGO.out, ← HOO.out], HPY6.out.turn (Same.of_below (below_set5 (Below.refl _ _) (by have := HG.out; omega) _ _ _ _ _)) (Nat.le_refl _)⟩)
          have HRS := hide fun x0 x1 x2 x3 x4 => row_set5 HRB.out x0 x1 x2 x3 x4
          have HR4S := hide fun x0 x1 x2 x3 x4 => row_far5 HR4B.out (g' := g) (by have := HG.out; omega) x0 x1 x2 x3 x4
          have HBS := hide fun x0 x1 x2 x3 x4 => below_set5 HB6.out (g := g) (by have := HG.out; omega) x0 x1 x2 x3 x4
          obtain ⟨r0, r1, r2, r3, r4⟩ := row5 HRB.out
          have f0 := HRB.out.frozen 0
          have f1 := HRB.out.frozen 1
          have f2 := HRB.out.frozen 2
          have f3 := HRB.out.frozen 3
          have f4 := HRB.out.frozen 4
          clear HRB HR4B HB6 HPY6 HF HGO HY HOO
          go_wp2_with fail
          go_roundw
          case rel => exact ⟨i + 1, by go_num, by omega, hide (HBS.out _ _ _ _ _), hide (HR4S.out _ _ _ _ _), hide ⟨Y, ya, yq, ya', yq', HRS.out _ _ _ _ _, (HX9.out _ _ _ _ _).2.2, (HX9.out undef undef undef undef undef).1, (HX9.out undef undef undef undef undef).2.1⟩⟩
          case measure => simp [intOf]; omega
      · obtain rfl : i = N := by omega
        have HZ := hide (show res = some (cleanF (m + 1) 1 X) by
          rw [HRES2.out, hgo, HN.out, List.drop_eq_nil_of_le (Nat.le_refl _)]; rfl)
        have HCL := hide (clean_run (m + 1) X a q a' q' 1 wr (HP.out.turn Same.refl hB.out.size) (HF.out _) (by omega) (by omega))
        unfold CleanPost datV datCs at HCL
        obtain ⟨s0, s1, s2, s3, s4⟩ := row5 hR2
        have HG4 := hide (show g4 < wr.heap.size from hR4.out.lt)
        have HR := hide fun W (h : Below wr.heap.size wr W) => hR4.out.below h
        clear hX hP hF hgo hR2 hR4 HP
        go_wp2_with fail
        refine HCL.out.mono ?_; rintro e w5 ⟨ya, yq, ya', yq', rfl, hB5, hPZ⟩
        have HR5 := hide (HR.out _ hB5)
        have HB5 := hide (hB.out.trans (hB5.mono hB.out.size))
        have HPZ := hide hPZ
        clear hB5 hPZ HR HCL s0 s1 s2 s3 s4
        obtain ⟨r0, r1, r2, r3, r4⟩ := row5 HR5.out
        have f0 := HR5.out.frozen 0
        have f1 := HR5.out.frozen 1
        have f2 := HR5.out.frozen 2
        have f3 := HR5.out.frozen 3
        have f4 := HR5.out.frozen 4
        go_wp2_with fail
        refine bodyPost_ret (results_dat2 rfl _ _ g4 _ _ _ _ _ rfl (row_set5 HR5.out _ _ _ _ _)) rfl ?_
        exact ⟨_, ya, yq, ya', yq', by rw [HZ.out]; rfl, by rw [HZ.out]; rfl, pz_set5 HPZ.out (Below.refl _ _) HG4.out _ _ _ _ _, below_set5 HB5.out (by have := HG.out; omega) _ _ _ _ _⟩
  · have g0 : (z != 0) = true := by simpa using hz
    have HRES2 := hide (show res = none by rw [HRES.out, if_neg hz])
    obtain ⟨r0, r1, r2, r3, r4⟩ := row5 HR23.out
    have f0 := HR23.out.frozen 0
    have f1 := HR23.out.frozen 1
    have f2 := HR23.out.frozen 2
    have f3 := HR23.out.frozen 3
    have f4 := HR23.out.frozen 4
    go_wp2_with fail
    refine bodyPost_ret (results_dat2 rfl _ _ g4 _ _ _ _ _ rfl (row_set5 HR23.out _ _ _ _ _)) rfl ?_
    exact ⟨zeroD, none, 0, none, 0, by rw [HRES2.out]; rfl, by rw [HRES2.out]; rfl, zero_parts _ _ _, below_set5 HB3.out (by have := HG.out; omega) _ _ _ _ _⟩
end Go.Proofs.YtajpgmacabeeeaaDoor
