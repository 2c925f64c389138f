/- common: what it computes, and its walk at one line. -/
import Derived.Test.YtbfgnafpianliaaLg
import Derived.WalkMore
namespace Go.Proofs.Ytbfgnafpianliaa
open Go.RowKit

def bestF (f : Nat → Nat) : Nat → Nat
  | 0 => 0
  | k + 1 => if f k ≤ f (bestF f k) then bestF f k else k
theorem bestF_lt (f : Nat → Nat) : ∀ n, bestF f n ≤ n - 1
  | 0 => Nat.le_refl _
  | k + 1 => by
    have := bestF_lt f k
    unfold bestF; split <;> omega

/-- The sum that common maximizes. -/
def sumF (a b : List ByteArray) (k : Nat) : Nat :=
  lcs (a.take (a.length / 2)) b (a.length / 2) k + lcs (a.drop (a.length / 2)).reverse b.reverse (a.length - a.length / 2) (b.length - k)
def commonF : Nat → List ByteArray → List ByteArray → Nat → Nat → List (Nat × Nat)
  | 0, _, _, _, _ => []
  | n + 1, a, b, i, j =>
    if a.length = 0 then []
    else if a.length = 1 then (if 0 ≤ indexF (a.getD 0 ByteArray.empty) b 0 then [(i, j + (indexF (a.getD 0 ByteArray.empty) b 0).toNat)] else [])
    else commonF n (a.take (a.length / 2)) (b.take (bestF (sumF a b) (b.length + 1))) i j ++
      commonF n (a.drop (a.length / 2)) (b.drop (bestF (sumF a b) (b.length + 1))) (i + a.length / 2) (j + bestF (sumF a b) (b.length + 1))

def pairCells : List (Nat × Nat) → List Value
  | [] => []
  | p :: l => .int .i64 p.1 :: .int .i64 p.2 :: pairCells l
theorem pairCells_length : ∀ l : List (Nat × Nat), (pairCells l).length = l.length * 2
  | [] => rfl
  | p :: l => by simp only [pairCells, List.length_cons, pairCells_length l]; omega
theorem pairCells_append : ∀ a b : List (Nat × Nat), pairCells (a ++ b) = pairCells a ++ pairCells b
  | [], _ => rfl
  | p :: l, b => by simp [pairCells, pairCells_append l b]
theorem pairCells_get : ∀ (l : List (Nat × Nat)) (i : Nat) (p : Nat × Nat), l[i]? = some p → (pairCells l)[i * 2]? = some (.int .i64 p.1) ∧ (pairCells l)[i * 2 + 1]? = some (.int .i64 p.2)
  | [], i, e, h => by simp at h
  | x :: l, 0, e, h => by
    simp at h; subst h; simp [pairCells]
  | x :: l, i + 1, e, h => by
    have := pairCells_get l i e (by simpa using h)
    rw [show (i + 1) * 2 = i * 2 + 2 by omega]
    simpa [pairCells] using this
theorem pairCells_one : ∀ (l : List (Nat × Nat)), ∀ u ∈ pairCells l, u.oneCell' = true
  | [], u, h => by simp [pairCells] at h
  | p :: l, u, h => by
    simp only [pairCells, List.mem_cons] at h
    rcases h with rfl | rfl | h
    · rfl
    · rfl
    · exact pairCells_one l u h

theorem Strs.take {w : World} {B n c : Nat} {A : Option Addr} {xs : List ByteArray} (h : Strs w B (.slice A n c) xs) {k : Nat} (hk : k ≤ n) : Strs w B (.slice A k c) (xs.take k) := by
  obtain ⟨A', c', e, h1, h2, h3⟩ := h
  injection e with e1 e2 e3
  subst e1; subst e3
  rw [List.length_map] at e2 h1
  refine ⟨A, c, by rw [List.length_map, List.length_take]; congr 1; omega, by rw [List.length_map, List.length_take]; omega, h2, fun i v hv => ?_⟩
  rw [List.getElem?_map] at hv
  obtain ⟨x, hx, rfl⟩ := Option.map_eq_some_iff.1 hv
  rw [List.getElem?_take] at hx
  split at hx
  · exact h3 i _ (by rw [List.getElem?_map, hx]; rfl)
  · cases hx
theorem Strs.drop {w : World} {B n c : Nat} {A X : Option Addr} {xs : List ByteArray} (h : Strs w B (.slice A n c) xs) {k : Nat} (hk : k ≤ n) (hX : k < n → ∀ ad, A = some ad → X = some (ad.add k)) : Strs w B (.slice X (n - k) (c - k)) (xs.drop k) := by
  obtain ⟨A', c', e, h1, h2, h3⟩ := h
  injection e with e1 e2 e3
  subst e1; subst e3
  rw [List.length_map] at e2 h1
  refine ⟨X, c - k, by rw [List.length_map, List.length_drop]; congr 1; omega, by rw [List.length_map, List.length_drop]; omega, by omega, fun i v hv => ?_⟩
  rw [List.getElem?_map] at hv
  obtain ⟨x, hx, rfl⟩ := Option.map_eq_some_iff.1 hv
  rw [List.getElem?_drop] at hx
  have hlt : k + i < xs.length := (List.getElem?_eq_some_iff.1 hx).1
  obtain ⟨ad, ha, hb, hc⟩ := h3 (k + i) (.string x) (by rw [List.getElem?_map, hx]; rfl)
  refine ⟨ad.add k, hX (by omega) ad ha, by rw [block_of_add]; exact hb, ?_⟩
  rw [add_of_add]; exact hc

theorem Sl.row_parts {w : World} {B n : Nat} {u : Value} {f : Nat → Value} (h : Sl w B u ((List.range (n + 1)).map f)) :
    ∃ ad c, u = .slice (some ad) (n + 1) c ∧ n + 1 ≤ c ∧ c ≤ maxLen ∧ ad.block < B ∧ ∀ k, k ≤ n → w.cell? (ad.add k) = some (f k) := by
  obtain ⟨A, c, e, h1, h2, h3⟩ := h
  simp only [List.length_map, List.length_range] at e h1
  have hg : ∀ k, k ≤ n → ((List.range (n + 1)).map f)[k]? = some (f k) := fun k hk => by rw [List.getElem?_map, List.getElem?_range (by omega)]; rfl
  obtain ⟨ad, rfl, hb, _⟩ := h3 0 _ (hg 0 (Nat.zero_le _))
  refine ⟨ad, c, e, h1, h2, hb, fun k hk => ?_⟩
  obtain ⟨ad', ha, _, hc⟩ := h3 k _ (hg k hk)
  injection ha with ha
  subst ha
  exact hc

theorem own_mono {w : World} {base base' : Nat} {e : TypeId} {size : Nat} {v : Value} {n : Nat} {xs : List Value} (h : w.ownsRow base e size v n xs) (hb : base' ≤ base) : w.ownsRow base' e size v n xs := by
  refine ⟨h.1, ?_⟩
  rcases h.2 with h2 | ⟨g, cap, cur, h1, h2, h3⟩
  · exact .inl h2
  · exact .inr ⟨g, cap, cur, h1, by omega, h3⟩
theorem grown_of_below {w w' : World} {B : Nat} (h : Below B w w') (hB : w.heap.size ≤ B) : w.grownBy w' none := ⟨h.os, h.tape, h.output, h.size, fun k hk _ => h.block k (by omega)⟩

/-- append of one own row to another, as a step of a region that draws its order. -/
theorem step_append_rows {P : Program} (w : World) {ops : Array Oper} {o : Oper} {a : Act} {K : Act → World → Prop} {Q : Exit → Act → World → Prop} {E : Prop} (hgd : o.guard = none) (s x : Operand) (t : TypeId)
    (ho : o.op = .call { callee := .builtin .append, args := #[s, x], argTypes := #[t, t] })
    (base : Nat) (e : TypeId) (i : TypeInfo) (z : Value) (size bytes : Nat) (ht : P.underlying t = some (.slice e)) (hi : P.info? e = some i) (hz : i.zero = some z)
    (hsize : i.size = size) (hby : i.bytes = bytes) (hzs : z.cells.size = size) (hsz : 0 < size)
    (v : Value) (n : Nat) (xs : List Value) (hs : a.eval s = v) (hown : w.ownsRow base e size v n xs)
    (v2 : Value) (m base2 : Nat) (ys : List Value) (hx : a.eval x = v2) (hown2 : w.ownsRow base2 e size v2 m ys) (h1 : ∀ u ∈ ys, u.oneCell' = true)
    (h63 : n + m ≤ maxLen) (hbytes : (n + m) * bytes ≤ 140737488355328) (hbase : base ≤ w.heap.size)
    (h : ∀ v' w', Hid (w'.ownsRow base e size v' (n + m) (xs ++ ys)) → Hid (w.grownBy w' v.ownBlock) → K (a.put o.dst v') w') :
    if Region.wanted o (yielded ops a.tmps) = true then Oper.wp P o a w K Q else E := by
  rcases hown2.2 with ⟨rfl, rfl⟩ | ⟨g, cap, cur, rfl, _⟩
  · exact step_append_all w hgd s x t ho base e i z size bytes ht hi hz hsize hby hzs hsz v n xs hs hown none 0 0 ys hx (fun _ => ⟨rfl, rfl⟩) hown2.1 (fun ad e => by cases e) h1 h63 hbytes hbase h
  · exact step_append_all w hgd s x t ho base e i z size bytes ht hi hz hsize hby hzs hsz v n xs hs hown _ m cap ys hx (fun e => by cases e) hown2.1 (fun ad e => by injection e with e; subst e; exact hown2.cells rfl) h1 h63 hbytes hbase h

theorem commonF_len : ∀ (n : Nat) (a b : List ByteArray) (i j : Nat), (commonF n a b i j).length ≤ a.length
  | 0, a, b, i, j => by simp [commonF]
  | n + 1, a, b, i, j => by
    unfold commonF
    split
    · simp
    · split
      · split <;> simp; omega
      · have h1 := commonF_len n (a.take (a.length / 2)) (b.take (bestF (sumF a b) (b.length + 1))) i j
        have h2 := commonF_len n (a.drop (a.length / 2)) (b.drop (bestF (sumF a b) (b.length + 1))) (i + a.length / 2) (j + bestF (sumF a b) (b.length + 1))
        rw [List.length_take] at h1
        rw [List.length_drop] at h2
        rw [List.length_append]
        omega

theorem info49 : (Try.prog.info? 49).map (fun i => (i.zero, i.size, i.bytes)) = some (some (.agg #[.int .i64 0, .int .i64 0]), 2, 16) := by kernel_rfl

/-- What common leaves. -/
def PairsPost (w : World) (ps : List (Nat × Nat)) (e : Ending) (w' : World) : Prop :=
  ∃ r, e = .returned r ∧ Below w.heap.size w w' ∧ w'.ownsRow w.heap.size 49 2 r ps.length (pairCells ps)

theorem indexF_lt (x : ByteArray) : ∀ (b : List ByteArray) (k : Int), indexF x b k ≤ k + b.length ∧ -1 ≤ min (indexF x b k) k + 0 ∨ k < 0
  | [], k => by simp [indexF]; omega
  | y :: l, k => by
    have := indexF_lt x l (k + 1)
    simp only [indexF, List.length_cons]
    split
    · omega
    · omega
set_option maxRecDepth 100000 in
theorem common_one (n : Nat) (a b : List ByteArray) (u v : Value) (i j : Nat) (w : World) (hu : Strs w w.heap.size u a) (hv : Strs w w.heap.size v b) (h1 : a.length = 1) (hb : b.length ≤ 1000000) (hj : j ≤ 1000000000 - b.length) :
    Calls Try.prog 30 #[u, v, .agg #[.int .i64 i, .int .i64 j]] w (PairsPost w (commonF (n + 1) a b i j)) := by
  have hr : commonF (n + 1) a b i j = if 0 ≤ indexF (a.getD 0 ByteArray.empty) b 0 then [(i, j + (indexF (a.getD 0 ByteArray.empty) b 0).toNat)] else [] := by
    unfold commonF; rw [if_neg (by omega), if_pos h1]
  have HR := hide hr
  have hx : a = [a.getD 0 ByteArray.empty] := by
    match a, h1 with
    | [x], _ => rfl
  obtain ⟨x, hxx⟩ : ∃ x, x = a.getD 0 ByteArray.empty := ⟨_, rfl⟩
  rw [← hxx] at hx HR hr
  obtain ⟨A, c, rfl, hc1, hc2, hels⟩ := hu.parts
  obtain ⟨ad, rfl, hbb, hcell⟩ := hels 0 x (by rw [hx]; rfl)
  have hcell : w.cell? ad = some (.string x) := hcell
  have hm := maxLen_le hc2
  have hlt := indexF_lt x b 0
  obtain ⟨r, hrr⟩ : ∃ r, r = indexF x b 0 := ⟨_, rfl⟩
  have HV := hide hv
  rw [← hrr] at HR hr hlt
  obtain ⟨res, hres⟩ : ∃ res, res = commonF (n + 1) a b i j := ⟨_, rfl⟩
  rw [← hres] at HR hr ⊢
  have HI := hide hrr
  rw [h1] at hc1 ⊢
  have e1 : IntKind.i64.wrap ((j : Int) + r) = (j : Int) + r := IntWalk.i64_in _ (by omega)
  clear hels hc2 hu hv h1 hx hxx hrr hres hr
  go_enter Try.func30, Try.ntmps30
  go_wp2_with fail
  go_step3
  obtain ⟨w1, hw1⟩ : ∃ w1, w1 = w.alloc (Obj.cells #[Value.int IntKind.i64 (i : Int), Value.int IntKind.i64 (j : Int)] 49) := ⟨_, rfl⟩
  obtain ⟨t, ht⟩ : ∃ t, t = w.heap.size := ⟨_, rfl⟩
  have c0 : w1.cell? ⟨t, 0, none⟩ = some (.int .i64 i) := by rw [hw1, ht]; simp
  have c1 : w1.cell? ⟨t, 1, none⟩ = some (.int .i64 j) := by rw [hw1, ht]; simp
  have hcell : w1.cell? ad = some (.string x) := by rw [hw1, World.cell?_alloc_lt _ _ _ hbb]; exact hcell
  have HB1 := hide (show Below w.heap.size w w1 by rw [hw1]; exact below_al (Below.refl _ _) _)
  have HX : Hid (Calls Try.prog 31 #[v, .string x] w1 fun e w' => e = .returned (.int .i64 r) ∧ w1 = w') := by
    rw [unhide HI]; exact hide (Index_run v b x w1 _ (HV.out.same (Same.of_below HB1.out)))
  rw [← hw1, ← ht]
  clear hw1 ht
  by_cases hr0 : 0 ≤ r
  · have hres : res = [(i, j + r.toNat)] := by rw [HR.out, if_pos hr0]
    have HRES := hide hres
    have g1 : decide (r ≥ 0) = true := by simpa using hr0
    clear hres
    go_wp2_with fail
    refine (unhide HX).mono ?_; rintro e w' ⟨rfl, rfl⟩
    go_wp2_with fail
    try rw [Exit.noGoto_ret]
    go_ret
    refine ⟨_, rfl, below_al HB1.out _, ?_⟩
    rw [HRES.out]
    have := World.ownsRow_lit (base := w.heap.size) (e := 49) (size := 2) w1 #[.int .i64 (i : Int), .int .i64 ((j : Int) + r)] 1 HB1.out.size (by simp [maxLen]) rfl
    have e : (((j + r.toNat : Nat)) : Int) = (j : Int) + r := by omega
    simp only [List.length_cons, List.length_nil, pairCells, e]
    exact this
  · have hres : res = [] := by rw [HR.out, if_neg hr0]
    have HRES := hide hres
    have g1 : decide (r ≥ 0) = false := by simpa using hr0
    clear hres
    go_wp2_with fail
    refine (unhide HX).mono ?_; rintro e w' ⟨rfl, rfl⟩
    go_wp2_with fail
    try rw [Exit.noGoto_ret]
    go_ret
    refine ⟨_, rfl, HB1.out, ?_⟩
    rw [HRES.out]
    exact World.ownsRow_nil _ _ _ _

end Go.Proofs.Ytbfgnafpianliaa
