/- A region that draws its order and ends in operations of one forced order: the head under a condition that the tail may break; into of the reference: a member is laid behind all whose labels are not greater; clear of the reference: data with sorted members and without unused fields, whatever its depth; Make of the reference; clean and clear, as plain functions: the same first error, the same data where there is none; what is cleaned stays as it is. -/
import Derived.Test.YtajpgmacabeeeaaDoorGA
import Derived.StillTail
import Derived.Deep.RegionHeld3
import Derived.Test.YtajpgmacabeeeaaDoorGI
import Derived.Test.YtajpgmacabeeeaaDoorGB
import Derived.Test.YtajpgmacabeeeaaDoorGP

/- A region that draws its order and ends in operations of one forced order: the head under a condition that the tail may break. -/
namespace Go.Proofs.YtajpgmacabeeeaaDoor
open Go.RowKit

section
variable {P : Program} {md : Region.Mode} {l : List Oper} {n : Nat} {Q : Exit → Act → World → Prop} {S : World → Prop}
/-- The post of the head: the tail, one operation behind the other. -/
def TailPost (P : Program) (l : List Oper) (n : Nat) (Q : Exit → Act → World → Prop) : Exit → Act → World → Prop
  | .normal, a, w => wpList P l.toArray Q (l.drop n) a w
  | e, a, w => Q e a w
theorem tp_wp {o : Oper} {a : Act} {w : World} {K : Act → World → Prop} (h : o.wp P a w K (TailPost P l n Q)) : o.wp P a w K Q := by
  unfold Oper.wp at *
  generalize (execOp a.eval o).run P w = r at *
  cases r with
  | ok x w' =>
    cases x <;> simp only [Oper.upon] at h ⊢ <;>
      first
        | exact h
        | exact Calls.mono h (fun e w'' he => by cases e <;> exact he)
  | halt x w' => cases x <;> simp only [Oper.upon] at h ⊢ <;> exact h
theorem tp_out (h : LetsOut (TailPost P l n Q)) : LetsOut Q := h
theorem any_more : ∀ (f : Nat) (listed : Array Bool) (a : Act) (w : World), wpAny P md l.toArray Q f listed a w → wpAny P md l.toArray Q (f + 1) listed a w
  | 0, listed, a, w, h => ⟨fun _ => h.2, fun i hi => by rw [h.1] at hi; cases hi⟩
  | f + 1, listed, a, w, h => ⟨h.1, fun i hi => wpOp_mono (fun a' w' h' => any_more f _ a' w' h') (h.2 i hi)⟩
theorem any_add (f : Nat) : ∀ (g : Nat) (listed : Array Bool) (a : Act) (w : World), wpAny P md l.toArray Q f listed a w → wpAny P md l.toArray Q (g + f) listed a w
  | 0, _, _, _, h => by rw [Nat.zero_add]; exact h
  | g + 1, listed, a, w, h => by rw [show g + 1 + f = (g + f) + 1 by omega]; exact any_more _ _ _ _ (any_add f g listed a w h)
/-- Each operation waits only for those ahead of it. -/
def orderB (md : Region.Mode) (ops : Array Oper) (n : Nat) : Bool :=
  (List.range n).all fun i => ((ops[i]?).map fun o => o.after.all fun e => !Region.binds md e || decide (e.on < i)).getD false
def plainGuards (l : List Oper) : Bool := l.all fun o => match o.guard with | none => true | some _ => false
def headTailB (md : Region.Mode) (l : List Oper) (n : Nat) : Bool :=
  decide (n < l.length) && Region.sinkB md l.toArray n && Region.chainB md l.toArray n && orderB md l.toArray n && plainGuards (l.take n) && Region.seqB md l.toArray (l.length - n) n ((List.replicate n true ++ List.replicate (l.length - n) false).toArray)
/-- The head's list of what has come up, at the whole. -/
def full (g : Nat) (listed : Array Bool) : Array Bool := (listed.toList ++ List.replicate g false).toArray
theorem full_lt {g i : Nat} {listed : Array Bool} (b : Bool) (hi : i < listed.size) : (full g listed).getD i b = listed.getD i b := by
  unfold full
  simp only [Array.getD_eq_getD_getElem?, List.getElem?_toArray]
  rw [List.getElem?_append_left (by simpa using hi)]
  simp
theorem full_ge {g i : Nat} {listed : Array Bool} (hi : listed.size ≤ i) : (full g listed).getD i false = false := by
  unfold full
  simp only [Array.getD_eq_getD_getElem?, List.getElem?_toArray]
  rw [List.getElem?_append_right (by simpa using hi)]
  rcases Nat.lt_or_ge (i - listed.size) g with h | h
  · simp [h]
  · simp [Nat.not_lt.2 h]
theorem full_size (g : Nat) (listed : Array Bool) : (full g listed).size = listed.size + g := by unfold full; simp
theorem full_set {g i : Nat} {listed : Array Bool} (hi : i < listed.size) : full g (listed.setIfInBounds i true) = (full g listed).setIfInBounds i true := by
  unfold full
  apply Array.ext'
  simp [hi]
theorem getD_below {l : List Oper} {n j : Nat} (h : j < n) : (l.take n).toArray[j]? = l.toArray[j]? := by simp [h]
theorem ready_full {g : Nat} {listed : Array Bool} (hs : listed.size = n) {j : Nat} (hj : j < n) : j ∈ Region.ready md l.toArray (full g listed) ↔ j ∈ Region.ready md (l.take n).toArray listed := by
  rw [mem_ready, mem_ready, getD_below hj, full_lt true (by omega)]
  refine and_congr Iff.rfl ⟨fun ⟨o, h1, h2⟩ => ⟨o, h1, fun e he hb => ?_⟩, fun ⟨o, h1, h2⟩ => ⟨o, h1, fun e he hb => ?_⟩⟩
  · have := h2 e he hb
    rcases Nat.lt_or_ge e.on listed.size with h | h
    · rwa [full_lt false h] at this
    · rw [full_ge h] at this; cases this
  · have := h2 e he hb
    rcases Nat.lt_or_ge e.on listed.size with h | h
    · rwa [full_lt false h]
    · simp [Nat.not_lt.2 h] at this
theorem ready_lt {ops : Array Oper} {listed : Array Bool} {j : Nat} (h : j ∈ Region.ready md ops listed) : j < ops.size := by
  obtain ⟨_, o, ho, _⟩ := mem_ready.1 h
  exact (Array.getElem?_eq_some_iff.1 ho).1
theorem all_listed {ops : Array Oper} {listed : Array Bool} (hord : orderB md ops n = true) (hs : listed.size = n) (hr : ∀ j, j < n → j ∉ Region.ready md ops (listed)) : ∀ i, i < n → listed.getD i false = true := by
  intro i
  induction i using Nat.strongRecOn with
  | _ i ih =>
    intro hi
    cases hl : listed.getD i false with
    | true => rfl
    | false =>
      exfalso
      have h1 := List.all_eq_true.1 hord i (List.mem_range.2 hi)
      cases ho : ops[i]? with
      | none => rw [ho] at h1; cases h1
      | some o =>
        rw [ho] at h1
        have h1 : (o.after.all fun e => !Region.binds md e || decide (e.on < i)) = true := h1
        refine hr i hi (mem_ready.2 ⟨getD_in (by omega) hl, o, ho, fun e he hb => ?_⟩)
        have h2 := Array.all_eq_true'.1 h1 e he
        rw [hb] at h2
        have h3 : e.on < i := by simpa using h2
        exact ih e.on h3 (by omega)
theorem any_of_headH (hB : headTailB md l n = true) : ∀ (f : Nat) (listed : Array Bool) (a : Act) (w : World), HeadInv md l.toArray n (full (l.length - n) listed) → listed.size = n →
    wpAnyH P md (l.take n).toArray (TailPost P l n Q) S f listed a w → wpAny P md l.toArray Q (f + (l.length - n)) (full (l.length - n) listed) a w := by
  unfold headTailB at hB
  simp only [Bool.and_eq_true, decide_eq_true_eq] at hB
  obtain ⟨⟨⟨⟨⟨hn, hsi⟩, hch⟩, hord⟩, hgu⟩, hseq⟩ := hB
  have hord2 : orderB md (l.take n).toArray n = true := by
    unfold orderB at hord ⊢
    rw [List.all_eq_true] at hord ⊢
    intro i hi
    rw [getD_below (List.mem_range.1 hi)]
    exact hord i hi
  have hend : ∀ (f : Nat) (listed : Array Bool) (a : Act) (w : World), listed.size = n → Region.ready md (l.take n).toArray listed = [] → wpList P l.toArray Q (l.drop n) a w → wpAny P md l.toArray Q (f + (l.length - n)) (full (l.length - n) listed) a w := by
    intro f listed a w hs hr h
    have hall := all_listed (listed := listed) hord2 hs (fun j _ => by rw [hr]; simp)
    have e : full (l.length - n) listed = (List.replicate n true ++ List.replicate (l.length - n) false).toArray := by
      have : listed.toList = List.replicate n true := by
        apply List.ext_getElem (by simp [hs])
        intro i h1 h2
        have h1' : i < listed.size := by simpa using h1
        have := hall i (by omega)
        simp [h1'] at this
        simpa using this
      unfold full; rw [this]
    have h2 := wpAny_of_seq (md := md) (Q' := Q) (l.drop n) n (full (l.length - n) listed) a w (fun j => by simp [List.getElem?_drop]) (by rw [List.length_drop, e]; exact hseq) h
    rw [List.length_drop] at h2
    exact any_add _ f _ _ _ h2
  intro f
  induction f with
  | zero =>
    intro listed a w _ hs h
    exact hend 0 listed a w hs h.1 h.2
  | succ f ih =>
    intro listed a w inv hs h
    cases hr : Region.ready md (l.take n).toArray listed with
    | nil => exact hend (f + 1) listed a w hs hr (h.1 hr)
    | cons i0 rs =>
      have hi0 : i0 ∈ Region.ready md (l.take n).toArray listed := by rw [hr]; exact List.mem_cons_self ..
      have hi0n : i0 < n := by have := ready_lt hi0; simp at this; omega
      have hun0 := (mem_ready.1 ((ready_full (g := l.length - n) hs hi0n).2 hi0)).1
      rw [show f + 1 + (l.length - n) = (f + (l.length - n)) + 1 by omega]
      refine ⟨fun h0 => ?_, fun j hj => ?_⟩
      · have := (ready_full (g := l.length - n) hs hi0n).2 hi0
        rw [h0] at this; cases this
      have hjn : j < n := by
        rcases Nat.lt_or_ge j n with h | h
        · exact h
        · exact absurd hj (tail_waits hsi hch (by simpa using hn) inv _ i0 rfl hi0n hun0 j h)
      have h1 := h.2 j ((ready_full hs hjn).1 hj)
      obtain ⟨_, o, ho, _⟩ := mem_ready.1 hj
      have hgo : o.guard = none := by
        have := List.all_eq_true.1 hgu o (by simpa using Array.mem_of_getElem? ((getD_below hjn).trans ho))
        revert this
        cases o.guard <;> simp
      have hw : ∀ y, Region.wanted o y = true := fun y => by simp [Region.wanted, hgo]
      unfold wpOp at h1 ⊢
      rw [getD_below hjn] at h1
      simp only [ho, hw, if_true] at h1 ⊢
      rcases h1 with h1 | h1
      · refine .inl (Oper.wp_mono (fun a' w' h' => ?_) (tp_wp h1))
        have h2 := ih (listed.setIfInBounds j true) a' w' (by rw [full_set (by omega)]; exact inv.set hj hjn) (by simp [hs]) h'.2
        rwa [full_set (by omega)] at h2
      · exact .inr ⟨h1.1, tp_out h1.2⟩
/-- A region in two parts: the head in whatever order, under S; the tail in its one order. -/
theorem region_two {id : Nat} {a : Act} {w : World} (n : Nat) (S : World → Prop) (hm : P.follows .mixedOrders = true) (hB : headTailB .any l n = true) (hS : S w.drew)
    (h : S w.drew → wpAnyH P .any (l.take n).toArray (TailPost P l n Q) S n (Array.replicate n false) a w.drew) : (Code.region id l.toArray true).wp P Q a w := by
  refine wp_region_any hm ?_
  have hn : n < l.length := by
    unfold headTailB at hB
    simp only [Bool.and_eq_true, decide_eq_true_eq] at hB
    exact hB.1.1.1.1.1
  have e : full (l.length - n) (Array.replicate n false) = Array.replicate l.length false := by
    unfold full
    apply Array.ext'
    simp [List.replicate_append_replicate, show n + (l.length - n) = l.length by omega]
  have inv : HeadInv .any l.toArray n (full (l.length - n) (Array.replicate n false)) := by
    rw [e]
    exact ⟨by simp, fun j oj _ hl => (by rw [getD_replicate_false] at hl; cases hl), fun t _ ht => getD_in (by simpa using ht) (getD_replicate_false _ _)⟩
  have := any_of_headH (P := P) (Q := Q) (S := S) hB n _ a w.drew inv (by simp) (h hS)
  rw [e, show n + (l.length - n) = l.length by omega] at this
  simpa using this
/-- An operation is taken first; its parts stand as letters, so that the frame behind it is written out. -/
theorem takeH {ops : Array Oper} {i : Nat} {d : Option Tmp} {op : Op} {ty : TypeId} {pos : String} {af : Array Edge} {gd : Option (Tmp × Bool)} {v : Value} {fuel : Nat} {listed : Array Bool} {a : Act} {w : World} (hi : ops[i]? = some ⟨d, op, ty, pos, af, gd⟩)
    (hs : Region.noSelect ops = true) (hf : Region.free md ops listed i = true) (hr : (Region.ready md ops listed).contains i = true)
    (hQ : ∀ c a w, Q (.panic c) (a.put d v) w → Q (.panic c) a w) (hy : YieldsIf P ops S ⟨d, op, ty, pos, af, gd⟩ v a) (hS : S w)
    (h : wpAnyH P md ops Q S fuel (listed.setIfInBounds i true) (a.put d v) w) : wpAnyH P md ops Q S (fuel + 1) listed a w := wpAnyH_take hi hs hf hr hQ hy hS h
/-- One operation alone may come up. -/
theorem oneH {ops : Array Oper} {i : Nat} {d : Option Tmp} {op : Op} {ty : TypeId} {pos : String} {af : Array Edge} {gd : Option (Tmp × Bool)} {fuel : Nat} {listed : Array Bool} {a : Act} {w : World} (hi : ops[i]? = some ⟨d, op, ty, pos, af, gd⟩) (hr : Region.ready md ops listed = [i])
    (h : ∀ K' : Act → World → Prop, Shut (∀ a w, S w → (S w → wpAnyH P md ops Q S fuel (listed.setIfInBounds i true) a w) → K' a w) → if Region.wanted ⟨d, op, ty, pos, af, gd⟩ (yielded ops a.tmps) = true then Oper.wp P ⟨d, op, ty, pos, af, gd⟩ a w K' Q else K' (a.put d undef) w) :
    wpAnyH P md ops Q S (fuel + 1) listed a w := wpAnyH_ready hr (by simp) (AllReadyH.cons hi h AllReadyH.nil)
/-- Two operations may come up. -/
theorem twoH {ops : Array Oper} {i j : Nat} {d : Option Tmp} {op : Op} {ty : TypeId} {pos : String} {af : Array Edge} {gd : Option (Tmp × Bool)} {d' : Option Tmp} {op' : Op} {ty' : TypeId} {pos' : String} {af' : Array Edge} {gd' : Option (Tmp × Bool)} {fuel : Nat} {listed : Array Bool} {a : Act} {w : World} (hi : ops[i]? = some ⟨d, op, ty, pos, af, gd⟩) (hj : ops[j]? = some ⟨d', op', ty', pos', af', gd'⟩) (hr : Region.ready md ops listed = [i, j])
    (h : ∀ K' : Act → World → Prop, Shut (∀ a w, S w → (S w → wpAnyH P md ops Q S fuel (listed.setIfInBounds i true) a w) → K' a w) → if Region.wanted ⟨d, op, ty, pos, af, gd⟩ (yielded ops a.tmps) = true then Oper.wp P ⟨d, op, ty, pos, af, gd⟩ a w K' Q else K' (a.put d undef) w)
    (h' : ∀ K' : Act → World → Prop, Shut (∀ a w, S w → (S w → wpAnyH P md ops Q S fuel (listed.setIfInBounds j true) a w) → K' a w) → if Region.wanted ⟨d', op', ty', pos', af', gd'⟩ (yielded ops a.tmps) = true then Oper.wp P ⟨d', op', ty', pos', af', gd'⟩ a w K' Q else K' (a.put d' undef) w) :
    wpAnyH P md ops Q S (fuel + 1) listed a w := wpAnyH_ready hr (by simp) (AllReadyH.cons hi h (AllReadyH.cons hj h' AllReadyH.nil))
end
end Go.Proofs.YtajpgmacabeeeaaDoor

/- into of the reference: a member is laid behind all whose labels are not greater. -/
namespace Go.Proofs.YtajpgmacabeeeaaDoor
open Go.RowKit

theorem insK_take (x : ByteArray × Dt) : ∀ (L : List (ByteArray × Dt)) (k : Nat), k ≤ L.length → (∀ i (h : i < L.length), i < k → ltB x.1 L[i].1 = false) → (∀ h : k < L.length, ltB x.1 L[k].1 = true) → insK Prod.fst x L = L.take k ++ x :: L.drop k
  | [], k, hk, _, _ => by
    have : k = 0 := by simpa using hk
    subst this; rfl
  | y :: L, 0, _, _, h2 => by
    have := h2 (by simp)
    simp at this
    unfold insK
    rw [if_pos this]; rfl
  | y :: L, k + 1, hk, h1, h2 => by
    have h0 := h1 0 (by simp) (by omega)
    simp at h0
    unfold insK
    rw [if_neg (by rw [h0]; simp), insK_take x L k (by simpa using hk) (fun i h hi => h1 (i + 1) (by simpa using h) (by omega)) (fun h => h2 (by simpa using h))]
    rfl

theorem own_newsM {w : World} {b n c size : Nat} {e : TypeId} {A : Option Addr} {xs : List Value} (h : w.ownsRow b e size (.slice A n c) n xs) : (A = none → n = 0 ∧ c = 0) ∧ ∀ W, Below w.heap.size w W → ∀ ad, A = some ad → ∀ j u, xs[j]? = some u → W.cell? (ad.add j) = some u := by
  rcases h.2 with ⟨e1, h0⟩ | ⟨g, cap, cur, e1, _, hh, _⟩
  · injection e1 with e1 e2 e3
    subst e1 e3
    exact ⟨fun _ => ⟨h0, rfl⟩, fun W _ ad e => (by cases e)⟩
  · injection e1 with e1 e2 e3
    subst e1
    refine ⟨fun e => (by cases e), fun W hB ad e j u hu => ?_⟩
    injection e with e
    subst e
    exact (own_below h hB).cells rfl j u hu
theorem take_get {α : Type} {l : List α} {k j : Nat} {u : α} (h : (l.take k)[j]? = some u) : l[j]? = some u := by
  rw [List.getElem?_take] at h
  split at h
  · exact h
  · cases h
theorem flat_cut {R : Reads} : ∀ {xs : List Value} {l : List (ByteArray × Dt)} (i : Nat), FlatM R xs l → FlatM R (xs.take (i * 6)) (l.take i) ∧ FlatM R (xs.drop (i * 6)) (l.drop i)
  | xs, l, 0, h => by simpa using And.intro (show FlatM R [] [] from rfl) h
  | xs, [], i + 1, h => by
    have h : xs = [] := h
    subst h; simp; exact rfl
  | _, d :: l, i + 1, ⟨a, c, a', c', ys, e, hR, h⟩ => by
    obtain ⟨h1, h2⟩ := flat_cut i h
    subst e
    have e6 : (Value.string d.1 :: datCs d.2 a c a' c').length = 6 := rfl
    constructor
    · refine ⟨a, c, a', c', ys.take (i * 6), ?_, hR, h1⟩
      rw [List.take_append, e6, show (i + 1) * 6 - 6 = i * 6 by omega, List.take_of_length_le (by rw [e6]; omega)]
    · rw [List.drop_append, e6, show (i + 1) * 6 - 6 = i * 6 by omega, List.drop_of_length_le (by rw [e6]; omega), List.nil_append]
      exact h2
theorem own_join {R : Reads} {w : World} {b b' k i : Nat} {v : Value} {xs : List Value} {L : List (ByteArray × Dt)} {x : ByteArray × Dt} {a c a' c'} (h0 : w.ownsRow b 53 6 v k (xs.take (i * 6) ++ .string x.1 :: (datCs x.2 a c a' c' ++ xs.drop (i * 6)))) (hf : FlatM R xs L) (hx : R x.2 a c a' c') (hb : b' ≤ b) :
    OwnM R w b' v (L.take i ++ x :: L.drop i) := by
  have h : w.ownsRow b 53 6 v k (xs.take (i * 6) ++ (.string x.1 :: datCs x.2 a c a' c') ++ xs.drop (i * 6)) := by simpa using h0
  obtain ⟨h1, h2⟩ := flat_cut i hf
  have hfl := (h1.append (FlatM.one (m := x) hx)).append h2
  have e : L.take i ++ [x] ++ L.drop i = L.take i ++ x :: L.drop i := by simp
  rw [e] at hfl
  have hlen : k = (L.take i ++ x :: L.drop i).length := by
    have h3 := h.1
    have h4 := hfl.length
    omega
  exact ⟨_, by rw [← hlen]; exact own_mono h hb, hfl⟩
theorem leq_true {x y : ByteArray} (h : ltB x y = false) : (Op.bytesLess y.toList x.toList || y.toList == x.toList) = true := by
  rcases Bool.eq_false_or_eq_true (ltB y x) with e | e
  · have : Op.bytesLess y.toList x.toList = true := e
    rw [this]; rfl
  · rw [ltB_antisymm e h]; simp
theorem leq_false {x y : ByteArray} (h : ltB x y = true) : (Op.bytesLess y.toList x.toList || y.toList == x.toList) = false := by
  have h1 : Op.bytesLess y.toList x.toList = false := bl_asymm _ _ h
  rw [h1, Bool.false_or, beq_eq_false_iff_ne]
  intro e
  have : ltB x y = false := by unfold ltB; rw [e]; exact bl_irr _
  rw [this] at h; cases h

set_option maxRecDepth 20000 in
set_option maxHeartbeats 1000000 in
theorem into_run (R : Reads) (b : Nat) (v : Value) (L : List (ByteArray × Dt)) (x : ByteArray × Dt) (a : Option Addr) (c : Nat) (a' : Option Addr) (c' : Nat) (w : World) (hv : OwnM R w b v L) (hx : R x.2 a c a' c') (hL : L.length ≤ 1000000) :
    Calls Tryd.prog 62 #[v, memV x a c a' c'] w fun e w' => ∃ u, e = .returned u ∧ Below w.heap.size w w' ∧ OwnM R w' w.heap.size u (insK Prod.fst x L) := by
  obtain ⟨A, cap, rfl, h1, h2, hels⟩ := hv.mems
  obtain ⟨xs, ho, hf⟩ := hv
  have hm := maxLen_le h2
  obtain ⟨i1, hi1, hy0, hy1, hy2⟩ := info_parts infoM
  obtain ⟨n, hn⟩ : ∃ n, n = L.length := ⟨_, rfl⟩
  rw [← hn] at ho hL h1 ⊢
  have HE := Lib.hid hels; have HN := Lib.hid hn; have HXS := hide hf; have HOW := hide ho; have HXX := hide hx
  unfold memV memCs datCs
  clear hels hn hf ho hx
  go_enter Tryd.func62, Tryd.ntmps62
  go_upto_region 1 with fail
  obtain ⟨w1, g, e1, e2, hB1, hR1⟩ := boxM w x a c a' c'
  rw [e1, e2]
  have HB1 := hide hB1; have HR1 := hide hR1
  clear e1 e2 hB1 hR1
  obtain ⟨c0, c1, c2, c3, c4, c5⟩ := row6 HR1.out
  go_wp2_with fail
  go_loopw [5] (fun iv wr => ∃ i k : Nat, iv = .int .i64 i ∧ i ≤ n ∧ w1.drewN k = wr ∧ Hid (∀ j (h : j < L.length), j < i → ltB x.1 L[j].1 = false)) (fun iv _ => n - (intOf iv).toNat)
  case atStart => exact ⟨0, 0, rfl, Nat.zero_le _, rfl, hide fun j h hj => by omega⟩
  case round =>
    obtain ⟨i, kk, rfl, hi, rfl, hI⟩ := hrel
    by_cases hlt : i < n
    · have hlt' : i < L.length := by rw [← HN.out]; exact hlt
      obtain ⟨ad, rfl, hb, hlab, q, r, q', r', hfive, hpts⟩ := HE.out i _ (List.getElem?_eq_getElem hlt')
      obtain ⟨Y, hY⟩ : ∃ Y, Y = L[i].1 := ⟨_, rfl⟩
      have hbb : (ad.add (i * 6)).block < w.heap.size := by rw [block_of_add]; exact hb
      have s0 := (HB1.out.cell (p := ad.add (i * 6)) hbb).trans hlab
      rw [← hY] at s0
      have HYY := hide (show ∀ h : i < L.length, L[i].1 = Y from fun _ => hY.symm)
      clear hlab hfive hpts hb hbb
      clear hY
      by_cases hlY : ltB x.1 Y = true
      · have gle := leq_false hlY
        have HK := hide (show insK Prod.fst x L = L.take i ++ x :: L.drop i from insK_take x L i (by rw [← HN.out]; exact hi) (fun j h hj => hI.out j h hj) (fun h => by rw [HYY.out h]; exact hlY))
        go_wp2_with fail
        go_quiet (fail)
        go_upto_region 5 with fail
        obtain ⟨wq, hwq⟩ : ∃ wq, wq = (w1.drewN kk).drewN nq := ⟨_, rfl⟩
        have HBQ := hide (show Below w1.heap.size w1 wq by rw [hwq]; exact below_drewN (below_drewN (Below.refl _ _) _) _)
        rw [← hwq]
        have HNW := hide (own_newsM HOW.out)
        have HXL := hide HOW.out.1
        clear hwq hI c0 c1 c2 c3 c4 c5
        go_wp2_with (at_builtin; refine wpList_append_all _ rfl (.tmp 23) (.tmp 26) _ rfl w1.heap.size 53 i1 _ 6 96 Tryd.underlying23 hi1 hy0 hy1 hy2 rfl (by omega) _ 0 [] rfl (World.ownsRow_nil _ _ _ _) (some ad) i cap (xs.take (i * 6)) rfl (fun e => by cases e) (by rw [List.length_take, HXL.out]; omega) (fun ad e j u hu => HNW.out.2 _ (HB1.out.trans (HBQ.out.mono HB1.out.size)) ad e j u (take_get hu)) (fun u hu => HXS.out.oneCell u (List.mem_of_mem_take hu)) (by unfold maxLen; omega) (by omega) HBQ.out.size ?_)
        intro v5 w5 o1 o2
        have HB5 := hide (show Below w1.heap.size w1 w5 from HBQ.out.grown o2.out HBQ.out.size (fun k e => by simp [Value.ownBlock] at e))
        have HO5 := hide (show w5.ownsRow w1.heap.size 53 6 v5 i (xs.take (i * 6)) by simpa using o1.out)
        obtain ⟨c0, c1, c2, c3, c4, c5⟩ := row6 (HR1.out.below HB5.out)
        clear o1 o2 HBQ
        go_wp2_with (at_builtin; refine wpList_append_all _ rfl (.tmp 28) (.tmp 30) _ rfl w1.heap.size 53 i1 _ 6 96 Tryd.underlying23 hi1 hy0 hy1 hy2 rfl (by omega) v5 i (xs.take (i * 6)) rfl (HO5.out.alloc _) (some ⟨w5.heap.size, 0, none⟩) 1 1 (.string x.1 :: datCs x.2 a c a' c') rfl (by intro h; cases h) rfl (by intro ad' h; injection h with h; subst h; exact World.news_of_block (heap_alloc_new _ _)) memCs_one (by unfold maxLen; omega) (by omega) (by simp; have := HB5.out.size; omega) ?_)
        intro v6 w6 o1 o2
        have HB6 := hide (show Below w1.heap.size w1 w6 from (below_al HB5.out (.cells (.string x.1 :: datCs x.2 a c a' c').toArray 53)).grown o2.out (by have := HB5.out.size; simp; omega) (fun k e => (HO5.out.lt k e).1))
        have HO6 := hide o1.out
        clear o1 o2 HB5 HO5 c0 c1 c2 c3 c4 c5
        go_upto_region 7 with fail
        go_wp2_with (at_builtin; refine wpList_append_all _ rfl (.tmp 32) (.tmp 35) _ rfl w1.heap.size 53 i1 _ 6 96 Tryd.underlying23 hi1 hy0 hy1 hy2 rfl (by omega) v6 (i + 1) (xs.take (i * 6) ++ .string x.1 :: datCs x.2 a c a' c') rfl HO6.out (some (ad.add (i * 6))) (n - i) (cap - i) (xs.drop (i * 6)) rfl (fun e => by cases e) (by rw [List.length_drop, HXL.out]; omega) (fun ad' e j u hu => by injection e with e; subst e; rw [add_of_add]; rw [List.getElem?_drop] at hu; exact HNW.out.2 _ (HB1.out.trans (HB6.out.mono HB1.out.size)) ad rfl _ u hu) (fun u hu => HXS.out.oneCell u (List.mem_of_mem_drop hu)) (by unfold maxLen; omega) (by omega) HB6.out.size ?_)
        intro v7 w7 o1 o2
        have HB7 := hide (show Below w.heap.size w w7 from HB1.out.trans ((HB6.out.grown o2.out HB6.out.size (fun k e => (HO6.out.lt k e).1)).mono HB1.out.size))
        have HO7 := hide o1.out
        clear o1 o2 HB6 HO6
        go_wp2_with fail
        go_ret
        refine ⟨_, rfl, HB7.out, ?_⟩
        rw [HK.out]
        exact own_join HO7.out HXS.out HXX.out HB1.out.size
      · have hlY2 : ltB x.1 Y = false := by simpa using hlY
        have gle := leq_true hlY2
        have HI2 := hide (show ∀ j (h : j < L.length), j < i + 1 → ltB x.1 L[j].1 = false from fun j h hj => by
          rcases Nat.lt_or_ge j i with h1 | h1
          · exact hI.out j h h1
          · obtain rfl : j = i := by omega
            rw [HYY.out h]; exact hlY2)
        clear hI hlt'
        go_wp2_with fail
        go_quiet (fail)
        go_wp2_with fail
        go_roundw
        case rel => exact ⟨i + 1, kk + nq, by go_num, by omega, by first | trivial | rfl, HI2⟩
        case measure => simp [intOf]; omega
    · obtain rfl : i = n := by omega
      have HK := hide (show insK Prod.fst x L = L.take i ++ x :: L.drop i from insK_take x L i (by rw [← HN.out]; exact hi) (fun j h hj => hI.out j h hj) (fun h => by have := HN.out; omega))
      go_wp2_with fail
      go_quiet (fail)
      go_upto_region 5 with fail
      obtain ⟨wq, hwq⟩ : ∃ wq, wq = (w1.drewN kk).drewN nq := ⟨_, rfl⟩
      have HBQ := hide (show Below w1.heap.size w1 wq by rw [hwq]; exact below_drewN (below_drewN (Below.refl _ _) _) _)
      rw [← hwq]
      have HNW := hide (own_newsM HOW.out)
      have HXL := hide HOW.out.1
      clear hwq hI c0 c1 c2 c3 c4 c5
      go_wp2_with (at_builtin; refine wpList_append_all _ rfl (.tmp 23) (.tmp 26) _ rfl w1.heap.size 53 i1 _ 6 96 Tryd.underlying23 hi1 hy0 hy1 hy2 rfl (by omega) _ 0 [] rfl (World.ownsRow_nil _ _ _ _) A i cap (xs.take (i * 6)) rfl (fun e => by have := HNW.out.1 e; omega) (by rw [List.length_take, HXL.out]; omega) (fun ad e j u hu => HNW.out.2 _ (HB1.out.trans (HBQ.out.mono HB1.out.size)) ad e j u (take_get hu)) (fun u hu => HXS.out.oneCell u (List.mem_of_mem_take hu)) (by unfold maxLen; omega) (by omega) HBQ.out.size ?_)
      intro v5 w5 o1 o2
      have HB5 := hide (show Below w1.heap.size w1 w5 from HBQ.out.grown o2.out HBQ.out.size (fun k e => by simp [Value.ownBlock] at e))
      have HO5 := hide (show w5.ownsRow w1.heap.size 53 6 v5 i (xs.take (i * 6)) by simpa using o1.out)
      obtain ⟨c0, c1, c2, c3, c4, c5⟩ := row6 (HR1.out.below HB5.out)
      clear o1 o2 HBQ
      go_wp2_with (at_builtin; refine wpList_append_all _ rfl (.tmp 28) (.tmp 30) _ rfl w1.heap.size 53 i1 _ 6 96 Tryd.underlying23 hi1 hy0 hy1 hy2 rfl (by omega) v5 i (xs.take (i * 6)) rfl (HO5.out.alloc _) (some ⟨w5.heap.size, 0, none⟩) 1 1 (.string x.1 :: datCs x.2 a c a' c') rfl (by intro h; cases h) rfl (by intro ad' h; injection h with h; subst h; exact World.news_of_block (heap_alloc_new _ _)) memCs_one (by unfold maxLen; omega) (by omega) (by simp; have := HB5.out.size; omega) ?_)
      intro v6 w6 o1 o2
      have HB6 := hide (show Below w1.heap.size w1 w6 from (below_al HB5.out (.cells (.string x.1 :: datCs x.2 a c a' c').toArray 53)).grown o2.out (by have := HB5.out.size; simp; omega) (fun k e => (HO5.out.lt k e).1))
      have HO6 := hide o1.out
      clear o1 o2 HB5 HO5 c0 c1 c2 c3 c4 c5
      go_upto_region 7 with fail
      cases A with
      | none =>
        obtain ⟨h01, rfl⟩ := HNW.out.1 rfl
        subst h01
        go_wp2_with (at_builtin; refine wpList_append_all _ rfl (.tmp 32) (.tmp 35) _ rfl w1.heap.size 53 i1 _ 6 96 Tryd.underlying23 hi1 hy0 hy1 hy2 rfl (by omega) v6 (0 + 1) (xs.take (0 * 6) ++ .string x.1 :: datCs x.2 a c a' c') rfl HO6.out none 0 0 (xs.drop (0 * 6)) rfl (fun _ => ⟨rfl, rfl⟩) (by rw [List.length_drop, HXL.out]) (fun ad e => by cases e) (fun u hu => HXS.out.oneCell u (List.mem_of_mem_drop hu)) (by unfold maxLen; omega) (by omega) HB6.out.size ?_)
        intro v7 w7 o1 o2
        have HB7 := hide (show Below w.heap.size w w7 from HB1.out.trans ((HB6.out.grown o2.out HB6.out.size (fun k e => (HO6.out.lt k e).1)).mono HB1.out.size))
        have HO7 := hide o1.out
        clear o1 o2 HB6 HO6
        go_wp2_with fail
        go_ret
        refine ⟨_, rfl, HB7.out, ?_⟩
        rw [HK.out]
        exact own_join HO7.out HXS.out HXX.out HB1.out.size
      | some ad =>
        by_cases hci : i = cap
        · subst hci
          go_wp2_with (at_builtin; refine wpList_append_all _ rfl (.tmp 32) (.tmp 35) _ rfl w1.heap.size 53 i1 _ 6 96 Tryd.underlying23 hi1 hy0 hy1 hy2 rfl (by omega) v6 (i + 1) (xs.take (i * 6) ++ .string x.1 :: datCs x.2 a c a' c') rfl HO6.out _ _ _ (xs.drop (i * 6)) rfl (fun e => by cases e) (by rw [List.length_drop, HXL.out]; simp) (fun ad e j u hu => by rw [List.getElem?_drop, List.getElem?_eq_none (by rw [HXL.out]; omega)] at hu; cases hu) (fun u hu => HXS.out.oneCell u (List.mem_of_mem_drop hu)) (by unfold maxLen; omega) (by omega) HB6.out.size ?_)
          intro v7 w7 o1 o2
          have HB7 := hide (show Below w.heap.size w w7 from HB1.out.trans ((HB6.out.grown o2.out HB6.out.size (fun k e => (HO6.out.lt k e).1)).mono HB1.out.size))
          have HO7 := hide o1.out
          clear o1 o2 HB6 HO6
          go_wp2_with fail
          go_ret
          refine ⟨_, rfl, HB7.out, ?_⟩
          rw [HK.out]
          exact own_join HO7.out HXS.out HXX.out HB1.out.size
        · have hci2 : i < cap := by omega
          go_wp2_with (at_builtin; refine wpList_append_all _ rfl (.tmp 32) (.tmp 35) _ rfl w1.heap.size 53 i1 _ 6 96 Tryd.underlying23 hi1 hy0 hy1 hy2 rfl (by omega) v6 (i + 1) (xs.take (i * 6) ++ .string x.1 :: datCs x.2 a c a' c') rfl HO6.out _ _ _ (xs.drop (i * 6)) rfl (fun e => by cases e) (by rw [List.length_drop, HXL.out]; simp) (fun ad e j u hu => by rw [List.getElem?_drop, List.getElem?_eq_none (by rw [HXL.out]; omega)] at hu; cases hu) (fun u hu => HXS.out.oneCell u (List.mem_of_mem_drop hu)) (by unfold maxLen; omega) (by omega) HB6.out.size ?_)
          intro v7 w7 o1 o2
          have HB7 := hide (show Below w.heap.size w w7 from HB1.out.trans ((HB6.out.grown o2.out HB6.out.size (fun k e => (HO6.out.lt k e).1)).mono HB1.out.size))
          have HO7 := hide o1.out
          clear o1 o2 HB6 HO6
          go_wp2_with fail
          go_ret
          refine ⟨_, rfl, HB7.out, ?_⟩
          rw [HK.out]
          exact own_join HO7.out HXS.out HXX.out HB1.out.size
end Go.Proofs.YtajpgmacabeeeaaDoor

/- clear of the reference: data with sorted members and without unused fields, whatever its depth. -/
namespace Go.Proofs.YtajpgmacabeeeaaDoor
open Go.RowKit

def clearF : Nat → Dt → Dt
  | 0, _ => zeroD
  | m + 1, d => mkD (kD d) (if kD d = 2 ∨ kD d = 3 then nD d else 0) (if kD d = 4 then sD d else ⟨#[]⟩) (if kD d = 5 then (iD d).map (clearF m) else [])
        (if kD d = 6 then sortK Prod.fst ((mD d).map fun x => (x.1, clearF m x.2)) else [])
theorem OwnM.mz {lo base : Nat} {w : World} {m : Nat} {u : Value} {l : List (ByteArray × Dt)} (h : OwnM (PZ base none w m) w base u l) (hl : lo ≤ base) : MZ lo w m u l := by
  obtain ⟨A, c, rfl, h1, h2, _⟩ := h.mems
  refine ⟨A, c, rfl, h1, h2, fun W g1 g2 => ?_⟩
  obtain ⟨xs, ho, hf⟩ := h
  rcases Nat.eq_zero_or_pos l.length with h0 | h0
  · rw [List.eq_nil_of_length_eq_zero h0]; intro i x hx; simp at hx
  · obtain ⟨g, rfl, hg, hg2⟩ := own_lo ho h0
    refine MemsAt.of_flat (hf.turn fun x a c a' c' hp => hp W g1 fun k k1 k2 _ => g2 k (by omega) k2) (by show g < _; omega) fun j v hv => ?_
    have hc := ho.cells (g := g) rfl j v hv
    rw [add_head] at hc ⊢
    exact (World.cell?_of_block (g2 g (by omega) hg2)).trans hc
/-- The members behind a store to a box. -/
theorem into_set {b0 g5 m i : Nat} {w : World} {u : Value} {l : List (ByteArray × Dt)} (h : OwnM (PZ b0 none w m) w b0 u l) (hg : g5 < b0) (v : Value) : OwnM (PZ b0 none (w.setCell ⟨g5, i, none⟩ v) m) (w.setCell ⟨g5, i, none⟩ v) b0 u l := by
  obtain ⟨xs, ho, hf⟩ := h
  refine ⟨xs, own_set ho hg v, hf.turn fun x a c a' c' hp => hp.turn (by rw [csize_set]; exact Nat.le_refl _) fun k k1 _ _ => ⟨Below.heap_setCell _ _ _ _ (by show k ≠ g5; omega), k1, by simp⟩⟩
theorem pz_below {b0 m : Nat} {w w' : World} {d : Dt} {a c a' c'} (h : PZ b0 none w m d a c a' c') (hb : Below w.heap.size w w') : PZ b0 none w' m d a c a' c' :=
  h.turn hb.size fun k k1 k2 _ => ⟨hb.block k k2, k1, by simp⟩
theorem pz_lo {b0 H m : Nat} {w : World} {d : Dt} {a c a' c'} (h : PZ H none w m d a c a' c') (hb : b0 ≤ H) : PZ b0 none w m d a c a' c' :=
  h.turn (Nat.le_refl _) fun k k1 _ _ => ⟨rfl, by omega, by simp⟩

set_option maxRecDepth 20000 in
set_option maxHeartbeats 4000000 in
theorem clear_run : ∀ (m : Nat) (d : Dt) (A : Option Addr) (c : Nat) (A' : Option Addr) (c' : Nat) (w : World), Parts w w.heap.size m d A c A' c' → FitC m d →
    Calls Tryd.prog 42 #[datV d A c A' c'] w (CleanPost w m (clearF m d)) := by
  intro m
  induction m with
  | zero => intro d A c A' c' w hp; exact hp.elim
  | succ m ih =>
    intro d A c A' c' w hp hf
    obtain ⟨⟨h1, h2, h3, h4⟩, hI, hM⟩ := hp
    have hm := maxLen_le h2; have hm' := maxLen_le h4
    have hkl := hf.1
    unfold kids at hkl
    rw [List.length_append, List.length_map] at hkl
    have HCK := hide fun W X a q a' q' (hx : X ∈ kids d) (hX : Parts w w.heap.size m X a q a' q') (hB : Below w.heap.size w W) => ih X a q a' q' W (hX.turn (Same.of_below hB) hB.size) (hf.2 X hx)
    unfold kids at HCK
    have HI := Lib.hid hI; have HM := Lib.hid hM
    obtain ⟨i0, hi0, hz0, hz1, hz2⟩ := info_parts infoD
    obtain ⟨i1, hi1, hy0, hy1, hy2⟩ := info_parts infoM
    obtain ⟨r, hr⟩ : ∃ r, r = clearF (m + 1) d := ⟨_, rfl⟩
    rw [← hr]
    unfold clearF at hr
    unfold datV datCs
    obtain ⟨k, hk⟩ : ∃ k, k = kD d := ⟨_, rfl⟩
    obtain ⟨n, hn'⟩ : ∃ k, k = nD d := ⟨_, rfl⟩
    obtain ⟨s, hs⟩ : ∃ k, k = sD d := ⟨_, rfl⟩
    obtain ⟨xs, hxs⟩ : ∃ k, k = iD d := ⟨_, rfl⟩
    obtain ⟨ys, hys⟩ : ∃ k, k = mD d := ⟨_, rfl⟩
    rw [← hk, ← hn', ← hs, ← hxs, ← hys] at hr
    rw [← hxs] at HI h1 hkl HCK
    rw [← hys] at HM h3 hkl HCK
    rw [← hk, ← hn', ← hs, ← hxs, ← hys]
    obtain ⟨x, hx⟩ : ∃ k, k = xs.length := ⟨_, rfl⟩
    obtain ⟨y, hy⟩ : ∃ k, k = ys.length := ⟨_, rfl⟩
    rw [← hx] at h1 hkl
    rw [← hy] at h3 hkl
    rw [← hx, ← hy]
    have HX := Lib.hid hx; have HY := Lib.hid hy; have HRES := Lib.hid hr
    clear hr hk hn' hs hxs hys hx hy h2 h4 hM hI hf ih
    go_enter Tryd.func42, Tryd.ntmps42
    go_upto_region 2 with fail
    obtain ⟨w1, g, e1, e2, hB1, _, _, _, _, _, hR1⟩ := boxD w k n s (.slice A x c) (.slice A' y c')
    obtain ⟨w2, g4, e3, e4, hB2, _, _, _, _, _, hR2⟩ := boxD w1 0 0 ⟨#[]⟩ (.slice none 0 0) (.slice none 0 0)
    obtain ⟨w3, g5, e5, e6, hB3, _, _, _, _, _, hR3⟩ := boxD w2 k 0 ⟨#[]⟩ (.slice none 0 0) (.slice none 0 0)
    have e7 : w.heap.size + 1 = g4 := by rw [← e4, ← e1]; simp
    have e8 : g4 + 1 = g5 := by rw [← e6, ← e3, ← e4]; simp
    have e9 : w3.heap.size = g5 + 1 := by rw [← e5, ← e6]; simp
    rw [e7, e8, e1, e2, e3, e5]
    obtain ⟨b0, hb0⟩ : ∃ b, b = g + 3 := ⟨_, rfl⟩
    have HST := hide (show CSt w g g4 g5 b0 [.int .i64 k, .int .i64 n, .string s, .slice A x c, .slice A' y c'] [.int .i64 0, .int .i64 0, .string ⟨#[]⟩, .slice none 0 0, .slice none 0 0] [.int .i64 k, .int .i64 0, .string ⟨#[]⟩, .slice none 0 0, .slice none 0 0] w3 from
      ⟨⟨e2, by omega, by omega, hb0⟩, by omega, (hB1.trans (hB2.mono hB1.size)).trans (hB3.mono (Nat.le_trans hB1.size hB2.size)), (hR1.below hB2).below hB3, hR2.below hB3, hR3⟩)
    obtain ⟨s0, s1, s2, s3, s4⟩ := row5 HST.out.2.2.2.1
    obtain ⟨t0, t1, t2, t3, t4⟩ := row5 HST.out.2.2.2.2.2
    have f0 := HST.out.2.2.2.2.1.frozen 0
    have f1 := HST.out.2.2.2.2.1.frozen 1
    have f2 := HST.out.2.2.2.2.1.frozen 2
    have f3 := HST.out.2.2.2.2.1.frozen 3
    have f4 := HST.out.2.2.2.2.1.frozen 4
    have q1 := HST.out.2.2.2.2.2.frozen 1
    have q2 := HST.out.2.2.2.2.2.frozen 2
    have q3 := HST.out.2.2.2.2.2.frozen 3
    have q4 := HST.out.2.2.2.2.2.frozen 4
    obtain ⟨r0, r1, r2, r3, r4⟩ := row5 HST.out.2.2.2.2.1
    have hgg : g4 ≠ g5 := by have := HST.out.1; omega
    clear e1 e2 e3 e4 e5 e6 e7 e8 e9 hB1 hB2 hB3 hR1 hR2 hR3 hb0
    have HE := hide (show r = mkD k (if k = 2 ∨ k = 3 then n else 0) (if k = 4 then s else ⟨#[]⟩) (if k = 5 then xs.map (clearF m) else []) (if k = 6 then sortK Prod.fst (ys.map fun x => (x.1, clearF m x.2)) else []) from HRES.out)
    clear HRES
    by_cases k2 : k = 2
    · subst k2
      have HE2 := hide (show r = mkD 2 n ⟨#[]⟩ [] [] by rw [HE.out]; rfl)
      have HS1 := hide (HST.out.set 1 (.int .i64 n))
      clear HE
      go_wp2_with fail
      refine bodyPost_ret (results_dat rfl _ _ g4 _ _ _ _ _ rfl (row_set5 HS1.out.2.2.2.2.1 _ _ _ _ _)) rfl ?_
      exact clean_fin HS1.out (DZ.nil _ _ _) (MZ.nil _ _ _) HE2.out _ _ _ _ _
    by_cases k3 : k = 3
    · subst k3
      have HE2 := hide (show r = mkD 3 n ⟨#[]⟩ [] [] by rw [HE.out]; rfl)
      have HS1 := hide (HST.out.set 1 (.int .i64 n))
      clear HE
      go_wp2_with fail
      refine bodyPost_ret (results_dat rfl _ _ g4 _ _ _ _ _ rfl (row_set5 HS1.out.2.2.2.2.1 _ _ _ _ _)) rfl ?_
      exact clean_fin HS1.out (DZ.nil _ _ _) (MZ.nil _ _ _) HE2.out _ _ _ _ _
    by_cases k4 : k = 4
    · subst k4
      have HE2 := hide (show r = mkD 4 0 s [] [] by rw [HE.out]; rfl)
      have HS1 := hide (HST.out.set 2 (.string s))
      clear HE
      go_wp2_with fail
      refine bodyPost_ret (results_dat rfl _ _ g4 _ _ _ _ _ rfl (row_set5 HS1.out.2.2.2.2.1 _ _ _ _ _)) rfl ?_
      exact clean_fin HS1.out (DZ.nil _ _ _) (MZ.nil _ _ _) HE2.out _ _ _ _ _
    by_cases k5 : k = 5
    · subst k5
      have HE2 := hide (show r = mkD 5 0 ⟨#[]⟩ (xs.map (clearF m)) [] by rw [HE.out]; rfl)
      obtain ⟨L, hL⟩ : ∃ L, L = xs.map (clearF m) := ⟨_, rfl⟩
      rw [← hL] at HE2
      have HLL := Lib.hid (show L.length = x by rw [hL, List.length_map, HX.out])
      have HL := Lib.hid hL
      have HO := hide (show OwnD (PZ b0 (Value.slice none 0 0).ownBlock w3 m) w3 b0 (.slice none 0 0) (L.take 0) from ⟨[], World.ownsRow_nil _ _ _ _, rfl⟩)
      clear HE hL
      go_wp2_with fail
      go_loopw [4] (fun iv wr => ∃ (i : Nat) (u : Value), iv = .int .i64 i ∧ i ≤ x ∧ Hid (CSt w g g4 g5 b0 [.int .i64 5, .int .i64 n, .string s, .slice A x c, .slice A' y c'] [.int .i64 0, .int .i64 0, .string ⟨#[]⟩, .slice none 0 0, .slice none 0 0] [.int .i64 5, .int .i64 0, .string ⟨#[]⟩, u, .slice none 0 0] wr) ∧ Hid (OwnD (PZ b0 u.ownBlock wr m) wr b0 u (L.take i))) (fun iv _ => x - (intOf iv).toNat)
      case atStart => exact ⟨0, _, rfl, Nat.zero_le _, HST, HO⟩
      case round =>
        clear HO HST s0 s1 s2 s3 s4 t0 t1 t2 t3 t4 f0 f1 f2 f3 f4 q1 q2 q3 q4 r0 r1 r2 r3 r4
        obtain ⟨i, u, rfl, hi, hST, hO⟩ := hrel
        obtain ⟨s0, s1, s2, s3, s4⟩ := row5 hST.out.2.2.2.1
        by_cases hlt : i < x
        · have hlt' : i < xs.length := by rw [← HX.out]; exact hlt
          obtain ⟨ad, rfl, hb, a, q, a', q', hfive, hpts⟩ := HI.out i _ (List.getElem?_eq_getElem hlt')
          obtain ⟨X, hX⟩ : ∃ X, X = xs[i] := ⟨_, rfl⟩
          have hmem : X ∈ xs ++ ys.map Prod.snd := List.mem_append.2 (.inl (hX ▸ List.getElem_mem hlt'))
          rw [← hX] at hfive hpts
          have hbb : (ad.add (i * 5)).block < w.heap.size := by rw [block_of_add]; exact hb
          have HXX := Lib.hid (show L.take (i + 1) = L.take i ++ [clearF m X] by
            have h1 : i < L.length := by rw [HLL.out]; exact hlt
            rw [List.take_add_one, List.getElem?_eq_getElem h1]
            have : L[i] = clearF m X := by
              have := HL.out; subst this; rw [List.getElem_map, hX]
            rw [this]; rfl)
          have HLT := Lib.hid (show (L.take i).length = i by rw [List.length_take, HLL.out]; omega)
          have HCK2 := hide fun W (hB : Below w.heap.size w W) => HCK.out W X a q a' q' hmem hpts hB
          unfold CleanPost datV datCs at HCK2
          obtain ⟨Y, hY⟩ : ∃ Y, Y = clearF m X := ⟨_, rfl⟩
          rw [← hY] at HCK2 HXX
          clear hY
          obtain ⟨zs, ho, hf⟩ := hO.out
          rw [HLT.out] at ho
          have HOW := hide ho; have HFL := hide hf
          have HSTS := hide fun W (h : CSt w g g4 g5 b0 [.int .i64 5, .int .i64 n, .string s, .slice (some ad) x c, .slice A' y c'] [.int .i64 0, .int .i64 0, .string ⟨#[]⟩, .slice none 0 0, .slice none 0 0] [.int .i64 5, .int .i64 0, .string ⟨#[]⟩, u, .slice none 0 0] W) =>
            And.intro (h.2.2.2.2.2.cell 3) (And.intro (h.2.2.2.1.cell 3) (hfive.same hbb (Same.of_below h.2.2.1)))
          have HWB := hide fun W (h : Below wr.heap.size wr W) => hST.out.2.2.1.trans (h.mono hST.out.2.2.1.size)
          have HSB := hide hST.out.2.1
          have HG5 := hide (show g5 < b0 by have := hST.out.1; omega)
          clear ho hf hO hfive hpts hX hlt' hb hbb hmem
          go_upto_region 12 with fail
          refine region_two 9 (fun W => W.cell? ⟨g5, 3, none⟩ = some u ∧ W.cell? ⟨g, 3, none⟩ = some (.slice (some ad) x c) ∧ Five W (ad.add (i * 5)) X a q a' q') (by kernel_rfl) (by kernel_rfl) (HSTS.out _ (hST.out.below (Below.refl _ _).drew)) (fun hH => ?_)
          unfold Five
          simp only [List.take_succ_cons, List.take_zero]
          refine takeH (i := 0) (v := ?_) rfl (by kernel_rfl) (by kernel_rfl) (by kernel_rfl) (fun _ _ _ h => h) (Or.inl ⟨by rfl, ?_⟩) hH ?_
          rotate_left
          · (intro w hSw; (try dsimp only at hSw); go_simp; try with_reducible rfl)
          simp only [Act.put, List.setIfInBounds_toArray, List.set_cons_zero, List.set_cons_succ]
          refine takeH (i := 1) (v := ?_) rfl (by kernel_rfl) (by kernel_rfl) (by kernel_rfl) (fun _ _ _ h => h) (Or.inl ⟨by rfl, ?_⟩) hH ?_
          rotate_left
          · (intro w hSw; (try dsimp only at hSw); go_simp; try with_reducible rfl)
          simp only [Act.put, List.setIfInBounds_toArray, List.set_cons_zero, List.set_cons_succ]
          refine takeH (i := 2) (v := ?_) rfl (by kernel_rfl) (by kernel_rfl) (by kernel_rfl) (fun _ _ _ h => h) (Or.inl ⟨by rfl, ?_⟩) hH ?_
          rotate_left
          · (intro w hSw; (try dsimp only at hSw); go_simp; try with_reducible rfl)
          simp only [Act.put, List.setIfInBounds_toArray, List.set_cons_zero, List.set_cons_succ]
          refine takeH (i := 3) (v := ?_) rfl (by kernel_rfl) (by kernel_rfl) (by kernel_rfl) (fun _ _ _ h => h) (Or.inl ⟨by rfl, ?_⟩) hH ?_
          rotate_left
          · (intro w hSw; (try dsimp only at hSw); go_simp; try with_reducible rfl)
          simp only [Act.put, List.setIfInBounds_toArray, List.set_cons_zero, List.set_cons_succ]
          refine takeH (i := 4) (v := ?_) rfl (by kernel_rfl) (by kernel_rfl) (by kernel_rfl) (fun _ _ _ h => h) (Or.inl ⟨by rfl, ?_⟩) hH ?_
          rotate_left
          · (intro w hSw; (try dsimp only at hSw); go_simp; try with_reducible rfl)
          simp only [Act.put, List.setIfInBounds_toArray, List.set_cons_zero, List.set_cons_succ]
          refine takeH (i := 5) (v := ?_) rfl (by kernel_rfl) (by kernel_rfl) (by kernel_rfl) (fun _ _ _ h => h) (Or.inl ⟨by rfl, ?_⟩) hH ?_
          rotate_left
          · (intro w hSw; (try dsimp only at hSw); go_simp; try with_reducible rfl)
          simp only [Act.put, List.setIfInBounds_toArray, List.set_cons_zero, List.set_cons_succ]
          refine takeH (i := 6) (v := ?_) rfl (by kernel_rfl) (by kernel_rfl) (by kernel_rfl) (fun _ _ _ h => h) (Or.inl ⟨by rfl, ?_⟩) hH ?_
          rotate_left
          · (intro w hSw; (try dsimp only at hSw); go_simp; try with_reducible rfl)
          simp only [Act.put, List.setIfInBounds_toArray, List.set_cons_zero, List.set_cons_succ]
          refine oneH (i := 7) rfl (by kernel_rfl) (fun K hK => ?_)
          go_simp
          go_at_call 42
          refine (HCK2.out _ (HWB.out _ (Below.refl _ _).drew)).mono ?_; rintro e w4 ⟨ra, rc, ra', rc', rfl, hB4, hP4⟩
          have hB5 := (Below.refl wr.heap.size wr).drew.trans hB4
          refine hK.out _ _ (HSTS.out _ (hST.out.below hB5)) (fun hH => ?_)
          clear hK K
          refine oneH (i := 8) rfl (by kernel_rfl) (fun K hK => ?_)
          go_simp
          refine hK.out _ _ (HSTS.out _ (hST.out.below (below_al hB5 _))) (fun hH => ?_)
          clear hK K
          refine wpAnyH_done (by kernel_rfl) ?_ _
          unfold TailPost
          simp only [List.drop_succ_cons, List.drop_zero]
          have HSA := hide (hST.out.below hB5)
          have HB5 := hide hB5
          have HP4 := hide hP4
          obtain ⟨t0, t1, t2, t3, t4⟩ := row5 HSA.out.2.2.2.2.2
          have q3 := HSA.out.2.2.2.2.2.frozen 3
          have HOA := hide (own_below HOW.out hB5)
          have hb4 := HSA.out.2.1
          clear hH hB4 hB5 hP4 s0 s1 s2 s3 s4 HSTS HWB HCK2
          go_wp2_with (at_builtin; refine wpList_append_lies _ rfl (.tmp 32) (.tmp 39) _ rfl b0 25 i0 _ 5 80 Tryd.underlying22 hi0 hz0 hz1 hz2 rfl (by omega) u i zs rfl (HOA.out.alloc _) ⟨w4.heap.size, 0, none⟩ 1 1 (datCs Y ra rc ra' rc') rfl rfl (World.news_of_block (heap_alloc_new _ _)) datCs_one (by omega) (by unfold maxLen; omega) (by omega) (by simp; omega) _ rfl ?_)
          intro gn cap w5 o1 o2 o3 o4
          have hS5 := (HSA.out.below (below_al (Below.refl _ _) (.cells (datCs Y ra rc ra' rc').toArray 25))).grown o2 (fun k e => (HOA.out.lt k e).1)
          have z3 : w5.cell? ⟨g5, 3, none⟩ = some u := hS5.2.2.2.2.2.cell 3
          have zf := hS5.2.2.2.2.2.frozen 3
          have HS9 := hide (hS5.set 3 (.slice (some ⟨gn, 0, none⟩) (i + 1) cap))
          have HO9 := hide (own_push (i := 3) (u' := .slice (some ⟨gn, 0, none⟩) (i + 1) cap) HOW.out HFL.out HLT.out HG5.out HSB.out (Nat.le_refl _) (below_al HB5.out _) HP4.out (below_al (Below.refl _ _) _) o1 o2 (by simpa using o3))
          rw [← HXX.out] at HO9
          clear o1 o2 o3 o4 hS5 HSA HOA HOW HFL HXX t0 t1 t2 t3 t4 q3 HB5 HP4
          go_wp2_with fail
          go_roundw
          case rel => exact ⟨i + 1, _, by go_num, by omega, HS9, HO9⟩
          case measure => simp [intOf]; omega
        · obtain rfl : i = x := by omega
          obtain ⟨t0, t1, t2, t3, t4⟩ := row5 hST.out.2.2.2.2.2
          have f0 := hST.out.2.2.2.2.1.frozen 0
          have f1 := hST.out.2.2.2.2.1.frozen 1
          have f2 := hST.out.2.2.2.2.1.frozen 2
          have f3 := hST.out.2.2.2.2.1.frozen 3
          have f4 := hST.out.2.2.2.2.1.frozen 4
          obtain ⟨r0, r1, r2, r3, r4⟩ := row5 hST.out.2.2.2.2.1
          have HD := hide (show DZ b0 wr m u L by have := hO.out.dz (Nat.le_refl _); rw [← HLL.out, List.take_length] at this; exact this)
          clear hO
          obtain ⟨uA, uc, hu, _⟩ := HD.out
          subst hu
          go_wp2_with fail
          refine bodyPost_ret (results_dat rfl _ _ g4 _ _ _ _ _ rfl (row_set5 hST.out.2.2.2.2.1 _ _ _ _ _)) rfl ?_
          exact clean_fin hST.out HD.out (MZ.nil _ _ _) HE2.out _ _ _ _ _
    by_cases k6 : k = 6
    · subst k6
      have HE2 := hide (show r = mkD 6 0 ⟨#[]⟩ [] (sortK Prod.fst (ys.map fun x => (x.1, clearF m x.2))) by rw [HE.out]; rfl)
      obtain ⟨L, hL⟩ : ∃ L, L = ys.map fun x => (x.1, clearF m x.2) := ⟨_, rfl⟩
      rw [← hL] at HE2
      have HLL := Lib.hid (show L.length = y by rw [hL, List.length_map, HY.out])
      have HL := Lib.hid hL
      have HO := hide (show OwnM (PZ b0 none w3 m) w3 b0 (.slice none 0 0) (sortK Prod.fst (L.take 0)) from ⟨[], World.ownsRow_nil _ _ _ _, rfl⟩)
      clear HE hL
      go_wp2_with fail
      go_loopw [5] (fun iv wr => ∃ (i : Nat) (u : Value), iv = .int .i64 i ∧ i ≤ y ∧ Hid (CSt w g g4 g5 b0 [.int .i64 6, .int .i64 n, .string s, .slice A x c, .slice A' y c'] [.int .i64 0, .int .i64 0, .string ⟨#[]⟩, .slice none 0 0, .slice none 0 0] [.int .i64 6, .int .i64 0, .string ⟨#[]⟩, .slice none 0 0, u] wr) ∧ Hid (OwnM (PZ b0 none wr m) wr b0 u (sortK Prod.fst (L.take i)))) (fun iv _ => y - (intOf iv).toNat)
      case atStart => exact ⟨0, _, rfl, Nat.zero_le _, HST, HO⟩
      case round =>
        clear HO HST s0 s1 s2 s3 s4 t0 t1 t2 t3 t4 f0 f1 f2 f3 f4 q1 q2 q3 q4 r0 r1 r2 r3 r4
        obtain ⟨i, u, rfl, hi, hST, hO⟩ := hrel
        obtain ⟨s0, s1, s2, s3, s4⟩ := row5 hST.out.2.2.2.1
        by_cases hlt : i < y
        · have hlt' : i < ys.length := by rw [← HY.out]; exact hlt
          obtain ⟨ad, rfl, hb, hlab, a, q, a', q', hfive, hpts⟩ := HM.out i _ (List.getElem?_eq_getElem hlt')
          obtain ⟨X, hX⟩ : ∃ X, X = ys[i] := ⟨_, rfl⟩
          have hmem : X.2 ∈ xs ++ ys.map Prod.snd := List.mem_append.2 (.inr (List.mem_map.2 ⟨X, hX ▸ List.getElem_mem hlt', rfl⟩))
          rw [← hX] at hlab hfive hpts
          have hbb : (ad.add (i * 6)).block < w.heap.size := by rw [block_of_add]; exact hb
          have HXX := Lib.hid (show sortK Prod.fst (L.take (i + 1)) = insK Prod.fst (X.1, clearF m X.2) (sortK Prod.fst (L.take i)) by
            have h1 : i < L.length := by rw [HLL.out]; exact hlt
            rw [List.take_add_one, List.getElem?_eq_getElem h1]
            have : L[i] = (X.1, clearF m X.2) := by
              have := HL.out; subst this; rw [List.getElem_map, hX]
            rw [this]
            show List.foldl _ [] (_ ++ [_]) = _
            rw [List.foldl_append]; rfl)
          have HLT := Lib.hid (show (sortK Prod.fst (L.take i)).length = i by rw [sortK_length, List.length_take, HLL.out]; omega)
          have HCK2 := hide fun W (hB : Below w.heap.size w W) => HCK.out W X.2 a q a' q' hmem hpts hB
          unfold CleanPost datV datCs at HCK2
          obtain ⟨Y, hY⟩ : ∃ Y, Y = clearF m X.2 := ⟨_, rfl⟩
          rw [← hY] at HCK2 HXX
          clear hY
          obtain ⟨S0, hS0⟩ : ∃ S, S = sortK Prod.fst (L.take i) := ⟨_, rfl⟩
          rw [← hS0] at HXX HLT hO
          have HSTS := hide fun W (h : CSt w g g4 g5 b0 [.int .i64 6, .int .i64 n, .string s, .slice A x c, .slice (some ad) y c'] [.int .i64 0, .int .i64 0, .string ⟨#[]⟩, .slice none 0 0, .slice none 0 0] [.int .i64 6, .int .i64 0, .string ⟨#[]⟩, .slice none 0 0, u] W) =>
            And.intro (h.2.2.2.2.2.cell 4) (And.intro (h.2.2.2.1.cell 4) (six_of ((h.2.2.1.cell (p := ad.add (i * 6)) hbb).trans hlab) (hfive.same (p := ⟨_, _, none⟩) hbb (Same.of_below h.2.2.1))))
          have HWB := hide fun W (h : Below wr.heap.size wr W) => hST.out.2.2.1.trans (h.mono hST.out.2.2.1.size)
          have HSB := hide hST.out.2.1
          have HG5 := hide (show g5 < b0 by have := hST.out.1; omega)
          have hSL : S0.length ≤ 1000000 := by rw [HLT.out]; omega
          have HSL := hide hSL
          clear hfive hpts hX hlt' hb hbb hmem hlab hS0 hSL
          go_upto_region 17 with fail
          refine region_two 16 (fun W => W.cell? ⟨g5, 4, none⟩ = some u ∧ W.cell? ⟨g, 4, none⟩ = some (.slice (some ad) y c') ∧ W.cell? (ad.add (i * 6)) = some (.string X.1) ∧ W.cell? ⟨(ad.add (i * 6)).block, (ad.add (i * 6)).off + 1, none⟩ = some (.int .i64 (kD X.2)) ∧ W.cell? ⟨(ad.add (i * 6)).block, (ad.add (i * 6)).off + 2, none⟩ = some (.int .i64 (nD X.2)) ∧ W.cell? ⟨(ad.add (i * 6)).block, (ad.add (i * 6)).off + 3, none⟩ = some (.string (sD X.2)) ∧ W.cell? ⟨(ad.add (i * 6)).block, (ad.add (i * 6)).off + 4, none⟩ = some (.slice a (iD X.2).length q) ∧ W.cell? ⟨(ad.add (i * 6)).block, (ad.add (i * 6)).off + 5, none⟩ = some (.slice a' (mD X.2).length q')) (by kernel_rfl) (by kernel_rfl) (HSTS.out _ (hST.out.below (Below.refl _ _).drew)) (fun hH => ?_)
          simp only [List.take_succ_cons, List.take_zero]
          refine takeH (i := 0) (v := ?_) rfl (by kernel_rfl) (by kernel_rfl) (by kernel_rfl) (fun _ _ _ h => h) (Or.inl ⟨by rfl, ?_⟩) hH ?_
          rotate_left
          · (intro w hSw; (try dsimp only at hSw); go_simp; try with_reducible rfl)
          simp only [Act.put, List.setIfInBounds_toArray, List.set_cons_zero, List.set_cons_succ]
          refine takeH (i := 1) (v := ?_) rfl (by kernel_rfl) (by kernel_rfl) (by kernel_rfl) (fun _ _ _ h => h) (Or.inl ⟨by rfl, ?_⟩) hH ?_
          rotate_left
          · (intro w hSw; (try dsimp only at hSw); go_simp; try with_reducible rfl)
          simp only [Act.put, List.setIfInBounds_toArray, List.set_cons_zero, List.set_cons_succ]
          refine takeH (i := 2) (v := ?_) rfl (by kernel_rfl) (by kernel_rfl) (by kernel_rfl) (fun _ _ _ h => h) (Or.inl ⟨by rfl, ?_⟩) hH ?_
          rotate_left
          · (intro w hSw; (try dsimp only at hSw); go_simp; try with_reducible rfl)
          simp only [Act.put, List.setIfInBounds_toArray, List.set_cons_zero, List.set_cons_succ]
          refine takeH (i := 3) (v := ?_) rfl (by kernel_rfl) (by kernel_rfl) (by kernel_rfl) (fun _ _ _ h => h) (Or.inl ⟨by rfl, ?_⟩) hH ?_
          rotate_left
          · (intro w hSw; (try dsimp only at hSw); go_simp; try with_reducible rfl)
          simp only [Act.put, List.setIfInBounds_toArray, List.set_cons_zero, List.set_cons_succ]
          refine takeH (i := 4) (v := ?_) rfl (by kernel_rfl) (by kernel_rfl) (by kernel_rfl) (fun _ _ _ h => h) (Or.inl ⟨by rfl, ?_⟩) hH ?_
          rotate_left
          · (intro w hSw; (try dsimp only at hSw); go_simp; try with_reducible rfl)
          simp only [Act.put, List.setIfInBounds_toArray, List.set_cons_zero, List.set_cons_succ]
          refine takeH (i := 5) (v := ?_) rfl (by kernel_rfl) (by kernel_rfl) (by kernel_rfl) (fun _ _ _ h => h) (Or.inl ⟨by rfl, ?_⟩) hH ?_
          rotate_left
          · (intro w hSw; (try dsimp only at hSw); go_simp; try with_reducible rfl)
          simp only [Act.put, List.setIfInBounds_toArray, List.set_cons_zero, List.set_cons_succ]
          refine takeH (i := 6) (v := ?_) rfl (by kernel_rfl) (by kernel_rfl) (by kernel_rfl) (fun _ _ _ h => h) (Or.inl ⟨by rfl, ?_⟩) hH ?_
          rotate_left
          · (intro w hSw; (try dsimp only at hSw); go_simp; try with_reducible rfl)
          simp only [Act.put, List.setIfInBounds_toArray, List.set_cons_zero, List.set_cons_succ]
          refine takeH (i := 7) (v := ?_) rfl (by kernel_rfl) (by kernel_rfl) (by kernel_rfl) (fun _ _ _ h => h) (Or.inl ⟨by rfl, ?_⟩) hH ?_
          rotate_left
          · (intro w hSw; (try dsimp only at hSw); go_simp; try with_reducible rfl)
          simp only [Act.put, List.setIfInBounds_toArray, List.set_cons_zero, List.set_cons_succ]
          refine takeH (i := 8) (v := ?_) rfl (by kernel_rfl) (by kernel_rfl) (by kernel_rfl) (fun _ _ _ h => h) (Or.inl ⟨by rfl, ?_⟩) hH ?_
          rotate_left
          · (intro w hSw; (try dsimp only at hSw); go_simp; try with_reducible rfl)
          simp only [Act.put, List.setIfInBounds_toArray, List.set_cons_zero, List.set_cons_succ]
          refine takeH (i := 9) (v := ?_) rfl (by kernel_rfl) (by kernel_rfl) (by kernel_rfl) (fun _ _ _ h => h) (Or.inl ⟨by rfl, ?_⟩) hH ?_
          rotate_left
          · (intro w hSw; (try dsimp only at hSw); go_simp; try with_reducible rfl)
          simp only [Act.put, List.setIfInBounds_toArray, List.set_cons_zero, List.set_cons_succ]
          refine takeH (i := 10) (v := ?_) rfl (by kernel_rfl) (by kernel_rfl) (by kernel_rfl) (fun _ _ _ h => h) (Or.inl ⟨by rfl, ?_⟩) hH ?_
          rotate_left
          · (intro w hSw; (try dsimp only at hSw); go_simp; try with_reducible rfl)
          simp only [Act.put, List.setIfInBounds_toArray, List.set_cons_zero, List.set_cons_succ]
          refine takeH (i := 11) (v := ?_) rfl (by kernel_rfl) (by kernel_rfl) (by kernel_rfl) (fun _ _ _ h => h) (Or.inl ⟨by rfl, ?_⟩) hH ?_
          rotate_left
          · (intro w hSw; (try dsimp only at hSw); go_simp; try with_reducible rfl)
          simp only [Act.put, List.setIfInBounds_toArray, List.set_cons_zero, List.set_cons_succ]
          refine takeH (i := 12) (v := ?_) rfl (by kernel_rfl) (by kernel_rfl) (by kernel_rfl) (fun _ _ _ h => h) (Or.inl ⟨by rfl, ?_⟩) hH ?_
          rotate_left
          · (intro w hSw; (try dsimp only at hSw); go_simp; try with_reducible rfl)
          simp only [Act.put, List.setIfInBounds_toArray, List.set_cons_zero, List.set_cons_succ]
          refine takeH (i := 13) (v := ?_) rfl (by kernel_rfl) (by kernel_rfl) (by kernel_rfl) (fun _ _ _ h => h) (Or.inl ⟨by rfl, ?_⟩) hH ?_
          rotate_left
          · (intro w hSw; (try dsimp only at hSw); go_simp; try with_reducible rfl)
          simp only [Act.put, List.setIfInBounds_toArray, List.set_cons_zero, List.set_cons_succ]
          refine oneH (i := 14) rfl (by kernel_rfl) (fun K hK => ?_)
          go_simp
          go_at_call 42
          refine (HCK2.out _ (HWB.out _ (Below.refl _ _).drew)).mono ?_; rintro e w4 ⟨ra, rc, ra', rc', rfl, hB4, hP4⟩
          have hB5 := (Below.refl wr.heap.size wr).drew.trans hB4
          refine hK.out _ _ (HSTS.out _ (hST.out.below hB5)) (fun hH => ?_)
          clear hK K
          refine takeH (i := 15) (v := ?_) rfl (by kernel_rfl) (by kernel_rfl) (by kernel_rfl) (fun _ _ _ h => h) (Or.inl ⟨by rfl, ?_⟩) hH ?_
          rotate_left
          · (intro w hSw; (try dsimp only at hSw); go_simp; try with_reducible rfl)
          simp only [Act.put, List.setIfInBounds_toArray, List.set_cons_zero, List.set_cons_succ]
          refine wpAnyH_done (by kernel_rfl) ?_ _
          unfold TailPost
          simp only [List.drop_succ_cons, List.drop_zero]
          have HSA := hide (hST.out.below hB5)
          have HB5 := hide hB5
          have HP4 := hide (pz_lo hP4 HSB.out)
          have HOA := hide (show OwnM (PZ b0 none w4 m) w4 b0 u S0 from by
            obtain ⟨zs, ho, hf⟩ := hO.out
            exact ⟨zs, own_below ho hB5, hf.turn fun _ _ _ _ _ h => pz_below h hB5⟩)
          have HINT := hide (into_run (PZ b0 none w4 m) b0 u S0 (X.1, Y) ra rc ra' rc' w4 HOA.out HP4.out HSL.out)
          unfold memV memCs datCs at HINT
          clear hH hB4 hB5 hP4 s0 s1 s2 s3 s4 HSTS HWB HCK2 HP4 HOA hO
          go_wp2_with fail
          refine HINT.out.mono ?_; rintro e w6 ⟨u6, rfl, hB6, hO6⟩
          have HS6 := hide (HSA.out.below hB6)
          have HO6 := hide (show OwnM (PZ b0 none w6 m) w6 b0 u6 (sortK Prod.fst (L.take (i + 1))) from by
            rw [HXX.out]
            obtain ⟨zs, ho, hf⟩ := hO6
            exact ⟨zs, own_mono ho HSA.out.2.1, hf.turn fun _ _ _ _ _ h => pz_below h hB6⟩)
          have z3 : w6.cell? ⟨g5, 4, none⟩ = some u := HS6.out.2.2.2.2.2.cell 4
          have zf := HS6.out.2.2.2.2.2.frozen 4
          have HS9 := hide (HS6.out.set 4 u6)
          have HO9 := hide (into_set (i := 4) HO6.out HG5.out u6)
          obtain ⟨uA, uc, hu, _⟩ := HO6.out.mems
          subst hu
          clear hB6 hO6 HINT HSA HS6 HO6 HXX
          go_wp2_with fail
          go_roundw
          case rel => exact ⟨i + 1, _, by go_num, by omega, HS9, HO9⟩
          case measure => simp [intOf]; omega
        · obtain rfl : i = y := by omega
          obtain ⟨t0, t1, t2, t3, t4⟩ := row5 hST.out.2.2.2.2.2
          have f0 := hST.out.2.2.2.2.1.frozen 0
          have f1 := hST.out.2.2.2.2.1.frozen 1
          have f2 := hST.out.2.2.2.2.1.frozen 2
          have f3 := hST.out.2.2.2.2.1.frozen 3
          have f4 := hST.out.2.2.2.2.1.frozen 4
          obtain ⟨r0, r1, r2, r3, r4⟩ := row5 hST.out.2.2.2.2.1
          have HD := hide (show MZ b0 wr m u (sortK Prod.fst L) by have := hO.out.mz (Nat.le_refl _); rw [← HLL.out, List.take_length] at this; exact this)
          clear hO
          obtain ⟨uA, uc, hu, _⟩ := HD.out
          subst hu
          go_wp2_with fail
          refine bodyPost_ret (results_dat rfl _ _ g4 _ _ _ _ _ rfl (row_set5 hST.out.2.2.2.2.1 _ _ _ _ _)) rfl ?_
          exact clean_fin hST.out (DZ.nil _ _ _) HD.out HE2.out _ _ _ _ _
    · have d2 : (k == 2) = false := by simpa using k2
      have d3 : (k == 3) = false := by simpa using k3
      have d4 : (k == 4) = false := by simpa using k4
      have d5 : (k == 5) = false := by simpa using k5
      have d6 : (k == 6) = false := by simpa using k6
      have HE2 := hide (show r = mkD k 0 ⟨#[]⟩ [] [] by rw [HE.out, if_neg (by omega), if_neg k4, if_neg k5, if_neg k6])
      clear HE k2 k3 k4 k5 k6
      go_wp2_with fail
      refine bodyPost_ret (results_dat rfl _ _ g4 _ _ _ _ _ rfl (row_set5 HST.out.2.2.2.2.1 _ _ _ _ _)) rfl ?_
      exact clean_fin HST.out (DZ.nil _ _ _) (MZ.nil _ _ _) HE2.out _ _ _ _ _
end Go.Proofs.YtajpgmacabeeeaaDoor

/- Make of the reference. -/
namespace Go.Proofs.YtajpgmacabeeeaaDoor
open Go.RowKit

/-- A kid of the cleared data is a cleared kid. -/
theorem clear_kid {m : Nat} {d x : Dt} (h : x ∈ kids (clearF (m + 1) d)) : ∃ y ∈ kids d, x = clearF m y := by
  unfold clearF at h
  rw [kids_mk] at h
  rcases List.mem_append.1 h with h | h
  · split at h
    · obtain ⟨y, hy, rfl⟩ := List.mem_map.1 h; exact ⟨y, is_kid hy, rfl⟩
    · cases h
  · obtain ⟨z, hz, rfl⟩ := List.mem_map.1 h
    split at hz
    · have := (sortK_ok (k := Prod.fst) _).2.mem hz
      obtain ⟨y, hy, rfl⟩ := List.mem_map.1 this
      exact ⟨y.2, ms_kid hy, rfl⟩
    · cases hz
theorem clear_kids_length (m : Nat) (d : Dt) : (kids (clearF (m + 1) d)).length ≤ (kids d).length := by
  unfold clearF
  rw [kids_mk]
  unfold kids
  simp only [List.length_append, List.length_map]
  have h1 : (if kD d = 5 then (iD d).map (clearF m) else []).length ≤ (iD d).length := by split <;> simp
  have h2 : (if kD d = 6 then sortK Prod.fst ((mD d).map fun x => (x.1, clearF m x.2)) else []).length ≤ (mD d).length := by
    split
    · rw [sortK_length, List.length_map]; exact Nat.le_refl _
    · simp
  omega
theorem fitC_clear : ∀ (r m : Nat) {d : Dt}, FitC r d → FitC r (clearF m d)
  | 0, _, _, _ => trivial
  | r + 1, 0, _, _ => fitC_zero (r + 1)
  | r + 1, m + 1, d, h => ⟨Nat.le_trans (clear_kids_length m d) h.1, fun x hx => by
    obtain ⟨y, hy, rfl⟩ := clear_kid hx
    exact fitC_clear r m (h.2 y hy)⟩

set_option maxRecDepth 20000 in
set_option maxHeartbeats 1000000 in
theorem refMake_run (m : Nat) (d : Dt) (A : Option Addr) (c : Nat) (A' : Option Addr) (c' : Nat) (w : World) (hp : Parts w w.heap.size m d A c A' c') (hf : ∀ r, FitC r d) :
    Calls Tryd.prog 18 #[datV d A c A' c'] w (MakePost w m (clearF m d)) := by
  have HCL := hide fun w' (hB : Below w.heap.size w w') => clear_run m d A c A' c' w' (hp.turn (Same.of_below hB) hB.size) (hf m)
  obtain ⟨m', rfl⟩ : ∃ m', m = m' + 1 := by
    cases m with
    | zero => exact hp.elim
    | succ m => exact ⟨m, rfl⟩
  obtain ⟨r, hr⟩ : ∃ r, r = clearF (m' + 1) d := ⟨_, rfl⟩
  have hfr : FitD 16 r := by rw [hr]; exact fitD_of_fitC 16 (fitC_clear 16 (m' + 1) (hf 16))
  rw [← hr] at HCL ⊢
  have HCK := hide fun a q a' q' W (hP : Parts W W.heap.size (m' + 1) r a q a' q') => refCheck_run (m' + 1) r a q a' q' W hP
  obtain ⟨z, hz⟩ : ∃ z, z = checkD r := ⟨_, rfl⟩
  rw [← hz] at HCK
  have HZ := Lib.hid hz
  unfold CleanPost datV datCs at HCL
  unfold datV datCs at HCK
  unfold datV datCs
  obtain ⟨k, hk⟩ : ∃ k, k = kD d := ⟨_, rfl⟩
  obtain ⟨n, hn⟩ : ∃ k, k = nD d := ⟨_, rfl⟩
  obtain ⟨s, hs⟩ : ∃ k, k = sD d := ⟨_, rfl⟩
  obtain ⟨x, hx⟩ : ∃ k, k = (iD d).length := ⟨_, rfl⟩
  obtain ⟨y, hy⟩ : ∃ k, k = (mD d).length := ⟨_, rfl⟩
  rw [← hk, ← hn, ← hs, ← hx, ← hy] at HCL ⊢
  clear hp hf hk hn hs hx hy hr hfr hz
  go_enter Tryd.func18, Tryd.ntmps18
  go_upto_region 1 with fail
  obtain ⟨w1, g, e1, e2, hB1, _, _, _, _, _, hR1⟩ := boxD w k n s (.slice A x c) (.slice A' y c')
  obtain ⟨w2, g2, e3, e4, hB2, _, _, _, _, _, hR2⟩ := boxD w1 0 0 ⟨#[]⟩ (.slice none 0 0) (.slice none 0 0)
  have e5 : g + 1 = g2 := by rw [← e4, ← e1, ← e2]; simp
  rw [e1, e2, e3, e5]
  have HB2 := hide (hB1.trans (hB2.mono hB1.size))
  have HG2 := hide (show w.heap.size ≤ g2 by omega)
  have HG3 := hide (show g2 < w2.heap.size from hR2.lt)
  obtain ⟨s0, s1, s2, s3, s4⟩ := row5 (hR1.below hB2)
  have HR2 := hide hR2
  clear e1 e2 e3 e4 e5 hB1 hB2 hR1 hR2
  go_wp2_with (refine (HCL.out _ HB2.out).mono ?_; rintro e w3 ⟨ra, rc, ra', rc', rfl, hB3, hP3⟩; have HB3 := hide hB3; have HPZ := hide hP3; clear hB3 hP3)
  obtain ⟨w4, g4, e1, e2, hB4, _, _, _, _, _, hR4⟩ := boxD w3 (kD r) (nD r) (sD r) (.slice ra (iD r).length rc) (.slice ra' (mD r).length rc')
  rw [e1, e2]
  have HB4 := hide (HB3.out.trans (hB4.mono HB3.out.size))
  have HP4 := hide (HPZ.out.parts.turn (Same.of_below hB4) hB4.size)
  have HW4 := hide hB4
  have HR4 := hide hR4
  clear e1 e2 hB4 hR4 HB3 s0 s1 s2 s3 s4 HCL
  refine (HCK.out ra rc ra' rc' _ HP4.out).mono ?_; rintro e w5 ⟨rfl, hB5⟩
  have HB5 := hide (HB4.out.trans (hB5.mono HB4.out.size))
  have HW5 := hide (HW4.out.trans (hB5.mono HW4.out.size))
  have HBL := hide (HB2.out.trans (HB5.out.mono HB2.out.size))
  have HR := hide (HR2.out.below HB5.out)
  obtain ⟨s0, s1, s2, s3, s4⟩ := row5 (HR4.out.below hB5)
  obtain ⟨r0, r1, r2, r3, r4⟩ := row5 HR.out
  have f0 := HR.out.frozen 0
  have f1 := HR.out.frozen 1
  have f2 := HR.out.frozen 2
  have f3 := HR.out.frozen 3
  have f4 := HR.out.frozen 4
  clear hB5 HP4 HB4 HR4 HR2 HCK
  by_cases hz : z = 0
  · subst hz
    have HZ2 := hide (show r = if checkD r = 0 then r else zeroD by rw [if_pos HZ.out.symm])
    go_wp2_with fail
    refine bodyPost_ret (results_dat2 rfl _ _ g2 _ _ _ _ _ rfl (row_set5 HR.out _ _ _ _ _)) rfl ?_
    exact ⟨r, ra, rc, ra', rc', by rw [← HZ.out]; rfl, HZ2.out, pz_set5 HPZ.out HW5.out HG3.out _ _ _ _ _, below_set5 HBL.out HG2.out _ _ _ _ _⟩
  · have g0 : (z != 0) = true := by simpa using hz
    have HZ2 := hide (show zeroD = if checkD r = 0 then r else zeroD by rw [if_neg (by rw [← HZ.out]; exact hz)])
    go_wp2_with fail
    refine bodyPost_ret (results_dat2 rfl _ _ g2 _ _ _ _ _ rfl (row_set5 HR.out _ _ _ _ _)) rfl ?_
    exact ⟨zeroD, none, 0, none, 0, by rw [← HZ.out]; rfl, HZ2.out, zero_parts _ _ _, below_set5 HBL.out HG2.out _ _ _ _ _⟩
end Go.Proofs.YtajpgmacabeeeaaDoor

/- clean and clear, as plain functions: the same first error, the same data where there is none; what is cleaned stays as it is. -/
namespace Go.Proofs.YtajpgmacabeeeaaDoor
open Go.RowKit

theorem sort_map {f : Dt → Dt} (l : List (ByteArray × Dt)) : sortK Prod.fst (l.map fun x => (x.1, f x.2)) = (sortK Prod.fst l).map fun x => (x.1, f x.2) :=
  (eq_sortK (k := Prod.fst) (SrtK.map (k := Prod.fst) (k' := Prod.fst) (fun x : ByteArray × Dt => (x.1, f x.2)) (fun _ => rfl) (sortK_ok (k := Prod.fst) l).1) (StaK.map (k := Prod.fst) (k' := Prod.fst) (fun x : ByteArray × Dt => (x.1, f x.2)) (fun _ => rfl) (sortK_ok (k := Prod.fst) l).2)).symm
theorem firstE_map {f : Dt → Int} {g g' : Dt → Dt} : ∀ (l : List Dt), (∀ x ∈ l, f (g x) = f (g' x)) → firstE f (l.map g) = firstE f (l.map g')
  | [], _ => rfl
  | x :: l, h => by
    show (if f (g x) = 0 then firstE f (l.map g) else f (g x)) = if f (g' x) = 0 then firstE f (l.map g') else f (g' x)
    rw [h x (List.mem_cons_self ..), firstE_map l fun y hy => h y (List.mem_cons_of_mem _ hy)]
theorem ascL_map {f g : Dt → Dt} : ∀ (p : ByteArray) (l : List (ByteArray × Dt)), ascL p (l.map fun x => (x.1, f x.2)) = ascL p (l.map fun x => (x.1, g x.2))
  | _, [] => rfl
  | p, x :: l => by
    show (if ltB p x.1 = true then ascL x.1 (l.map _) else false) = if ltB p x.1 = true then ascL x.1 (l.map _) else false
    rw [ascL_map x.1 l]
theorem ascB_map {f g : Dt → Dt} (l : List (ByteArray × Dt)) : ascB (l.map fun x => (x.1, f x.2)) = ascB (l.map fun x => (x.1, g x.2)) := by
  cases l with
  | nil => rfl
  | cons x l => exact ascL_map x.1 l
/-- The parts of data, with what is done to each. -/
def doneI (d : Dt) (f : Dt → Dt) : List Dt := if kD d = 5 then (iD d).map f else []
def doneM (d : Dt) (f : Dt → Dt) : List (ByteArray × Dt) := if kD d = 6 then (sortK Prod.fst (mD d)).map (fun x => (x.1, f x.2)) else []
def doneD (d : Dt) (f : Dt → Dt) : Dt := mkD (kD d) (if kD d = 2 ∨ kD d = 3 then nD d else 0) (if kD d = 4 then sD d else ⟨#[]⟩) (doneI d f) (doneM d f)
theorem clean_done {m : Nat} {lv : Int} {d : Dt} (h : ¬ 16 < lv) : cleanF (m + 1) lv d = doneD d (cleanF m (lv + 1)) := by
  unfold cleanF doneD doneI doneM
  rw [if_neg h, sort_map]
theorem clear_done {m : Nat} {d : Dt} : clearF (m + 1) d = doneD d (clearF m) := by
  unfold clearF doneD doneI doneM
  rw [sort_map]
theorem doneI_len {d : Dt} (f g : Dt → Dt) : (doneI d f).length = (doneI d g).length := by unfold doneI; split <;> simp
theorem doneM_len {d : Dt} (f g : Dt → Dt) : (doneM d f).length = (doneM d g).length := by unfold doneM; split <;> simp
theorem done_own {d : Dt} (f g : Dt → Dt) : ownD (doneD d f) = ownD (doneD d g) := by
  have e1 : plainB (doneD d f) = plainB (doneD d g) := by
    unfold plainB doneD
    simp only [kD_mk, nD_mk, sD_mk, iD_mk, mD_mk]
    rw [doneI_len f g, doneM_len f g]
  have e2 : rangeB (doneD d f) = rangeB (doneD d g) := rfl
  have e3 : ascB (mD (doneD d f)) = ascB (mD (doneD d g)) := by
    unfold doneD
    simp only [mD_mk]
    unfold doneM
    split
    · exact ascB_map _
    · rfl
  unfold ownD
  rw [e1, e2, e3]
/-- What is done to the parts, as one list. -/
def kidL (d : Dt) : List Dt := (if kD d = 5 then iD d else []) ++ (if kD d = 6 then (sortK Prod.fst (mD d)).map Prod.snd else [])
theorem done_kids {d : Dt} (f : Dt → Dt) : kids (doneD d f) = (kidL d).map f := by
  unfold doneD kidL
  rw [kids_mk, List.map_append]
  congr 1
  · unfold doneI; split <;> simp
  · unfold doneM
    split
    · simp [List.map_map, Function.comp_def]
    · rfl
theorem done_check {r : Nat} {d : Dt} {f g : Dt → Dt} (h : ∀ x, checkF r (f x) = checkF r (g x)) : checkF (r + 1) (doneD d f) = checkF (r + 1) (doneD d g) := by
  unfold checkF
  rw [done_own f g, done_kids, done_kids, firstE_map _ fun x _ => h x]
theorem check_clean : ∀ (r m : Nat) (lv : Int) (d : Dt), lv = 17 - r → checkF r (cleanF m lv d) = checkF r (clearF m d)
  | 0, _, _, _, _ => rfl
  | _ + 1, 0, _, _, _ => rfl
  | r + 1, m + 1, lv, d, h => by
    rw [clean_done (by omega), clear_done]
    exact done_check fun x => check_clean r m (lv + 1) x (by omega)
theorem done_eq {d : Dt} {f g : Dt → Dt} (h : ∀ x ∈ kidL d, f x = g x) : doneD d f = doneD d g := by
  unfold kidL at h
  unfold doneD
  congr 1
  · unfold doneI
    split
    · rename_i h5
      exact List.map_congr_left fun x hx => h x (List.mem_append.2 (.inl (by rw [if_pos h5]; exact hx)))
    · rfl
  · unfold doneM
    split
    · rename_i h6
      exact List.map_congr_left fun x hx => by rw [h x.2 (List.mem_append.2 (.inr (by rw [if_pos h6]; exact List.mem_map.2 ⟨x, hx, rfl⟩)))]
    · rfl
theorem clean_clear : ∀ (r m : Nat) (lv : Int) (d : Dt), lv = 17 - r → checkF r (clearF m d) = 0 → cleanF m lv d = clearF m d
  | 0, _, _, _, _, h => absurd (show (9 : Int) = 0 from h) (by decide)
  | _ + 1, 0, _, _, _, _ => rfl
  | r + 1, m + 1, lv, d, h, hc => by
    rw [clean_done (by omega), clear_done]
    rw [clear_done] at hc
    refine done_eq fun x hx => clean_clear r m (lv + 1) x (by omega) ?_
    obtain ⟨r', e, _, h2⟩ := check_zero' hc
    obtain rfl : r = r' := by omega
    exact h2 _ (by rw [done_kids]; exact List.mem_map.2 ⟨x, hx, rfl⟩)
theorem done_twice {d : Dt} {f : Dt → Dt} (h : ∀ x, f (f x) = f x) : doneD (doneD d f) f = doneD d f := by
  have hk : kD (doneD d f) = kD d := rfl
  have hn : nD (doneD d f) = if kD d = 2 ∨ kD d = 3 then nD d else 0 := rfl
  have hs : sD (doneD d f) = if kD d = 4 then sD d else ⟨#[]⟩ := rfl
  have hi : iD (doneD d f) = doneI d f := rfl
  have hm : mD (doneD d f) = doneM d f := by unfold doneD; rw [mD_mk]
  have e1 : doneI (doneD d f) f = doneI d f := by
    unfold doneI at hi ⊢
    rw [hk, hi]
    split
    · rw [List.map_map]
      exact List.map_congr_left fun x _ => h x
    · rfl
  have e2 : doneM (doneD d f) f = doneM d f := by
    unfold doneM at hm ⊢
    rw [hk, hm]
    split
    · rw [sort_map, sorted_id (sortK_ok (k := Prod.fst) (mD d)).1, List.map_map]
      exact List.map_congr_left fun x _ => by show (x.1, f (f x.2)) = _; rw [h]
    · rfl
  show mkD _ _ _ (doneI (doneD d f) f) (doneM (doneD d f) f) = _
  rw [e1, e2, hk, hn, hs]
  unfold doneD
  congr 1
  · split <;> rfl
  · split <;> rfl
theorem clean_twice : ∀ (m : Nat) (lv : Int) (d : Dt), cleanF m lv (cleanF m lv d) = cleanF m lv d
  | 0, _, _ => rfl
  | m + 1, lv, d => by
    by_cases h : 16 < lv
    · have e : ∀ d, cleanF (m + 1) lv d = mkD (kD d) 0 ⟨#[]⟩ [] [] := fun d => by unfold cleanF; rw [if_pos h]
      rw [e d, e]; rfl
    · rw [clean_done h, clean_done h]
      exact done_twice (clean_twice m (lv + 1))
theorem diff_self (k n : Int) (s : ByteArray) (x y : Nat) : diffQ k k n n s s x x y y = false := by unfold diffQ; simp
theorem same_self : ∀ (m : Nat) (d : Dt), sameF m d d = true
  | 0, _ => rfl
  | m + 1, d => by
    have h1 : ∀ l : List Dt, zipD (sameF m) l l = true := fun l => by
      induction l with
      | nil => rfl
      | cons x l ih => unfold zipD; rw [same_self m x, ih]; rfl
    have h2 : ∀ l : List (ByteArray × Dt), zipM (sameF m) l l = true := fun l => by
      induction l with
      | nil => rfl
      | cons x l ih => unfold zipM; rw [same_self m x.2, ih]; simp
    unfold sameF
    rw [diff_self, h1, h2]; rfl
/-- Both ways to make data. -/
theorem makes_same (m : Nat) (d : Dt) : checkD (cleanF m 1 d) = checkD (clearF m d) ∧ (checkD (clearF m d) = 0 → cleanF m 1 d = clearF m d ∧ cleanF m 1 (clearF m d) = clearF m d) := by
  refine ⟨check_clean 16 m 1 d rfl, fun h => ?_⟩
  have e := clean_clear 16 m 1 d rfl h
  exact ⟨e, by rw [← e]; exact clean_twice m 1 d⟩
end Go.Proofs.YtajpgmacabeeeaaDoor
