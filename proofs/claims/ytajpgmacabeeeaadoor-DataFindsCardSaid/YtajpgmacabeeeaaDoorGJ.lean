/- Leaves: what the paths are, and rows of paths; Leaves: the closure; Leaves; The chapter's example. -/
import Derived.Test.YtajpgmacabeeeaaDoorGI
import Derived.Laws.EntriesVeiled

/- Leaves: what the paths are, and rows of paths. -/
namespace Go.Proofs.YtajpgmacabeeeaaDoor
open Go.RowKit

def lvI (f : Dt → List Sp → List (List Sp)) (p : List Sp) : Nat → List Dt → List (List Sp)
  | _, [] => []
  | i, x :: l => f x (p ++ [(⟨#[]⟩, (i : Int))]) ++ lvI f p (i + 1) l
def lvM (f : Dt → List Sp → List (List Sp)) (p : List Sp) : List (ByteArray × Dt) → List (List Sp)
  | [] => []
  | x :: l => f x.2 (p ++ [(x.1, 0)]) ++ lvM f p l
def leavesF : Nat → Dt → List Sp → List (List Sp)
  | 0, _, _ => []
  | m + 1, d, p => if (iD d).length + (mD d).length = 0 then [p] else lvI (leavesF m) p 0 (iD d) ++ lvM (leavesF m) p (mD d)

def stepV (s : Sp) : List Value := [.string s.1, .int .i64 s.2]
/-- A path in a row of its own. -/
def PathR (w : World) (b : Nat) (v : Value) (p : List Sp) : Prop := w.ownsRow b 48 2 v p.length (p.flatMap stepV)
def AllP (R : Value → List Sp → Prop) : List Value → List (List Sp) → Prop
  | [], [] => True
  | v :: vs, p :: ps => R v p ∧ AllP R vs ps
  | _, _ => False
def OutR (w : World) (b : Nat) (u : Value) (ls : List (List Sp)) : Prop := ∃ vs, w.ownsRow b 35 1 u ls.length vs ∧ AllP (PathR w b) vs ls
theorem AllP.turn {R R' : Value → List Sp → Prop} (hR : ∀ v p, R v p → R' v p) : ∀ {vs : List Value} {ls : List (List Sp)}, AllP R vs ls → AllP R' vs ls
  | [], [], _ => trivial
  | _ :: _, _ :: _, h => ⟨hR _ _ h.1, h.2.turn hR⟩
theorem AllP.push {R : Value → List Sp → Prop} {v : Value} {p : List Sp} (hp : R v p) : ∀ {vs : List Value} {ls : List (List Sp)}, AllP R vs ls → AllP R (vs ++ [v]) (ls ++ [p])
  | [], [], _ => ⟨hp, trivial⟩
  | _ :: _, _ :: _, h => ⟨h.1, h.2.push hp⟩
/-- What a visit may change: the captured cell, the row of results, new blocks. -/
def Fr (B g : Nat) (w : World) (u : Value) (w' : World) (u' : Value) : Prop :=
  Below B w w' ∧ (∀ k, k < w.heap.size → k ≠ g → u.ownBlock ≠ some k → w'.heap[k]? = w.heap[k]?) ∧ (∀ k, u'.ownBlock = some k → u.ownBlock = some k ∨ w.heap.size ≤ k)
theorem Fr.refl (B g : Nat) (w : World) (u : Value) : Fr B g w u w u := ⟨Below.refl _ _, fun _ _ _ _ => rfl, fun _ h => .inl h⟩
theorem Fr.trans {B g : Nat} {w w1 w2 : World} {u u1 u2 : Value} (h : Fr B g w u w1 u1) (h' : Fr B g w1 u1 w2 u2) : Fr B g w u w2 u2 :=
  ⟨h.1.trans h'.1, fun k k1 k2 k3 => (h'.2.1 k (Nat.lt_of_lt_of_le k1 h.1.size) k2 fun e => by
      rcases h.2.2 k e with e | e
      · exact k3 e
      · omega).trans (h.2.1 k k1 k2 k3), fun k e => by
    rcases h'.2.2 k e with e | e
    · exact h.2.2 k e
    · exact .inr (Nat.le_trans h.1.size e)⟩
theorem Fr.of_below {B g : Nat} {w w' : World} {u : Value} (h : Below w.heap.size w w') (hB : B ≤ w.heap.size) : Fr B g w u w' u := ⟨h.mono hB, fun k k1 _ _ => h.block k k1, fun _ h => .inl h⟩
theorem path_ne {w : World} {b n : Nat} {v u : Value} {p : List Sp} {vs : List Value} (h : PathR w b v p) (ho : w.ownsRow b 35 1 u n vs) {k : Nat} (hk : v.ownBlock = some k) : u.ownBlock ≠ some k := by
  rcases h.2 with ⟨rfl, _⟩ | ⟨g, cap, cur, rfl, _, hh, _⟩
  · simp [Value.ownBlock] at hk
  · have : g = k := by simpa [Value.ownBlock] using hk
    subst this
    refine own_row_ne ho (g := g) (t := 48) (vs := cur.toList) ?_ (by decide)
    unfold Row; simpa using hh
theorem PathR.kept {B g b n : Nat} {w w' : World} {u u' v : Value} {p : List Sp} {vs : List Value} (h : PathR w b v p) (hF : Fr B g w u w' u') (hg : g < b) (ho : w.ownsRow b 35 1 u n vs) : PathR w' b v p := by
  have hne := fun k (hk : v.ownBlock = some k) => path_ne h ho hk
  refine ⟨h.1, ?_⟩
  rcases h.2 with h2 | ⟨g', cap, cur, h1, h2, hh, h3⟩
  · exact .inl h2
  · have hlt : g' < w.heap.size := (h.lt g' (by rw [h1]; rfl)).2
    exact .inr ⟨g', cap, cur, h1, h2, by rw [hF.2.1 g' hlt (by omega) (hne g' (by rw [h1]; rfl))]; exact hh, h3⟩
theorem Row.kept {B g b n k : Nat} {t : TypeId} {w w' : World} {u u' : Value} {xs vs : List Value} (h : Row w k t xs) (hF : Fr B g w u w' u') (hk : k ≠ g) (ho : w.ownsRow b 35 1 u n vs) (ht : 35 ≠ t) : Row w' k t xs :=
  (hF.2.1 k h.lt hk (own_row_ne ho h ht)).trans h
theorem PathR.below {w w' : World} {b : Nat} {v : Value} {p : List Sp} (h : PathR w b v p) (hB : Below w.heap.size w w') : PathR w' b v p := own_below h hB
theorem OutR.below {w w' : World} {b : Nat} {u : Value} {ls : List (List Sp)} (h : OutR w b u ls) (hB : Below w.heap.size w w') : OutR w' b u ls := by
  obtain ⟨vs, h1, h2⟩ := h
  exact ⟨vs, own_below h1 hB, h2.turn fun _ _ h => h.below hB⟩
theorem stepV_one (p : List Sp) : ∀ u ∈ p.flatMap stepV, u.oneCell' = true := fun u hu => by
  obtain ⟨s, _, hs⟩ := List.mem_flatMap.1 hu
  simp [stepV] at hs
  rcases hs with rfl | rfl <;> rfl
theorem infoStp : (Tryd.prog.info? 48).map (fun i => (i.zero, i.size, i.bytes)) = some (some (.agg #[.string ⟨#[]⟩, .int .i64 0]), 2, 24) := by kernel_rfl
theorem infoSts : (Tryd.prog.info? 35).map (fun i => (i.zero, i.size, i.bytes)) = some (some (.slice none 0 0), 1, 24) := by kernel_rfl

set_option maxRecDepth 20000 in
theorem cloneS_run (b n : Nat) (v : Value) (xs : List Value) (w : World) (h : w.ownsRow b 48 2 v n xs) (hn : n ≤ 1000000000) (h1c : ∀ u ∈ xs, u.oneCell' = true) :
    Calls Tryd.prog 51 #[v] w fun e w' => ∃ u, e = .returned u ∧ Below w.heap.size w w' ∧ w'.ownsRow w.heap.size 48 2 u n xs := by
  obtain ⟨i0, hi0, hz0, hz1, hz2⟩ := info_parts infoStp
  have hxl := h.1
  rcases h.2 with ⟨rfl, rfl⟩ | ⟨g, cap, cur, rfl, hb, hh, hc, hm, hcs, htk⟩
  · obtain rfl : xs = [] := List.eq_nil_of_length_eq_zero (by omega)
    have hnil := run_eql_slice_nil (P := Tryd.prog) w 35 48 none 0 0 Tryd.underlying35
    clear h hxl h1c hn
    go_enter Tryd.func51, Tryd.ntmps51
    go_wp2
    go_ret
    exact ⟨_, rfl, Below.refl _ _, World.ownsRow_nil _ _ _ _⟩
  · have hnil := run_eql_slice_nil (P := Tryd.prog) w 35 48 (some ⟨g, 0, none⟩) n cap Tryd.underlying35
    have hgl : g < w.heap.size := (h.lt g rfl).2
    have HC := hide (show ∀ j u, xs[j]? = some u → (w.alloc (.cells #[] 48)).cell? ((⟨g, 0, none⟩ : Addr).add j) = some u from fun j u hu => by
      rw [World.cell?_alloc_lt _ _ _ (by rw [block_of_add]; exact hgl)]
      exact h.cells rfl j u hu)
    have hm' := maxLen_le hm
    clear h hh hcs htk hb hgl
    go_enter Tryd.func51, Tryd.ntmps51
    go_wp2_with (at_builtin; refine wpList_append_all _ rfl (.tmp 5) (.tmp 6) _ rfl w.heap.size 48 i0 _ 2 24 Tryd.underlying35 hi0 hz0 hz1 hz2 rfl (by omega) _ 0 _ rfl (World.ownsRow_made w #[] 0 (Nat.le_refl _) (by simp [maxLen]) rfl) (some ⟨g, 0, none⟩) n cap xs rfl (fun e => by cases e) hxl (fun ad e => by injection e with e; subst e; exact HC.out) h1c (by unfold maxLen; omega) (by omega) (by simp) ?_)
    intro v' w' h1 h2
    go_wp2_with fail
    go_ret
    have hB := Below.grown (below_al (Below.refl w.heap.size w) (.cells #[] 48)) h2.out (by simp) (fun k e => by simp [Value.ownBlock] at e; omega)
    exact ⟨_, rfl, hB, by have := h1.out; simpa using this⟩
end Go.Proofs.YtajpgmacabeeeaaDoor

/- Leaves: the closure. -/
namespace Go.Proofs.YtajpgmacabeeeaaDoor
open Go.RowKit

theorem PathR.one {w : World} {b : Nat} {v : Value} {p : List Sp} (h : PathR w b v p) : v.oneCell' = true := by
  rcases h.2 with ⟨rfl, _⟩ | ⟨g, cap, cur, rfl, _⟩ <;> rfl
theorem PathR.form {w : World} {b : Nat} {v : Value} {p : List Sp} (h : PathR w b v p) : ∃ A c, v = .slice A p.length c := by
  rcases h.2 with ⟨rfl, h0⟩ | ⟨g, cap, cur, rfl, _⟩
  · exact ⟨none, 0, by rw [h0]⟩
  · exact ⟨_, _, rfl⟩
theorem step_one {s : ByteArray} {i : Int} : ∀ u ∈ [Value.string s, .int .i64 i], u.oneCell' = true := fun u hu => by
  simp at hu
  rcases hu with rfl | rfl <;> rfl
theorem one_one {v : Value} (h : v.oneCell' = true) : ∀ u ∈ [v], u.oneCell' = true := fun u hu => by simp at hu; subst hu; exact h
theorem fr_append {B g b gn n c : Nat} {w w4 w5 : World} {u x : Value} (h1 : Below w.heap.size w w4) (hB : B ≤ g) (hb : g < b) (hbw : b ≤ w.heap.size) (hu : ∀ k, u.ownBlock = some k → b ≤ k) (o2 : w4.grownBy w5 u.ownBlock) (o3 : u.ownBlock = some gn ∨ gn = w4.heap.size) :
    Fr B g w u (w5.setCell ⟨g, 0, none⟩ x) (.slice (some ⟨gn, 0, none⟩) n c) := by
  refine ⟨((h1.mono (by omega)).grown o2 (by have := h1.size; omega) fun k e => by have := hu k e; omega).setCell (p := ⟨g, 0, none⟩) hB x, fun k k1 k2 k3 => ?_, fun k e => ?_⟩
  · rw [Below.heap_setCell _ _ _ _ k2, o2.block k (Nat.lt_of_lt_of_le k1 h1.size) (fun e => k3 e.symm), h1.block k k1]
  · have : gn = k := by simpa [Value.ownBlock] using e
    subst this
    rcases o3 with e | e
    · exact .inl e
    · exact .inr (by have := h1.size; omega)
theorem lvI_drop {f : Dt → List Sp → List (List Sp)} {p : List Sp} {l : List Dt} {i : Nat} (h : i < l.length) : lvI f p i (l.drop i) = f l[i] (p ++ [(⟨#[]⟩, (i : Int))]) ++ lvI f p (i + 1) (l.drop (i + 1)) := by rw [drop_at h, lvI]
theorem lvM_drop {f : Dt → List Sp → List (List Sp)} {p : List Sp} {l : List (ByteArray × Dt)} {i : Nat} (h : i < l.length) : lvM f p (l.drop i) = f l[i].2 (p ++ [(l[i].1, 0)]) ++ lvM f p (l.drop (i + 1)) := by rw [drop_at h, lvM]
theorem parts_kid_lt {m : Nat} {d x : Dt} (hx : x ∈ kids d) : partsF m x + 1 ≤ partsF (m + 1) d := by
  have := sumL_mem (f := partsF m) (fun x => partsF_nonneg m x) hx
  show _ ≤ 1 + sumL (partsF m) (kids d)
  omega
def VPost (B g3 b : Nat) (w : World) (u : Value) (T : List (List Sp)) (e : Ending) (w' : World) : Prop :=
  e = .returned (.tuple #[]) ∧ ∃ u', Row w' g3 40 [u'] ∧ OutR w' b u' T ∧ Fr B g3 w u w' u'

set_option maxRecDepth 20000 in
set_option maxHeartbeats 4000000 in
theorem visit_run (B g3 g4 b : Nat) (t4 : TypeId) (ht4 : 35 ≠ t4) (hB3 : B ≤ g3) (h34 : g3 < g4) (h4b : g4 < b) : ∀ (m : Nat) (d : Dt) (A : Option Addr) (c : Nat) (A' : Option Addr) (c' : Nat) (v : Value) (p : List Sp) (w : World) (u : Value) (ls : List (List Sp)),
    Parts w B m d A c A' c' → PathR w b v p → Row w g3 40 [u] → Row w g4 t4 [.func (.func 50) #[] #[.pointer (some ⟨g3, 0, none⟩), .pointer (some ⟨g4, 0, none⟩)]] → OutR w b u ls → b ≤ w.heap.size → (ls ++ leavesF m d p).length ≤ 1000000000 → (p.length : Int) + partsF m d ≤ 1000000000 →
    Calls Tryd.prog 50 #[datV d A c A' c', v, .pointer (some ⟨g3, 0, none⟩), .pointer (some ⟨g4, 0, none⟩)] w (VPost B g3 b w u (ls ++ leavesF m d p)) := by
  intro m
  induction m with
  | zero => intro d A c A' c' v p w u ls hp; exact hp.elim
  | succ m ih =>
    intro d A c A' c' v p w u ls hp hv h3 h4 ho hbw hT hpl
    have hxy : (iD d).length + (mD d).length ≤ 1000000000 := by
      have := kids_le hp
      unfold kids at this
      simp at this
      omega
    obtain ⟨⟨l1, l2, l3, l4⟩, hI, hM⟩ := hp
    obtain ⟨vA, vc, hve⟩ := hv.form
    obtain ⟨np, hnpe⟩ : ∃ n, n = p.length := ⟨_, rfl⟩
    rw [← hnpe] at hve
    subst hve
    have HNP := Lib.hid hnpe
    clear hnpe
    have hm := maxLen_le l2; have hm' := maxLen_le l4
    have HI := Lib.hid hI; have HM := Lib.hid hM
    have HIH := hide fun X a q a' q' v' s W u' ls' (hx : X ∈ kids d) (h1 : Parts W B m X a q a' q') (h2 : PathR W b v' (p ++ [s])) (h3 : Row W g3 40 [u']) (h4 : Row W g4 t4 [.func (.func 50) #[] #[.pointer (some ⟨g3, 0, none⟩), .pointer (some ⟨g4, 0, none⟩)]]) (h5 : OutR W b u' ls') (h6 : b ≤ W.heap.size) (h7 : (ls' ++ leavesF m X (p ++ [s])).length ≤ 1000000000) =>
      ih X a q a' q' v' (p ++ [s]) W u' ls' h1 h2 h3 h4 h5 h6 h7 (by have := parts_kid_lt (m := m) hx; simp; omega)
    have hnp : p.length ≤ 999999999 := by have := partsF_nonneg m; have : 1 ≤ partsF (m + 1) d := by show 1 ≤ 1 + sumL (partsF m) (kids d); have := sumL_nonneg (partsF m) (fun x => partsF_nonneg m x) (kids d); omega
                                          omega
    obtain ⟨i0, hi0, hz0, hz1, hz2⟩ := info_parts infoStp
    obtain ⟨i1, hi1, hy0, hy1, hy2⟩ := info_parts infoSts
    obtain ⟨T, hTT⟩ : ∃ T, T = ls ++ leavesF (m + 1) d p := ⟨_, rfl⟩
    rw [← hTT] at hT ⊢
    unfold leavesF at hTT
    unfold kids at HIH
    unfold datV datCs
    obtain ⟨k, hk⟩ : ∃ k, k = kD d := ⟨_, rfl⟩
    obtain ⟨n, hn⟩ : ∃ k, k = nD d := ⟨_, rfl⟩
    obtain ⟨s, hs⟩ : ∃ k, k = sD d := ⟨_, rfl⟩
    obtain ⟨IS, hIS⟩ : ∃ k, k = iD d := ⟨_, rfl⟩
    obtain ⟨MS, hMS⟩ : ∃ k, k = mD d := ⟨_, rfl⟩
    rw [← hIS, ← hMS] at hTT HIH
    rw [← hk, ← hn, ← hs, ← hIS, ← hMS]
    rw [← hIS] at l1 HI hxy
    rw [← hMS] at l3 HM hxy
    obtain ⟨x, hx⟩ : ∃ k, k = IS.length := ⟨_, rfl⟩
    obtain ⟨y, hy⟩ : ∃ k, k = MS.length := ⟨_, rfl⟩
    rw [← hx, ← hy]
    rw [← hx] at l1 hTT hxy
    rw [← hy] at l3 hTT hxy
    have HTT := Lib.hid hTT; have HX := Lib.hid hx; have HY := Lib.hid hy
    have HV := hide hv; have H3 := hide h3; have H4 := hide h4; have HO := hide ho; have HT := hide hT
    clear hTT hk hn hs hx hy hIS hMS l2 l4 hI hM ih hv h3 h4 ho hT hpl
    go_enter Tryd.func50, Tryd.ntmps50
    go_upto_region 1 with fail
    obtain ⟨w1, b4, e1, e2, hB1, c0, c1, c2, c3, c4, hR1⟩ := boxD w k n s (.slice A x c) (.slice A' y c')
    rw [e1, e2]
    have HB1 := hide hB1; have HR1 := hide hR1
    have H31 := hide (H3.out.below hB1); have H41 := hide (H4.out.below hB1); have HO1 := hide (HO.out.below hB1); have HO0 := hide (HO.out.below hB1); have HV1 := hide (HV.out.below hB1)
    have hb4 : b ≤ b4 := by omega
    have hbw1 : b ≤ w1.heap.size := Nat.le_trans hbw hB1.size
    clear e1 e2 hB1 hR1
    have w2 : IntKind.i64.wrap ((x : Int) + (y : Int)) = ((x + y : Nat) : Int) := by rw [IntWalk.i64_in _ (by omega)]; omega
    have HF1 := hide (show Fr B g3 w u w1 u from Fr.of_below HB1.out (by omega))
    have r3 := H31.out.cell 0
    have f3 := H31.out.frozen 0
    by_cases h0 : x + y = 0
    · obtain rfl : x = 0 := by omega
      obtain rfl : y = 0 := by omega
      have HT2 := hide (show T = ls ++ [p] by rw [HTT.out, if_pos rfl])
      have hl1 : ls.length + 1 ≤ 1000000000 := by have := HT.out; rw [HT2.out] at this; simpa using this
      obtain ⟨vs, ho, hvs⟩ := HO1.out
      have HOW := hide ho; have HVS := hide hvs
      have hv1 := HV1.out.one
      clear ho hvs HO1 HO HI HM HIH
      go_upto_region 2 with fail
      go_wp2_with (at_builtin; refine wpList_append_lies _ rfl (.tmp 18) (.tmp 20) _ rfl b 35 i1 _ 1 24 Tryd.underlying40 hi1 hy0 hy1 hy2 rfl (by omega) u ls.length vs rfl (HOW.out.alloc _) ⟨w1.heap.size, 0, none⟩ 1 1 [.slice vA np vc] rfl rfl (World.news_of_block (heap_alloc_new _ _)) (one_one hv1) (by omega) (by unfold maxLen; omega) (by omega) (by simp; omega) _ rfl ?_)
      intro gn cap w5 o1 o2 o3 o4
      replace o3 : u.ownBlock = some gn ∨ gn = (w1.alloc (.cells #[.slice vA np vc] 35)).heap.size := by simpa using o3
      have hR5 := (H31.out.alloc (.cells #[.slice vA np vc] 35)).grown o2 (fun e => by have := (HOW.out.lt g3 e.symm).1; omega)
      have z3 := hR5.cell 0
      have zf := hR5.frozen 0
      have HR9 := hide (hR5.set_ 0 (.slice (some ⟨gn, 0, none⟩) (ls.length + 1) cap))
      have HF9 := hide (HF1.out.trans (fr_append (g := g3) (n := ls.length + 1) (c := cap) (x := .slice (some ⟨gn, 0, none⟩) (ls.length + 1) cap) (below_al (Below.refl _ _) _) hB3 (by omega) hbw1 (fun k e => (HOW.out.lt k e).1) o2 o3))
      have HB5 := hide (show ∀ v' p', PathR w1 b v' p' → PathR (w5.setCell ⟨g3, 0, none⟩ (.slice (some ⟨gn, 0, none⟩) (ls.length + 1) cap)) b v' p' from fun v' p' h => h.kept (fr_append (B := B) (g := g3) (n := ls.length + 1) (c := cap) (x := .slice (some ⟨gn, 0, none⟩) (ls.length + 1) cap) (below_al (Below.refl _ _) _) hB3 (by omega) hbw1 (fun k e => (HOW.out.lt k e).1) o2 o3) (by omega) HOW.out)
      have HO9 := hide (show OutR (w5.setCell ⟨g3, 0, none⟩ (.slice (some ⟨gn, 0, none⟩) (ls.length + 1) cap)) b (.slice (some ⟨gn, 0, none⟩) (ls.length + 1) cap) T by
        rw [HT2.out]
        exact ⟨vs ++ [.slice vA np vc], by rw [List.length_append]; exact own_set o1 (by show g3 < b; omega) _, (HVS.out.turn fun v' p' h => HB5.out v' p' h).push (HB5.out _ _ HV1.out)⟩)
      obtain ⟨wz, hwz⟩ : ∃ wz, wz = w5.setCell ⟨g3, 0, none⟩ (.slice (some ⟨gn, 0, none⟩) (ls.length + 1) cap) := ⟨_, rfl⟩
      have HRb := hide (show Row wz b4 25 [.int .i64 k, .int .i64 n, .string s, .slice A 0 c, .slice A' 0 c'] by
        rw [hwz]; exact ((HR1.out.alloc (.cells #[.slice vA np vc] 35)).grown o2 (own_row_ne (HOW.out.alloc (.cells #[.slice vA np vc] 35)) (HR1.out.alloc _) (by decide)).symm).far (by show b4 ≠ g3; omega) _)
      rw [← hwz] at HR9 HF9 HO9
      go_upto_region 3 with fail
      rw [← hwz]
      obtain ⟨q0, q1, q2, q3, q4⟩ := row5 HRb.out
      clear hwz HRb HB5 o1 o2 o3 o4 hR5 z3 zf HOW HVS c0 c1 c2 c3 c4 HR1 r3 f3 H31 H41 HF1 HV1 HB1
      go_wp2_with fail
      go_loopw [6, 7, 25] (fun _ _ iv wr => iv = .int .i64 0 ∧ wz = wr) (fun _ _ _ _ => 0)
      case atStart => exact ⟨rfl, rfl⟩
      case round =>
        obtain ⟨rfl, rfl⟩ := hrel
        go_wp2_with fail
        go_loopw [9, 43] (fun _ iv wr => iv = .int .i64 0 ∧ wz = wr) (fun _ _ _ => 0)
        case atStart => exact ⟨rfl, rfl⟩
        case round =>
          obtain ⟨rfl, rfl⟩ := hrel
          go_wp2_with fail
          go_end0
          exact ⟨rfl, _, HR9.out, HO9.out, HF9.out⟩
    · have g0 : ((x : Int) + (y : Int) == 0) = false := beq_false_of_ne (by omega)
      have HC1 := hide (show ∃ cur, Row w1 g3 40 [u] ∧ OutR w1 b u cur ∧ Fr B g3 w u w1 u ∧ T = cur ++ lvI (leavesF m) p 0 (IS.drop 0) ++ lvM (leavesF m) p MS from
        ⟨ls, H31.out, HO1.out, HF1.out, by rw [HTT.out, if_neg h0]; simp⟩)
      clear HTT H3 H4 HO HO1 HF1 r3 f3 h0 HV
      go_wp2_with fail
      go_loopw [6, 7, 25] (fun _ _ iv wr => ∃ (i : Nat) (u' : Value), iv = .int .i64 i ∧ i ≤ x ∧ Hid (∃ cur, Row wr g3 40 [u'] ∧ OutR wr b u' cur ∧ Fr B g3 w u wr u' ∧ T = cur ++ lvI (leavesF m) p i (IS.drop i) ++ lvM (leavesF m) p MS) ∧ Hid (Fr B g3 w1 u wr u')) (fun _ _ iv _ => x - (intOf iv).toNat)
      case atStart => exact ⟨0, u, rfl, Nat.zero_le _, HC1, hide (Fr.refl _ _ _ _)⟩
      case round =>
        clear HC1 c0 c1 c2 c3 c4
        obtain ⟨i, u', rfl, hi, hI, hF⟩ := hrel
        obtain ⟨vs1, ho1, _⟩ := HO0.out
        have hV := HV1.out.kept hF.out (by omega) ho1
        have hR4 := H41.out.kept hF.out (by omega) ho1 ht4
        have hRb := HR1.out.kept hF.out (by omega) ho1 (by decide)
        have hws : w1.heap.size ≤ wr.heap.size := hF.out.1.size
        obtain ⟨cur, hR3, hO, hFw, hT⟩ := hI.out
        clear ho1
        by_cases hlt : i < x
        · have hlt' : i < IS.length := by rw [← HX.out]; exact hlt
          obtain ⟨ad, rfl, hb, a, q, a', q', hfive, hpts⟩ := HI.out i _ (List.getElem?_eq_getElem hlt')
          rw [lvI_drop hlt'] at hT
          obtain ⟨X, hX⟩ : ∃ X, X = IS[i] := ⟨_, rfl⟩
          have hmem : X ∈ IS ++ MS.map Prod.snd := List.mem_append.2 (.inl (hX ▸ List.getElem_mem hlt'))
          rw [← hX] at hfive hpts hT
          have hBw := hFw.1
          have hbb : (ad.add (i * 5)).block < B := by rw [block_of_add]; exact hb
          obtain ⟨s0, s1, s2, s3, s4⟩ := hfive.same hbb (Same.of_below hBw)
          have HPT := hide hpts
          have HTX := Lib.hid hT
          have HR3 := hide hR3; have HR4 := hide hR4; have HVr := hide hV; have HOr := hide hO; have HFw := hide hFw; have HBw := hide hBw
          clear hX hlt' hb hbb hfive hpts hT hR3 hR4 hV hO hFw hRb hI hBw
          go_upto_region 6 with fail
          obtain ⟨wa, b7, e1, e2, hBa, _, _, _, _, _, hRa⟩ := boxD wr (kD X) (nD X) (sD X) (.slice a (iD X).length q) (.slice a' (mD X).length q')
          rw [e1, e2]
          have HBA := hide hBa
          have hb7 : b ≤ b7 := by omega
          have hba : b ≤ wa.heap.size := by have := hBa.size; omega
          have HSS := hide fun W (h : Below wa.heap.size wa W) => And.intro (((HR4.out.below hBa).below h).cell 0) (row5 (hRa.below h))
          obtain ⟨p0, d0, d1, d2, d3, d4⟩ := HSS.out _ (Below.refl _ _)
          have HRW := hide fun W (h : Below wa.heap.size wa W) => And.intro ((HR3.out.below hBa).below h) (And.intro ((HR4.out.below hBa).below h) (And.intro (hRa.below h) ((HOr.out.below hBa).below h)))
          have hlp := hnp
          rw [← HNP.out] at hlp
          have HCLN := hide fun W (h : Below wa.heap.size wa W) => show Calls Tryd.prog 51 #[.slice vA np vc] W fun e w' => ∃ u3, e = .returned u3 ∧ Below W.heap.size W w' ∧ Below wa.heap.size wa w' ∧ w'.ownsRow wa.heap.size 48 2 u3 np (p.flatMap stepV) from
            (cloneS_run b np (.slice vA np vc) (p.flatMap stepV) W (by have := (HVr.out.below hBa).below h; unfold PathR at this; rw [← HNP.out] at this; exact this) (by omega) (stepV_one p)).mono fun e w' ⟨u3, h1, h2, h3⟩ => ⟨u3, h1, h2, h.trans (h2.mono h.size), own_mono h3 h.size⟩
          have HVIS := hide fun v5 w5 (h : Below wa.heap.size wa w5) (o1 : w5.ownsRow wa.heap.size 48 2 v5 (np + 1) (p.flatMap stepV ++ [.string ⟨#[]⟩, .int .i64 i])) =>
            HIH.out X a q a' q' v5 (⟨#[]⟩, (i : Int)) w5 u' cur hmem (HPT.out.turn (Same.of_below ((HBw.out.trans (hBa.mono (by have := HBw.out.size; omega))).trans (h.mono (by omega)))) (Nat.le_refl _))
              (by unfold PathR; rw [List.length_append, List.flatMap_append, ← HNP.out]; exact own_mono o1 hba) (HRW.out _ h).1 (HRW.out _ h).2.1 (HRW.out _ h).2.2.2 (Nat.le_trans hba h.size) (by have := HT.out; rw [HTX.out] at this; simp only [List.length_append] at this ⊢; omega)
          unfold VPost datV datCs at HVIS
          clear e1 e2 hBa hRa s0 s1 s2 s3 s4 hmem
          go_region_held_law (fun W => W.cell? ⟨g4, 0, none⟩ = some (.func (.func 50) #[] #[.pointer (some ⟨g3, 0, none⟩), .pointer (some ⟨g4, 0, none⟩)]) ∧ W.cell? ⟨b7, 0, none⟩ = some (.int .i64 (kD X)) ∧ W.cell? ⟨b7, 1, none⟩ = some (.int .i64 (nD X)) ∧ W.cell? ⟨b7, 2, none⟩ = some (.string (sD X)) ∧
              W.cell? ⟨b7, 3, none⟩ = some (.slice a (iD X).length q) ∧ W.cell? ⟨b7, 4, none⟩ = some (.slice a' (mD X).length q'))
            (first
              | exact hKV
              | exact HSS.out _ hB5
              | exact HSS.out _ (below_al hB3 _)
              | exact HSS.out _ hB3
              | exact HSS.out _ (below_al (Below.refl _ _).drew _)
              | exact HSS.out _ (Below.refl _ _).drew)
            (first
              | (go_at_call 51; refine (HCLN.out _ (by first | exact (Below.refl _ _).drew | exact below_al (Below.refl _ _).drew _)).mono ?_; rintro e w3 ⟨u3, rfl, hB3n, hB3, ho3⟩; have hz3 := hB3.size)
              | (refine step_append_all _ rfl (.tmp 33) (.tmp 36) _ rfl wa.heap.size 48 i0 _ 2 24 Tryd.underlying35 hi0 hz0 hz1 hz2 rfl (by omega) u3 np (p.flatMap stepV) rfl (ho3.alloc _) (some ⟨w3.heap.size, 0, none⟩) 1 1 [.string ⟨#[]⟩, .int .i64 i] rfl (by intro h; cases h) rfl (by intro ad' h; injection h with h; subst h; exact World.news_of_block (heap_alloc_new _ _)) step_one (by unfold maxLen; omega) (by omega) (by simp; omega) ?_; intro v5 w5 o1 o2; have hB5 : Below wa.heap.size wa w5 := Below.grown (below_al hB3 _) o2.out (by simp; omega) (fun k e => (ho3.lt k e).1))
              | (refine step_append_all _ rfl (.tmp 33) (.tmp 36) _ rfl wa.heap.size 48 i0 _ 2 24 Tryd.underlying35 hi0 hz0 hz1 hz2 rfl (by omega) u3 np (p.flatMap stepV) rfl ho3 (some ⟨wa.heap.size, 0, none⟩) 1 1 [.string ⟨#[]⟩, .int .i64 i] rfl (by intro h; cases h) rfl (by intro ad' h; injection h with h; subst h; exact World.news_of_block ((hB3n.block _ (by simp)).trans (heap_alloc_new _ _))) step_one (by unfold maxLen; omega) (by omega) (by omega) ?_; intro v5 w5 o1 o2; have hB5 : Below wa.heap.size wa w5 := Below.grown hB3 o2.out (by omega) (fun k e => (ho3.lt k e).1))
              | (go_at_call 50; refine (HVIS.out _ _ hB5 o1.out).mono ?_; rintro e w6 ⟨rfl, u6, hR6, hO6, hF6⟩; obtain ⟨vs6, ho6, _⟩ := (HRW.out _ hB5).2.2.2; have hKV := And.intro (((HRW.out _ hB5).2.1.kept hF6 (by omega) ho6 ht4).cell 0) (row5 ((HRW.out _ hB5).2.2.1.kept hF6 (by omega) ho6 (by decide)))))
          all_goals
            have HF9 := hide ((Fr.of_below (u := u') (B := B) (g := g3) (HBA.out.trans (hB5.mono HBA.out.size)) (by omega)).trans hF6)
            have HC9 := hide (show ∃ cur, Row w6 g3 40 [u6] ∧ OutR w6 b u6 cur ∧ Fr B g3 w u w6 u6 ∧ T = cur ++ lvI (leavesF m) p (i + 1) (IS.drop (i + 1)) ++ lvM (leavesF m) p MS from
              ⟨_, hR6, hO6, HFw.out.trans HF9.out, by rw [HTX.out]; simp⟩)
            have HF9 := hide (hF.out.trans HF9.out)
            clear hR6 hO6 hF6 hKV ho6 o1 o2 hB5 hB3 hB3n ho3 hz3 HVIS HCLN HRW HSS HBA HFw HBw HOr HVr HR3 HR4 HTX HPT p0 d0 d1 d2 d3 d4 hF
            go_wp2_with fail
            go_roundw
            case rel => exact ⟨i + 1, u6, by go_num, by omega, HC9, HF9⟩
            case measure => simp [intOf]; omega
        · obtain rfl : i = x := by omega
          have HC2 := hide (show ∃ cur, Row wr g3 40 [u'] ∧ OutR wr b u' cur ∧ Fr B g3 w u wr u' ∧ T = cur ++ lvM (leavesF m) p (MS.drop 0) from
            ⟨cur, hR3, hO, hFw, by rw [hT, HX.out, List.drop_eq_nil_of_le (Nat.le_refl _)]; simp [lvI]⟩)
          obtain ⟨e0, e1, e2, e3, e4⟩ := row5 hRb
          clear hI hV hR4 hRb hR3 hO hFw hT HI HX hws
          go_wp2_with fail
          go_loopw [9, 43] (fun _ iv wr => ∃ (i : Nat) (u' : Value), iv = .int .i64 i ∧ i ≤ y ∧ Hid (∃ cur, Row wr g3 40 [u'] ∧ OutR wr b u' cur ∧ Fr B g3 w u wr u' ∧ T = cur ++ lvM (leavesF m) p (MS.drop i)) ∧ Hid (Fr B g3 w1 u wr u')) (fun _ iv _ => y - (intOf iv).toNat)
          case atStart => exact ⟨0, u', rfl, Nat.zero_le _, HC2, hF⟩
          case round =>
            clear HC2 e0 e1 e2 e3 e4 hF
            obtain ⟨i, u', rfl, hi, hI, hF⟩ := hrel
            obtain ⟨vs1, ho1, _⟩ := HO0.out
            have hV := HV1.out.kept hF.out (by omega) ho1
            have hR4 := H41.out.kept hF.out (by omega) ho1 ht4
            have hRb := HR1.out.kept hF.out (by omega) ho1 (by decide)
            have hws : w1.heap.size ≤ wr.heap.size := hF.out.1.size
            obtain ⟨cur, hR3, hO, hFw, hT⟩ := hI.out
            clear ho1
            by_cases hlt : i < y
            · have hlt' : i < MS.length := by rw [← HY.out]; exact hlt
              obtain ⟨ad, rfl, hb, hlab, a, q, a', q', hfive, hpts⟩ := HM.out i _ (List.getElem?_eq_getElem hlt')
              rw [lvM_drop hlt'] at hT
              obtain ⟨X, hX⟩ : ∃ X, X = MS[i] := ⟨_, rfl⟩
              have hmem : X.2 ∈ IS ++ MS.map Prod.snd := List.mem_append.2 (.inr (List.mem_map.2 ⟨X, hX ▸ List.getElem_mem hlt', rfl⟩))
              rw [← hX] at hlab hfive hpts hT
              have hBw := hFw.1
              have hbb : (ad.add (i * 6)).block < B := by rw [block_of_add]; exact hb
              obtain ⟨s0, s1, s2, s3, s4, s5⟩ := six_of ((hBw.cell (p := ad.add (i * 6)) hbb).trans hlab) (hfive.same (p := ⟨_, _, none⟩) hbb (Same.of_below hBw))
              have HPT := hide hpts
              have HTX := Lib.hid hT
              have HR3 := hide hR3; have HR4 := hide hR4; have HVr := hide hV; have HOr := hide hO; have HFw := hide hFw; have HBw := hide hBw
              clear hX hlt' hb hbb hlab hfive hpts hT hR3 hR4 hV hO hFw hRb hI hBw
              go_upto_region 11 with fail
              obtain ⟨wa, b7, e1, e2, hBa, hRa⟩ := boxM wr X a q a' q'
              rw [e1, e2]
              have HBA := hide hBa
              have hb7 : b ≤ b7 := by omega
              have hba : b ≤ wa.heap.size := by have := hBa.size; omega
              have HSS := hide fun W (h : Below wa.heap.size wa W) => And.intro (((HR4.out.below hBa).below h).cell 0) (row6 (hRa.below h))
              obtain ⟨p0, d0, d1, d2, d3, d4, d5⟩ := HSS.out _ (Below.refl _ _)
              have HRW := hide fun W (h : Below wa.heap.size wa W) => And.intro ((HR3.out.below hBa).below h) (And.intro ((HR4.out.below hBa).below h) (And.intro (hRa.below h) ((HOr.out.below hBa).below h)))
              have hlp := hnp
              rw [← HNP.out] at hlp
              have HCLN := hide fun W (h : Below wa.heap.size wa W) => show Calls Tryd.prog 51 #[.slice vA np vc] W fun e w' => ∃ u3, e = .returned u3 ∧ Below W.heap.size W w' ∧ Below wa.heap.size wa w' ∧ w'.ownsRow wa.heap.size 48 2 u3 np (p.flatMap stepV) from
                (cloneS_run b np (.slice vA np vc) (p.flatMap stepV) W (by have := (HVr.out.below hBa).below h; unfold PathR at this; rw [← HNP.out] at this; exact this) (by omega) (stepV_one p)).mono fun e w' ⟨u3, h1, h2, h3⟩ => ⟨u3, h1, h2, h.trans (h2.mono h.size), own_mono h3 h.size⟩
              have HVIS := hide fun v5 w5 (h : Below wa.heap.size wa w5) (o1 : w5.ownsRow wa.heap.size 48 2 v5 (np + 1) (p.flatMap stepV ++ [.string X.1, .int .i64 0])) =>
                HIH.out X.2 a q a' q' v5 (X.1, 0) w5 u' cur hmem (HPT.out.turn (Same.of_below ((HBw.out.trans (hBa.mono (by have := HBw.out.size; omega))).trans (h.mono (by omega)))) (Nat.le_refl _))
                  (by unfold PathR; rw [List.length_append, List.flatMap_append, ← HNP.out]; exact own_mono o1 hba) (HRW.out _ h).1 (HRW.out _ h).2.1 (HRW.out _ h).2.2.2 (Nat.le_trans hba h.size) (by have := HT.out; rw [HTX.out] at this; simp only [List.length_append] at this ⊢; omega)
              unfold VPost datV datCs at HVIS
              clear e1 e2 hBa hRa s0 s1 s2 s3 s4 s5 hmem
              go_region_held_law (fun W => W.cell? ⟨g4, 0, none⟩ = some (.func (.func 50) #[] #[.pointer (some ⟨g3, 0, none⟩), .pointer (some ⟨g4, 0, none⟩)]) ∧ W.cell? ⟨b7, 0, none⟩ = some (.string X.1) ∧ W.cell? ⟨b7, 1, none⟩ = some (.int .i64 (kD X.2)) ∧ W.cell? ⟨b7, 2, none⟩ = some (.int .i64 (nD X.2)) ∧ W.cell? ⟨b7, 3, none⟩ = some (.string (sD X.2)) ∧
                  W.cell? ⟨b7, 4, none⟩ = some (.slice a (iD X.2).length q) ∧ W.cell? ⟨b7, 5, none⟩ = some (.slice a' (mD X.2).length q'))
                (first
                  | exact hKV
                  | exact HSS.out _ hB5
                  | exact HSS.out _ (below_al hB3 _)
                  | exact HSS.out _ hB3
                  | exact HSS.out _ (below_al (Below.refl _ _).drew _)
                  | exact HSS.out _ (Below.refl _ _).drew)
                (first
                  | (go_at_call 51; refine (HCLN.out _ (by first | exact (Below.refl _ _).drew | exact below_al (Below.refl _ _).drew _)).mono ?_; rintro e w3 ⟨u3, rfl, hB3n, hB3, ho3⟩; have hz3 := hB3.size)
                  | (refine step_append_all _ rfl (.tmp 51) (.tmp 55) _ rfl wa.heap.size 48 i0 _ 2 24 Tryd.underlying35 hi0 hz0 hz1 hz2 rfl (by omega) u3 np (p.flatMap stepV) rfl (ho3.alloc _) (some ⟨w3.heap.size, 0, none⟩) 1 1 [.string X.1, .int .i64 0] rfl (by intro h; cases h) rfl (by intro ad' h; injection h with h; subst h; exact World.news_of_block (heap_alloc_new _ _)) step_one (by unfold maxLen; omega) (by omega) (by simp; omega) ?_; intro v5 w5 o1 o2; have hB5 : Below wa.heap.size wa w5 := Below.grown (below_al hB3 _) o2.out (by simp; omega) (fun k e => (ho3.lt k e).1))
                  | (refine step_append_all _ rfl (.tmp 51) (.tmp 55) _ rfl wa.heap.size 48 i0 _ 2 24 Tryd.underlying35 hi0 hz0 hz1 hz2 rfl (by omega) u3 np (p.flatMap stepV) rfl ho3 (some ⟨wa.heap.size, 0, none⟩) 1 1 [.string X.1, .int .i64 0] rfl (by intro h; cases h) rfl (by intro ad' h; injection h with h; subst h; exact World.news_of_block ((hB3n.block _ (by simp)).trans (heap_alloc_new _ _))) step_one (by unfold maxLen; omega) (by omega) (by omega) ?_; intro v5 w5 o1 o2; have hB5 : Below wa.heap.size wa w5 := Below.grown hB3 o2.out (by omega) (fun k e => (ho3.lt k e).1))
                  | (go_at_call 50; refine (HVIS.out _ _ hB5 o1.out).mono ?_; rintro e w6 ⟨rfl, u6, hR6, hO6, hF6⟩; obtain ⟨vs6, ho6, _⟩ := (HRW.out _ hB5).2.2.2; have hKV := And.intro (((HRW.out _ hB5).2.1.kept hF6 (by omega) ho6 ht4).cell 0) (row6 ((HRW.out _ hB5).2.2.1.kept hF6 (by omega) ho6 (by decide)))))
              all_goals
                have HF9 := hide ((Fr.of_below (u := u') (B := B) (g := g3) (HBA.out.trans (hB5.mono HBA.out.size)) (by omega)).trans hF6)
                have HC9 := hide (show ∃ cur, Row w6 g3 40 [u6] ∧ OutR w6 b u6 cur ∧ Fr B g3 w u w6 u6 ∧ T = cur ++ lvM (leavesF m) p (MS.drop (i + 1)) from
                  ⟨_, hR6, hO6, HFw.out.trans HF9.out, by rw [HTX.out]; simp⟩)
                have HF9 := hide (hF.out.trans HF9.out)
                clear hR6 hO6 hF6 hKV ho6 o1 o2 hB5 hB3 hB3n ho3 hz3 HVIS HCLN HRW HSS HBA HFw HBw HOr HVr HR3 HR4 HTX HPT p0 d0 d1 d2 d3 d4 d5 hF
                go_wp2_with fail
                go_roundw
                case rel => exact ⟨i + 1, u6, by go_num, by omega, HC9, HF9⟩
                case measure => simp [intOf]; omega
            · obtain rfl : i = y := by omega
              have HE := hide (show OutR wr b u' T by rw [hT, HY.out, List.drop_eq_nil_of_le (Nat.le_refl _), lvM, List.append_nil]; exact hO)
              have HR9 := hide hR3
              have HF9 := hide hFw
              clear hI hV hR4 hRb hR3 hO hFw hT hF
              go_wp2_with fail
              go_end0
              exact ⟨rfl, _, HR9.out, HE.out, HF9.out⟩
end Go.Proofs.YtajpgmacabeeeaaDoor

/- Leaves. -/
namespace Go.Proofs.YtajpgmacabeeeaaDoor
open Go.RowKit

theorem lvI_length {f : Dt → List Sp → List (List Sp)} {g : Dt → Int} (p : List Sp) : ∀ (l : List Dt) (i : Nat), (∀ x ∈ l, ∀ q, ((f x q).length : Int) ≤ g x) → ((lvI f p i l).length : Int) ≤ sumL g l
  | [], _, _ => by simp [lvI, sumL]
  | x :: l, i, h => by
    have h1 := h x (List.mem_cons_self ..) (p ++ [(⟨#[]⟩, (i : Int))])
    have h2 := lvI_length p l (i + 1) (fun y hy => h y (List.mem_cons_of_mem _ hy))
    rw [lvI, List.length_append, sumL]; omega
theorem lvM_length {f : Dt → List Sp → List (List Sp)} {g : Dt → Int} (p : List Sp) : ∀ (l : List (ByteArray × Dt)), (∀ x ∈ l, ∀ q, ((f x.2 q).length : Int) ≤ g x.2) → ((lvM f p l).length : Int) ≤ sumL g (l.map Prod.snd)
  | [], _ => by simp [lvM, sumL]
  | x :: l, h => by
    have h1 := h x (List.mem_cons_self ..) (p ++ [(x.1, 0)])
    have h2 := lvM_length p l (fun y hy => h y (List.mem_cons_of_mem _ hy))
    rw [lvM, List.length_append, List.map_cons, sumL]; omega
theorem sumL_append (g : Dt → Int) : ∀ (l k : List Dt), sumL g (l ++ k) = sumL g l + sumL g k
  | [], k => by simp [sumL]
  | x :: l, k => by rw [List.cons_append, sumL, sumL, sumL_append g l k]; omega
theorem leaves_length : ∀ (m : Nat) (d : Dt) (p : List Sp), ((leavesF m d p).length : Int) ≤ partsF m d
  | 0, d, p => by have := partsF_nonneg 0 d; simpa [leavesF] using this
  | m + 1, d, p => by
    unfold leavesF
    show _ ≤ 1 + sumL (partsF m) (kids d)
    have h0 := sumL_nonneg (partsF m) (fun x => partsF_nonneg m x) (kids d)
    split
    · simp; omega
    · have h1 := lvI_length (f := leavesF m) (g := partsF m) p (iD d) 0 (fun x _ q => leaves_length m x q)
      have h2 := lvM_length (f := leavesF m) (g := partsF m) p (mD d) (fun x _ q => leaves_length m x.2 q)
      unfold kids
      rw [sumL_append, List.length_append]; omega

set_option maxRecDepth 20000 in
set_option maxHeartbeats 1000000 in
theorem Leaves_run (m : Nat) (d : Dt) (A : Option Addr) (c : Nat) (A' : Option Addr) (c' : Nat) (w : World) (hp : Parts w w.heap.size m d A c A' c') (hle : partsF m d ≤ 1000000000) :
    Calls Tryd.prog 31 #[datV d A c A' c'] w fun e w' => ∃ u, e = .returned u ∧ Below w.heap.size w w' ∧ OutR w' w.heap.size u (if checkD d = 0 then leavesF m d [] else []) := by
  have HC := hide fun w' (hB : Below w.heap.size w w') => Check_run m d A c A' c' w' (hp.turn (Same.of_below hB) hB.size) (fit_of_parts m 16 hp hle)
  have HM := hide fun (g3 g4 : Nat) W (h1 : w.heap.size ≤ g3) (h2 : g3 < g4) (h3 : g4 < W.heap.size) (hB : Below w.heap.size w W) (r3 : Row W g3 40 [.slice none 0 0]) (r4 : Row W g4 58 [.func (.func 50) #[] #[.pointer (some ⟨g3, 0, none⟩), .pointer (some ⟨g4, 0, none⟩)]]) =>
    visit_run w.heap.size g3 g4 W.heap.size 58 (by decide) h1 h2 h3 m d A c A' c' (.slice none 0 0) [] W (.slice none 0 0) [] (hp.turn (Same.of_below hB) (Nat.le_refl _)) (World.ownsRow_nil _ _ _ _) r3 r4 ⟨[], World.ownsRow_nil _ _ _ _, trivial⟩ (Nat.le_refl _)
      (by have := leaves_length m d []; simp; omega) (by simp; omega)
  obtain ⟨res, hres⟩ : ∃ k, k = (if checkD d = 0 then leavesF m d [] else []) := ⟨_, rfl⟩
  rw [← hres]
  obtain ⟨z, hz⟩ : ∃ z, z = checkD d := ⟨_, rfl⟩
  rw [← hz] at HC hres
  have HRES := Lib.hid hres
  unfold VPost at HM
  unfold datV datCs at HC HM
  unfold datV datCs
  obtain ⟨k, hk⟩ : ∃ k, k = kD d := ⟨_, rfl⟩
  obtain ⟨n, hn⟩ : ∃ k, k = nD d := ⟨_, rfl⟩
  obtain ⟨s, hs⟩ : ∃ k, k = sD d := ⟨_, rfl⟩
  obtain ⟨x, hx⟩ : ∃ k, k = (iD d).length := ⟨_, rfl⟩
  obtain ⟨y, hy⟩ : ∃ k, k = (mD d).length := ⟨_, rfl⟩
  rw [← hk, ← hn, ← hs, ← hx, ← hy] at HC HM ⊢
  clear hp hz hres hk hn hs hx hy hle
  go_enter Tryd.func31, Tryd.ntmps31
  go_upto_region 1 with fail
  obtain ⟨w1, g, e1, e2, hBL, c0, c1, c2, c3, c4, hROW⟩ := boxD w k n s (.slice A x c) (.slice A' y c')
  rw [e1, e2]
  have HBL := hide hBL; have HROW := hide hROW
  clear e1 e2 hBL hROW
  go_wp2_with fail
  refine (HC.out _ HBL.out).mono ?_; rintro e w2 ⟨rfl, hB2⟩
  have HB2 := hide (HBL.out.trans (hB2.mono HBL.out.size))
  have HR2 := hide (HROW.out.below hB2)
  clear c0 c1 c2 c3 c4 hB2 HROW HC HBL
  by_cases hz : z = 0
  · subst hz
    have HZ := hide (show res = leavesF m d [] by rw [HRES.out, if_pos rfl])
    clear HRES
    go_upto_region 6 with fail
    have R3 := Row.new w2 40 [.slice none 0 0]
    obtain ⟨w3, hw3⟩ : ∃ w3, w3 = w2.alloc (Obj.cells #[Value.slice none 0 0] 40) := ⟨_, rfl⟩
    obtain ⟨g3, hg3⟩ : ∃ g, g = w2.heap.size := ⟨_, rfl⟩
    obtain ⟨g4, hg4⟩ : ∃ g, g = g3 + 1 := ⟨_, rfl⟩
    have hs3 : w3.heap.size = g4 := by rw [hw3, hg4, hg3]; simp
    have R4 := Row.new w3 58 [.func (.func 50) #[] #[.pointer (some ⟨g3, 0, none⟩), .pointer (some ⟨g4, 0, none⟩)]]
    obtain ⟨w4, hw4⟩ : ∃ w4, w4 = w3.alloc (Obj.cells #[Value.func (.func 50) #[] #[.pointer (some ⟨g3, 0, none⟩), .pointer (some ⟨g4, 0, none⟩)]] 58) := ⟨_, rfl⟩
    have b3 : Below w2.heap.size w2 w3 := by rw [hw3]; exact (Below.refl _ _).alloc (Nat.le_refl _) _
    have b4 : Below w3.heap.size w3 w4 := by rw [hw4]; exact (Below.refl _ _).alloc (Nat.le_refl _) _
    have hB24 := b3.trans (b4.mono b3.size)
    rw [← hw3, ← hg3] at R3
    rw [hs3] at R4
    have R4' : Row w4 g4 58 [.func (.func 50) #[] #[.pointer (some ⟨g3, 0, none⟩), .pointer (some ⟨g4, 0, none⟩)]] := by rw [hw4]; exact R4
    have hB4 := HB2.out.trans (hB24.mono HB2.out.size)
    have HM4 := hide (HM.out g3 g4 w4 (by have := HB2.out.size; omega) (by omega) R4'.lt hB4 (R3.below b4) R4')
    have HOR := Nat.le_trans HB2.out.size hB24.size
    rw [← hg3, ← hg4, ← hw3, ← hw4]
    have q0 := (R3.below b4).cell 0
    have q1 := R4'.cell 0
    obtain ⟨s0, s1, s2, s3, s4⟩ := row5 (HR2.out.below hB24)
    have HB4 := hide hB4
    clear hw3 hw4 hg3 hg4 hs3 R3 R4 R4' b3 b4 hB24 hB4 HM HB2 HR2
    go_wp2_with fail
    refine HM4.out.mono ?_; rintro e w5 ⟨rfl, u, hR5, hO5, hF5⟩
    have q3 := hR5.cell 0
    have HO5 := hide (show OutR w5 w.heap.size u res by
      obtain ⟨vs, o1, o2⟩ := hO5
      rw [HZ.out]
      exact ⟨vs, by simpa using own_mono o1 HOR, by rw [List.nil_append] at o2; exact o2.turn fun _ _ h => own_mono h HOR⟩)
    have HB5 := hide (HB4.out.trans hF5.1)
    clear hR5 hO5 hF5 q0 q1 s0 s1 s2 s3 s4 HM4
    go_wp2_with fail
    go_ret
    exact ⟨_, rfl, HB5.out, HO5.out⟩
  · have HZ := hide (show res = [] by rw [HRES.out, if_neg hz])
    have g2 : (z != 0) = true := by simpa using hz
    go_wp2_with fail
    go_ret
    exact ⟨_, rfl, HB2.out, by rw [HZ.out]; exact ⟨[], World.ownsRow_nil _ _ _ _, trivial⟩⟩
end Go.Proofs.YtajpgmacabeeeaaDoor

/- The chapter's example. -/
namespace Go.Proofs.YtajpgmacabeeeaaDoor
open Go.RowKit

def exL : Dt := mkD 5 0 ⟨#[]⟩ [mkD 1 0 ⟨#[]⟩ [] [], mkD 4 0 ⟨#[120]⟩ [] []] []
def exD : Dt := mkD 6 0 ⟨#[]⟩ [] [(⟨#[97]⟩, mkD 3 10000 ⟨#[]⟩ [] []), (⟨#[98]⟩, exL)]
theorem leaf_parts (w : World) (B m : Nat) (k n : Int) (s : ByteArray) : Parts w B (m + 1) (mkD k n s [] []) none 0 none 0 :=
  ⟨⟨Nat.le_refl _, Nat.zero_le _, Nat.le_refl _, Nat.zero_le _⟩, fun i x h => by simp at h, fun i x h => by simp at h⟩

set_option maxRecDepth 20000 in
set_option maxHeartbeats 1000000 in
theorem example_run (w : World) : Calls Tryd.prog 38 #[] w fun e w' => ∃ a c a' c', e = .returned (datV exD a c a' c') ∧ Below w.heap.size w w' ∧ Parts w' w'.heap.size 3 exD a c a' c' := by
  go_enter Tryd.func38, Tryd.ntmps38
  go_wp2_with fail
  have R0 := Row.new w 25 [.int .i64 6, .int .i64 0, .string ⟨#[]⟩, .slice none 0 0, .slice (some ⟨w.heap.size + 1 + 1 + 1, 0, none⟩) 2 2]
  obtain ⟨w0, hw0⟩ : ∃ w0, w0 = w.alloc (Obj.cells #[Value.int .i64 6, .int .i64 0, .string ⟨#[]⟩, .slice none 0 0, .slice (some ⟨w.heap.size + 1 + 1 + 1, 0, none⟩) 2 2] 25) := ⟨_, rfl⟩
  have R1 := Row.new w0 25 (datCs (mkD 1 0 ⟨#[]⟩ [] []) none 0 none 0 ++ datCs (mkD 4 0 ⟨#[120]⟩ [] []) none 0 none 0)
  obtain ⟨w1, hw1⟩ : ∃ w1, w1 = w0.alloc (Obj.cells (datCs (mkD 1 0 ⟨#[]⟩ [] []) none 0 none 0 ++ datCs (mkD 4 0 ⟨#[120]⟩ [] []) none 0 none 0).toArray 25) := ⟨_, rfl⟩
  obtain ⟨w2, hw2⟩ : ∃ w2, w2 = w1.alloc (Obj.cells #[Value.int .i64 5, .int .i64 0, .string ⟨#[]⟩, .slice (some ⟨w.heap.size + 1, 0, none⟩) 2 2, .slice none 0 0] 25) := ⟨_, rfl⟩
  have R3 := Row.new w2 53 ((.string ⟨#[97]⟩ :: datCs (mkD 3 10000 ⟨#[]⟩ [] []) none 0 none 0) ++ (.string ⟨#[98]⟩ :: datCs exL (some ⟨w.heap.size + 1, 0, none⟩) 2 none 0))
  obtain ⟨w3, hw3⟩ : ∃ w3, w3 = w2.alloc (Obj.cells ((.string ⟨#[97]⟩ :: datCs (mkD 3 10000 ⟨#[]⟩ [] []) none 0 none 0) ++ (.string ⟨#[98]⟩ :: datCs exL (some ⟨w.heap.size + 1, 0, none⟩) 2 none 0)).toArray 53) := ⟨_, rfl⟩
  have s0 : w0.heap.size = w.heap.size + 1 := by rw [hw0]; simp
  have s1 : w1.heap.size = w.heap.size + 1 + 1 := by rw [hw1]; simp [s0]
  have s2 : w2.heap.size = w.heap.size + 1 + 1 + 1 := by rw [hw2]; simp [s1]
  have s3 : w3.heap.size = w.heap.size + 1 + 1 + 1 + 1 := by rw [hw3]; simp [s2]
  have b1 : Below w0.heap.size w0 w1 := by rw [hw1]; exact (Below.refl _ _).alloc (Nat.le_refl _) _
  have b2 : Below w1.heap.size w1 w2 := by rw [hw2]; exact (Below.refl _ _).alloc (Nat.le_refl _) _
  have b3 : Below w2.heap.size w2 w3 := by rw [hw3]; exact (Below.refl _ _).alloc (Nat.le_refl _) _
  have b0 : Below w.heap.size w w0 := by rw [hw0]; exact (Below.refl _ _).alloc (Nat.le_refl _) _
  have hB : Below w.heap.size w w3 := ((b0.trans (b1.mono b0.size)).trans (b2.mono (by omega))).trans (b3.mono (by omega))
  rw [← hw0] at R0
  rw [← hw1, s0] at R1
  rw [← hw3, s2] at R3
  have Q0 := ((R0.below b1).below b2).below b3
  have Q1 := (R1.below b2).below b3
  have hI : DatsAt (Parts w3 w3.heap.size 1) w3 w3.heap.size (some ⟨w.heap.size + 1, 0, none⟩) [mkD 1 0 ⟨#[]⟩ [] [], mkD 4 0 ⟨#[120]⟩ [] []] :=
    DatsAt.of_flat ((FlatD.one (leaf_parts _ _ 0 _ _ _)).append (FlatD.one (leaf_parts _ _ 0 _ _ _))) (by show w.heap.size + 1 < _; omega) (fun j u hu => by rw [add_head, Q1.cell]; exact hu)
  have hL : Parts w3 w3.heap.size 2 exL (some ⟨w.heap.size + 1, 0, none⟩) 2 none 0 := ⟨⟨by decide, by decide, by decide, by decide⟩, hI, fun i x h => by simp [exL] at h⟩
  have hM : MemsAt (Parts w3 w3.heap.size 2) w3 w3.heap.size (some ⟨w.heap.size + 1 + 1 + 1, 0, none⟩) [(⟨#[97]⟩, mkD 3 10000 ⟨#[]⟩ [] []), (⟨#[98]⟩, exL)] :=
    MemsAt.of_flat ((FlatM.one (m := (⟨#[97]⟩, mkD 3 10000 ⟨#[]⟩ [] [])) (leaf_parts _ _ 1 _ _ _)).append (FlatM.one (m := (⟨#[98]⟩, exL)) hL)) (by show w.heap.size + 1 + 1 + 1 < _; omega) (fun j u hu => by rw [add_head, R3.cell]; exact hu)
  have hE : Parts w3 w3.heap.size 3 exD none 0 (some ⟨w.heap.size + 1 + 1 + 1, 0, none⟩) 2 := ⟨⟨by decide, by decide, by decide, by decide⟩, fun i x h => by simp [exD] at h, hM⟩
  have hW : (((w.alloc (Obj.cells #[Value.int .i64 6, .int .i64 0, .string ⟨#[]⟩, .slice none 0 0, .slice (some ⟨w.heap.size + 1 + 1 + 1, 0, none⟩) 2 2] 25)).alloc (Obj.cells (datCs (mkD 1 0 ⟨#[]⟩ [] []) none 0 none 0 ++ datCs (mkD 4 0 ⟨#[120]⟩ [] []) none 0 none 0).toArray 25)).alloc (Obj.cells #[Value.int .i64 5, .int .i64 0, .string ⟨#[]⟩, .slice (some ⟨w.heap.size + 1, 0, none⟩) 2 2, .slice none 0 0] 25)).alloc (Obj.cells ((.string ⟨#[97]⟩ :: datCs (mkD 3 10000 ⟨#[]⟩ [] []) none 0 none 0) ++ (.string ⟨#[98]⟩ :: datCs exL (some ⟨w.heap.size + 1, 0, none⟩) 2 none 0)).toArray 53) = w3 := by rw [hw3, hw2, hw1, hw0]
  refine bodyPost_ret (results_dat rfl _ _ w.heap.size _ _ _ _ _ rfl (by rw [← hW] at Q0; exact Q0)) rfl ?_
  refine ⟨none, 0, some ⟨w.heap.size + 1 + 1 + 1, 0, none⟩, 2, rfl, ?_, ?_⟩
  · rw [← hW] at hB; exact hB
  · rw [← hW] at hE; exact hE
end Go.Proofs.YtajpgmacabeeeaaDoor
