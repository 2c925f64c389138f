/- leaves of the reference; Leaves and Paths of the reference. -/
import Derived.Test.YtajpgmacabeeeaaDoorGJ
import Derived.Test.YtajpgmacabeeeaaDoorGB
import Derived.Test.YtajpgmacabeeeaaDoorGU

/- leaves of the reference. -/
namespace Go.Proofs.YtajpgmacabeeeaaDoor
open Go.RowKit

theorem PathR.grown {b n : Nat} {w w' : World} {u v : Value} {p : List Sp} {vs : List Value} (h : PathR w b v p) (hg : w.grownBy w' u.ownBlock) (ho : w.ownsRow b 35 1 u n vs) : PathR w' b v p := by
  have hne := fun k (hk : v.ownBlock = some k) => path_ne h ho hk
  refine World.ownsRow.kept h hg ?_
  rcases hv : v.ownBlock with _ | k
  · exact .inl rfl
  · exact .inr fun e => hne k hv e.symm
theorem AllP.append {R : Value → List Sp → Prop} : ∀ {vs ys : List Value} {ls ks : List (List Sp)}, AllP R vs ls → AllP R ys ks → AllP R (vs ++ ys) (ls ++ ks)
  | [], _, [], _, _, h' => h'
  | _ :: _, _, _ :: _, _, h, h' => ⟨h.1, h.2.append h'⟩
theorem AllP.length {R : Value → List Sp → Prop} : ∀ {vs : List Value} {ls : List (List Sp)}, AllP R vs ls → vs.length = ls.length
  | [], [], _ => rfl
  | _ :: _, _ :: _, h => by simp [h.2.length]
theorem OutR.push_all {b n k : Nat} {w4 w5 : World} {u u' : Value} {vs ys : List Value} {ls ks : List (List Sp)} (ho : w4.ownsRow b 35 1 u n vs) (hls : AllP (PathR w4 b) vs ls) (hks : AllP (PathR w4 b) ys ks)
    (h1 : w5.ownsRow b 35 1 u' (n + k) (vs ++ ys)) (h2 : w4.grownBy w5 u.ownBlock) : OutR w5 b u' (ls ++ ks) := by
  have hkeep : ∀ v p, PathR w4 b v p → PathR w5 b v p := fun v p h => h.grown h2 ho
  refine ⟨vs ++ ys, ?_, (hls.turn hkeep).append (hks.turn hkeep)⟩
  have e : n + k = (ls ++ ks).length := by
    have := h1.1
    rw [List.length_append, hls.length, hks.length] at this
    rw [List.length_append]; omega
  rw [← e]; exact h1
theorem PathR.mono {w : World} {b b' : Nat} {v : Value} {p : List Sp} (h : PathR w b v p) (hb : b' ≤ b) : PathR w b' v p := own_mono h hb
theorem slots_one {ls : List (List Sp)} {vs : List Value} {w : World} {b : Nat} : AllP (PathR w b) vs ls → ∀ u ∈ vs, u.oneCell' = true := by
  intro h u hu
  induction vs generalizing ls with
  | nil => cases hu
  | cons v vs ih =>
    cases ls with
    | nil => exact h.elim
    | cons p ls =>
      rcases List.mem_cons.1 hu with rfl | hu
      · exact h.1.one
      · exact ih h.2 hu
theorem own_news {w : World} {b n c size : Nat} {e : TypeId} {A : Option Addr} {xs : List Value} (h : w.ownsRow b e size (.slice A n c) n xs) : (A = none → n = 0 ∧ c = 0) ∧ ∀ W, Below w.heap.size w W → ∀ ad, A = some ad → ∀ j u, xs[j]? = some u → W.cell? (ad.add j) = some u := by
  rcases h.2 with ⟨e1, h0⟩ | ⟨g, cap, cur, e1, _, hh, _⟩
  · injection e1 with e1 e2 e3
    subst e1 e3
    exact ⟨fun _ => ⟨h0, rfl⟩, fun W _ ad e => by cases e⟩
  · injection e1 with e1 e2 e3
    subst e1
    refine ⟨fun e => (by cases e), fun W hB ad e j u hu => ?_⟩
    injection e with e
    subst e
    have h2 := own_below h hB
    exact h2.cells rfl j u hu
theorem own_box (w : World) (t : TypeId) (v : Value) (b : Nat) (hb : b ≤ w.heap.size) : (w.alloc (.cells #[v] t)).ownsRow b t 1 (.slice (some ⟨w.heap.size, 0, none⟩) 1 1) 1 [v] :=
  ⟨rfl, .inr ⟨w.heap.size, 1, #[v], rfl, hb, heap_alloc_new _ _, Nat.le_refl _, by simp [maxLen], rfl, rfl⟩⟩
theorem one_own (w : World) (t : TypeId) : (w.alloc (.cells #[] t)).ownsRow w.heap.size t 2 (.slice (some ⟨w.heap.size, 0, none⟩) 0 0) 0 [] := World.ownsRow_made w #[] 0 (Nat.le_refl _) (by simp [maxLen]) rfl
theorem two_own (w : World) (t : TypeId) (o : Obj) : ((w.alloc (.cells #[] t)).alloc o).ownsRow w.heap.size t 2 (.slice (some ⟨w.heap.size, 0, none⟩) 0 0) 0 [] := (one_own w t).alloc o
theorem swp_own (w : World) (t : TypeId) (o : Obj) : ((w.alloc o).alloc (.cells #[] t)).ownsRow w.heap.size t 2 (.slice (some ⟨w.heap.size + 1, 0, none⟩) 0 0) 0 [] := by
  have := one_own (w.alloc o) t
  simp only [World.size_alloc] at this
  exact own_mono this (by omega)
theorem two_new {w w5 : World} {t : TypeId} {o : Obj} (h : ((w.alloc (.cells #[] t)).alloc o).grownBy w5 (Value.slice (some ⟨w.heap.size, 0, none⟩) 0 0).ownBlock) : w5.heap[w.heap.size + 1]? = some o := by
  have := heap_alloc_new (w.alloc (.cells #[] t)) o
  simp only [World.size_alloc] at this
  exact (h.block (w.heap.size + 1) (by simp) (by simp [Value.ownBlock])).trans this
theorem swp_new {w w5 : World} {t : TypeId} {o : Obj} (h : ((w.alloc o).alloc (.cells #[] t)).grownBy w5 (Value.slice (some ⟨w.heap.size + 1, 0, none⟩) 0 0).ownBlock) : w5.heap[w.heap.size]? = some o :=
  (h.block w.heap.size (by simp; omega) (by simp [Value.ownBlock])).trans ((Below.heap_alloc _ _ _ (by simp)).trans (heap_alloc_new w o))
theorem wpList_append_rows {P : Program} (w : World) {ops : Array Oper} {rest : List Oper} {o : Oper} {a : Act} {Q : Exit → Act → World → Prop} (hgd : o.guard = none) (s x : Operand) (t : TypeId)
    (ho : o.op = .call { callee := .builtin .append, args := #[s, x], argTypes := #[t, t] })
    (base : Nat) (e : TypeId) (i : TypeInfo) (z : Value) (size bytes : Nat) (ht : P.underlying t = some (.slice e)) (hi : P.info? e = some i) (hz : i.zero = some z)
    (hsize : i.size = size) (hby : i.bytes = bytes) (hzs : z.cells.size = size) (hsz : 0 < size)
    (v : Value) (n : Nat) (xs : List Value) (hs : a.eval s = v) (hown : w.ownsRow base e size v n xs)
    (v2 : Value) (m base2 : Nat) (ys : List Value) (hx : a.eval x = v2) (hown2 : w.ownsRow base2 e size v2 m ys) (h1 : ∀ u ∈ ys, u.oneCell' = true)
    (h63 : n + m ≤ maxLen) (hbytes : (n + m) * bytes ≤ 140737488355328) (hbase : base ≤ w.heap.size)
    (h : ∀ v' w', Hid (w'.ownsRow base e size v' (n + m) (xs ++ ys)) → Hid (w.grownBy w' v.ownBlock) → wpList P ops Q rest (a.put o.dst v') w') : wpList P ops Q (o :: rest) a w := by
  rcases hown2.2 with ⟨rfl, rfl⟩ | ⟨g, cap, cur, rfl, _⟩
  · exact wpList_append_all w hgd s x t ho base e i z size bytes ht hi hz hsize hby hzs hsz v n xs hs hown none 0 0 ys hx (fun _ => ⟨rfl, rfl⟩) hown2.1 (fun ad e => by cases e) h1 h63 hbytes hbase h
  · exact wpList_append_all w hgd s x t ho base e i z size bytes ht hi hz hsize hby hzs hsz v n xs hs hown _ m cap ys hx (fun e => by cases e) hown2.1 (fun ad e => by injection e with e; subst e; exact hown2.cells rfl) h1 h63 hbytes hbase h
/-- The path and one step behind it, in a row made afresh. -/
def LvPost (w : World) (ls : List (List Sp)) (e : Ending) (w' : World) : Prop := ∃ u, e = .returned u ∧ Below w.heap.size w w' ∧ OutR w' w.heap.size u ls

set_option maxRecDepth 20000 in
set_option maxHeartbeats 4000000 in
theorem refleaves_run : ∀ (m : Nat) (d : Dt) (A : Option Addr) (c : Nat) (A' : Option Addr) (c' : Nat) (v : Value) (p : List Sp) (b : Nat) (w : World), Parts w w.heap.size m d A c A' c' → PathR w b v p → (leavesF m d p).length ≤ 1000000000 → (p.length : Int) + partsF m d ≤ 1000000000 →
    Calls Tryd.prog 52 #[datV d A c A' c', v] w (LvPost w (leavesF m d p)) := by
  intro m
  induction m with
  | zero => intro d A c A' c' v p b w hp; exact hp.elim
  | succ m ih =>
    intro d A c A' c' v p b w hp hv hT hpl
    have hxy : (iD d).length + (mD d).length ≤ 1000000000 := by
      have := kids_le hp
      unfold kids at this
      simp at this
      omega
    obtain ⟨⟨l1, l2, l3, l4⟩, hI, hM⟩ := hp
    obtain ⟨vA, vc, hve⟩ := hv.form
    obtain ⟨np, hnpe⟩ : ∃ n, n = p.length := ⟨_, rfl⟩
    rw [← hnpe] at hve
    subst hve
    have HNP := Lib.hid hnpe
    have hm := maxLen_le l2; have hm' := maxLen_le l4
    have HI := Lib.hid hI; have HM := Lib.hid hM
    have HIH := hide fun X a q a' q' v' s W b' (hx : X ∈ kids d) (h1 : Parts W W.heap.size m X a q a' q') (h2 : PathR W b' v' (p ++ [s])) (h7 : (leavesF m X (p ++ [s])).length ≤ 1000000000) =>
      ih X a q a' q' v' (p ++ [s]) b' W h1 h2 h7 (by have := parts_kid_lt (m := m) hx; simp; omega)
    have hnp : np ≤ 999999999 := by
      have : 1 ≤ partsF (m + 1) d := by
        show 1 ≤ 1 + sumL (partsF m) (kids d)
        have := sumL_nonneg (partsF m) (fun x => partsF_nonneg m x) (kids d); omega
      omega
    obtain ⟨i0, hi0, hz0, hz1, hz2⟩ := info_parts infoStp
    obtain ⟨i1, hi1, hy0, hy1, hy2⟩ := info_parts infoSts
    obtain ⟨T, hTT⟩ : ∃ T, T = leavesF (m + 1) d p := ⟨_, rfl⟩
    rw [← hTT] at hT ⊢
    unfold leavesF at hTT
    unfold kids at HIH
    unfold datV datCs
    obtain ⟨k, hk⟩ : ∃ k, k = kD d := ⟨_, rfl⟩
    obtain ⟨n, hn⟩ : ∃ k, k = nD d := ⟨_, rfl⟩
    obtain ⟨s, hs⟩ : ∃ k, k = sD d := ⟨_, rfl⟩
    obtain ⟨IS, hIS⟩ : ∃ k, k = iD d := ⟨_, rfl⟩
    obtain ⟨MS, hMS⟩ : ∃ k, k = mD d := ⟨_, rfl⟩
    rw [← hIS, ← hMS] at hTT HIH
    rw [← hk, ← hn, ← hs, ← hIS, ← hMS]
    rw [← hIS] at l1 HI hxy
    rw [← hMS] at l3 HM hxy
    obtain ⟨x, hx⟩ : ∃ k, k = IS.length := ⟨_, rfl⟩
    obtain ⟨y, hy⟩ : ∃ k, k = MS.length := ⟨_, rfl⟩
    rw [← hx, ← hy]
    rw [← hx] at l1 hTT hxy
    rw [← hy] at l3 hTT hxy
    have HTT := Lib.hid hTT; have HX := Lib.hid hx; have HY := Lib.hid hy
    have HV := hide hv; have HT := hide hT
    clear hTT hk hn hs hx hy hIS hMS l2 l4 hI hM ih hv hT hpl hnpe
    go_enter Tryd.func52, Tryd.ntmps52
    go_upto_region 1 with fail
    obtain ⟨w1, b4, e1, e2, hB1, c0, c1, c2, c3, c4, hR1⟩ := boxD w k n s (.slice A x c) (.slice A' y c')
    rw [e1, e2]
    have HB1 := hide hB1; have HR1 := hide hR1
    have HV1 := hide (HV.out.below hB1)
    clear e1 e2 hB1 hR1
    by_cases h0 : x = 0 ∧ y = 0
    · obtain ⟨rfl, rfl⟩ := h0
      have HT2 := hide (show T = [p] by rw [HTT.out, if_pos rfl])
      have HPO := hide (show w1.ownsRow b 48 2 (.slice vA np vc) np (p.flatMap stepV) by have := HV1.out; unfold PathR at this; rw [← HNP.out] at this; exact this)
      have HNW := hide (own_news HPO.out)
      clear HI HM HIH
      go_upto_region 2 with fail
      go_wp2_with (at_builtin; refine wpList_append_all _ rfl (.tmp 18) (.tmp 19) _ rfl w1.heap.size 48 i0 _ 2 24 Tryd.underlying35 hi0 hz0 hz1 hz2 rfl (by omega) _ 0 _ rfl (World.ownsRow_made w1 #[] 0 (Nat.le_refl _) (by simp [maxLen]) rfl) vA np vc (p.flatMap stepV) rfl HNW.out.1 (HPO.out.1) (HNW.out.2 _ ((Below.refl _ _).alloc (Nat.le_refl _) _)) (stepV_one p) (by unfold maxLen; omega) (by omega) (by simp) ?_)
      intro v5 w5 o1 o2
      have hB5 : Below w1.heap.size w1 w5 := Below.grown ((Below.refl _ _).alloc (Nat.le_refl _) _) o2.out (by simp) (fun k e => by simp [Value.ownBlock] at e; omega)
      have HO5 := hide (show PathR w5 w.heap.size v5 p by have := o1.out; unfold PathR; rw [← HNP.out]; exact own_mono (by simpa using this) HB1.out.size)
      have HB5 := hide (HB1.out.trans (hB5.mono HB1.out.size))
      obtain ⟨A5, q5, hv5⟩ := HO5.out.form
      subst hv5
      clear o1 o2 hB5 HPO HNW HV1 HV
      have HB6 := hide (below_al HB5.out (.cells #[.slice A5 p.length q5] 35))
      have HO6 := hide (show OutR (w5.alloc (.cells #[.slice A5 p.length q5] 35)) w.heap.size (.slice (some ⟨w5.heap.size, 0, none⟩) 1 1) T by
        rw [HT2.out]
        exact ⟨_, own_box w5 _ _ _ HB5.out.size, HO5.out.below ((Below.refl _ _).alloc (Nat.le_refl _) _), trivial⟩)
      go_wp2_with fail
      go_ret
      exact ⟨_, rfl, HB6.out, HO6.out⟩
    · have g0 : (((x : Int) == 0) && ((y : Int) == 0)) = false := by
        rcases Nat.eq_zero_or_pos x with h | h
        · have : ((y : Int) == 0) = false := beq_false_of_ne (by omega)
          rw [this, Bool.and_false]
        · have : ((x : Int) == 0) = false := beq_false_of_ne (by omega)
          rw [this, Bool.false_and]
      have HC1 := hide (show ∃ cur, OutR w1 w1.heap.size (.slice none 0 0) cur ∧ T = cur ++ lvI (leavesF m) p 0 (IS.drop 0) ++ lvM (leavesF m) p MS from
        ⟨[], ⟨[], World.ownsRow_nil _ _ _ _, trivial⟩, by rw [HTT.out, if_neg (by omega)]; simp⟩)
      clear HTT HV
      go_cut [17] from 8 to 17 (fun a wc => a = .bool false ∧ wc = w1)
      case first =>
        clear g0
        by_cases hx0 : x = 0
        · subst hx0
          have gy : ((y : Int) == 0) = false := beq_false_of_ne (by omega)
          go_wp2_with fail
          go_meet
          case rel => exact ⟨rfl, rfl⟩
        · have gx : ((x : Int) == 0) = false := beq_false_of_ne (by omega)
          go_wp2_with fail
          go_meet
          case rel => exact ⟨rfl, rfl⟩
      case rest =>
        obtain ⟨rfl, rfl⟩ := hcut
        go_wp2_with fail
        go_loopw [5, 6] (fun uv iv wr => ∃ i : Nat, iv = .int .i64 i ∧ i ≤ x ∧ Hid (Below wc.heap.size wc wr) ∧ Hid (∃ cur, OutR wr wc.heap.size uv cur ∧ T = cur ++ lvI (leavesF m) p i (IS.drop i) ++ lvM (leavesF m) p MS)) (fun _ iv _ => x - (intOf iv).toNat)
        case atStart => exact ⟨0, rfl, Nat.zero_le _, hide (Below.refl _ _), HC1⟩
        case round =>
          clear HC1 c0 c1 c2 c3 c4
          obtain ⟨i, rfl, hi, hB, hI⟩ := hrel
          obtain ⟨cur, hO, hT⟩ := hI.out
          have hRb := HR1.out.below hB.out
          obtain ⟨c0, c1, c2, c3, c4⟩ := row5 hRb
          by_cases hlt : i < x
          · have hlt' : i < IS.length := by rw [← HX.out]; exact hlt
            obtain ⟨ad, rfl, hb, a, q, a', q', hfive, hpts⟩ := HI.out i _ (List.getElem?_eq_getElem hlt')
            rw [lvI_drop hlt'] at hT
            obtain ⟨X, hX⟩ : ∃ X, X = IS[i] := ⟨_, rfl⟩
            have hmem : X ∈ IS ++ MS.map Prod.snd := List.mem_append.2 (.inl (hX ▸ List.getElem_mem hlt'))
            rw [← hX] at hfive hpts hT
            have hBw := HB1.out.trans (hB.out.mono HB1.out.size)
            have hbb : (ad.add (i * 5)).block < w.heap.size := by rw [block_of_add]; exact hb
            have HSS := hide fun W (h : Below wr.heap.size wr W) => And.intro (row5 (hRb.below h)).2.2.2.1 (hfive.same hbb (Same.of_below (hBw.trans (h.mono hBw.size))))
            have HPO := hide (show wr.ownsRow b 48 2 (.slice vA np vc) np (p.flatMap stepV) by have := HV1.out.below hB.out; unfold PathR at this; rw [← HNP.out] at this; exact this)
            have HNW := hide (own_news HPO.out)
            obtain ⟨vs, ho, hvs⟩ := hO
            have HOW := hide ho; have HVS := hide hvs
            have hb1 : wc.heap.size ≤ wr.heap.size := hB.out.size
            have hT9 := HT.out
            rw [hT] at hT9
            simp only [List.length_append] at hT9
            obtain ⟨K7, hK7⟩ : ∃ n, n = (leavesF m X (p ++ [(⟨#[]⟩, (i : Int))])).length := ⟨_, rfl⟩
            have hcl : cur.length + K7 ≤ 1000000000 := by omega
            have HVIS := hide fun v6 w6 (h : Below wr.heap.size wr w6) (o1 : w6.ownsRow wr.heap.size 48 2 v6 (np + 1) (p.flatMap stepV ++ [.string ⟨#[]⟩, .int .i64 i])) =>
              HIH.out X a q a' q' v6 (⟨#[]⟩, (i : Int)) w6 wr.heap.size hmem (hpts.turn (Same.of_below (hBw.trans (h.mono hBw.size))) (hBw.trans (h.mono hBw.size)).size)
                (by unfold PathR; rw [List.length_append, List.flatMap_append, ← HNP.out]; exact o1) (by omega)
            unfold LvPost OutR datV datCs at HVIS
            rw [← hK7] at HVIS
            have HTX := Lib.hid hT; have HK7 := Lib.hid hK7
            clear hX hlt' hb hfive hpts hT hbb hmem hT9 hK7 ho hvs hRb hI hBw
            go_upto_region 7 with fail
            refine region_two 14 (fun W => W.cell? ⟨b4, 3, none⟩ = some (.slice (some ad) x c) ∧ W.cell? (ad.add (i * 5)) = some (.int .i64 (kD X)) ∧ W.cell? ⟨(ad.add (i * 5)).block, (ad.add (i * 5)).off + 1, none⟩ = some (.int .i64 (nD X)) ∧ W.cell? ⟨(ad.add (i * 5)).block, (ad.add (i * 5)).off + 2, none⟩ = some (.string (sD X)) ∧ W.cell? ⟨(ad.add (i * 5)).block, (ad.add (i * 5)).off + 3, none⟩ = some (.slice a (iD X).length q) ∧ W.cell? ⟨(ad.add (i * 5)).block, (ad.add (i * 5)).off + 4, none⟩ = some (.slice a' (mD X).length q')) (by kernel_rfl) (by kernel_rfl) (HSS.out _ (Below.refl _ _).drew) (fun hH => ?_)
            simp only [List.take_succ_cons, List.take_zero]
            obtain ⟨wd, hwd⟩ : ∃ W, W = wr.drew := ⟨_, rfl⟩
            have hBD : Below wr.heap.size wr wd := by rw [hwd]; exact (Below.refl _ _).drew
            have hsd := hBD.size
            rw [← hwd] at hH ⊢
            clear hwd
            refine takeH (i := 0) (v := ?_) rfl (by kernel_rfl) (by kernel_rfl) (by kernel_rfl) (fun _ _ _ h => h) (Or.inl ⟨by rfl, ?_⟩) hH ?_
            rotate_left
            · (intro w hSw; (try dsimp only at hSw); go_simp; try with_reducible rfl)
            simp only [Act.put, List.setIfInBounds_toArray, List.set_cons_zero, List.set_cons_succ]
            refine takeH (i := 1) (v := ?_) rfl (by kernel_rfl) (by kernel_rfl) (by kernel_rfl) (fun _ _ _ h => h) (Or.inl ⟨by rfl, ?_⟩) hH ?_
            rotate_left
            · (intro w hSw; (try dsimp only at hSw); go_simp; try with_reducible rfl)
            simp only [Act.put, List.setIfInBounds_toArray, List.set_cons_zero, List.set_cons_succ]
            refine takeH (i := 2) (v := ?_) rfl (by kernel_rfl) (by kernel_rfl) (by kernel_rfl) (fun _ _ _ h => h) (Or.inl ⟨by rfl, ?_⟩) hH ?_
            rotate_left
            · (intro w hSw; (try dsimp only at hSw); go_simp; try with_reducible rfl)
            simp only [Act.put, List.setIfInBounds_toArray, List.set_cons_zero, List.set_cons_succ]
            refine takeH (i := 3) (v := ?_) rfl (by kernel_rfl) (by kernel_rfl) (by kernel_rfl) (fun _ _ _ h => h) (Or.inl ⟨by rfl, ?_⟩) hH ?_
            rotate_left
            · (intro w hSw; (try dsimp only at hSw); go_simp; try with_reducible rfl)
            simp only [Act.put, List.setIfInBounds_toArray, List.set_cons_zero, List.set_cons_succ]
            refine takeH (i := 4) (v := ?_) rfl (by kernel_rfl) (by kernel_rfl) (by kernel_rfl) (fun _ _ _ h => h) (Or.inl ⟨by rfl, ?_⟩) hH ?_
            rotate_left
            · (intro w hSw; (try dsimp only at hSw); go_simp; try with_reducible rfl)
            simp only [Act.put, List.setIfInBounds_toArray, List.set_cons_zero, List.set_cons_succ]
            refine takeH (i := 5) (v := ?_) rfl (by kernel_rfl) (by kernel_rfl) (by kernel_rfl) (fun _ _ _ h => h) (Or.inl ⟨by rfl, ?_⟩) hH ?_
            rotate_left
            · (intro w hSw; (try dsimp only at hSw); go_simp; try with_reducible rfl)
            simp only [Act.put, List.setIfInBounds_toArray, List.set_cons_zero, List.set_cons_succ]
            refine takeH (i := 7) (v := ?_) rfl (by kernel_rfl) (by kernel_rfl) (by kernel_rfl) (fun _ _ _ h => h) (Or.inl ⟨by rfl, ?_⟩) hH ?_
            rotate_left
            · (intro w hSw; (try dsimp only at hSw); go_simp; try with_reducible rfl)
            simp only [Act.put, List.setIfInBounds_toArray, List.set_cons_zero, List.set_cons_succ]
            refine takeH (i := 9) (v := ?_) rfl (by kernel_rfl) (by kernel_rfl) (by kernel_rfl) (fun _ _ _ h => h) (Or.inl ⟨by rfl, ?_⟩) hH ?_
            rotate_left
            · (intro w hSw; (try dsimp only at hSw); go_simp; try with_reducible rfl)
            simp only [Act.put, List.setIfInBounds_toArray, List.set_cons_zero, List.set_cons_succ]
            refine takeH (i := 10) (v := ?_) rfl (by kernel_rfl) (by kernel_rfl) (by kernel_rfl) (fun _ _ _ h => h) (Or.inl ⟨by rfl, ?_⟩) hH ?_
            rotate_left
            · (intro w hSw; (try dsimp only at hSw); go_simp; try with_reducible rfl)
            simp only [Act.put, List.setIfInBounds_toArray, List.set_cons_zero, List.set_cons_succ]
            refine twoH (i := 6) (j := 11) rfl rfl (by kernel_rfl) (fun K hK => ?_) (fun K hK => ?_)
            -- the empty row first
            go_simp
            refine hK.out _ _ (HSS.out _ (below_al hBD _)) (fun hH => ?_)
            clear hK K
            have hOA := one_own wd 48
            have hBA := below_al hBD (Obj.cells #[] 48)
            obtain ⟨wA, hwA⟩ : ∃ W, W = wd.alloc (Obj.cells #[] 48) := ⟨_, rfl⟩
            obtain ⟨gA, hgA⟩ : ∃ g, g = wd.heap.size := ⟨_, rfl⟩
            rw [← hwA] at hOA hBA ⊢
            rw [← hgA] at hOA ⊢
            have hOA := own_mono hOA (show wr.heap.size ≤ gA by omega)
            have hsA : gA < wA.heap.size := by rw [hwA, hgA]; simp
            have hgw : wr.heap.size ≤ gA := by omega
            clear hwA hgA
            refine twoH (i := 8) (j := 11) rfl rfl (by kernel_rfl) (fun K hK => ?_) (fun K hK => ?_)
            -- the path behind it, then the step
            refine step_append_all _ rfl (.tmp 35) (.tmp 36) _ rfl wr.heap.size 48 i0 _ 2 24 Tryd.underlying35 hi0 hz0 hz1 hz2 rfl (by omega) (.slice (some ⟨gA, 0, none⟩) 0 0) 0 [] rfl hOA vA np vc (p.flatMap stepV) rfl HNW.out.1 HPO.out.1 (HNW.out.2 _ hBA) (stepV_one p) (by unfold maxLen; omega) (by omega) hBA.size ?_
            intro v5 w5 o1 o2
            have hB5 := hBA.grown o2.out hBA.size (fun k e => by have : gA = k := by simpa [Value.ownBlock] using e
                                                                 omega)
            have hO5 : w5.ownsRow wr.heap.size 48 2 v5 np (p.flatMap stepV) := by simpa using o1.out
            refine hK.out _ _ (HSS.out _ hB5) (fun hH => ?_)
            clear hK K
            refine oneH (i := 11) rfl (by kernel_rfl) (fun K hK => ?_)
            go_simp
            refine hK.out _ _ (HSS.out _ (below_al hB5 _)) (fun hH => ?_)
            clear hK K
            have hN := heap_alloc_new w5 (Obj.cells #[.string ⟨#[]⟩, .int .i64 i] 48)
            have hBN := below_al hB5 (Obj.cells #[.string ⟨#[]⟩, .int .i64 i] 48)
            obtain ⟨w6, hwN⟩ : ∃ W, W = w5.alloc (Obj.cells #[.string ⟨#[]⟩, .int .i64 i] 48) := ⟨_, rfl⟩
            obtain ⟨b6, hb6⟩ : ∃ b, b = w5.heap.size := ⟨_, rfl⟩
            rw [← hwN] at hN hBN ⊢
            rw [← hb6] at hN ⊢
            have hO6 : w6.ownsRow wr.heap.size 48 2 v5 np (p.flatMap stepV) := by rw [hwN]; exact hO5.alloc _
            clear hwN hb6 o1 o2 hB5 hO5 hOA hBA hsA hgw
            rotate_left
            -- the step first, then the path
            go_simp
            refine hK.out _ _ (HSS.out _ (below_al hBA _)) (fun hH => ?_)
            clear hK K
            have hN := heap_alloc_new wA (Obj.cells #[.string ⟨#[]⟩, .int .i64 i] 48)
            have hBN := below_al hBA (Obj.cells #[.string ⟨#[]⟩, .int .i64 i] 48)
            obtain ⟨w4, hwN⟩ : ∃ W, W = wA.alloc (Obj.cells #[.string ⟨#[]⟩, .int .i64 i] 48) := ⟨_, rfl⟩
            obtain ⟨b6, hb6⟩ : ∃ b, b = wA.heap.size := ⟨_, rfl⟩
            rw [← hwN] at hN hBN ⊢
            rw [← hb6] at hN ⊢
            have hOA : w4.ownsRow wr.heap.size 48 2 (.slice (some ⟨gA, 0, none⟩) 0 0) 0 [] := by rw [hwN]; exact hOA.alloc _
            have hBA := hBN
            have hbw : gA ≠ b6 := by omega
            clear hwN hb6 hsA
            refine oneH (i := 8) rfl (by kernel_rfl) (fun K hK => ?_)
            refine step_append_all _ rfl (.tmp 35) (.tmp 36) _ rfl wr.heap.size 48 i0 _ 2 24 Tryd.underlying35 hi0 hz0 hz1 hz2 rfl (by omega) (.slice (some ⟨gA, 0, none⟩) 0 0) 0 [] rfl hOA vA np vc (p.flatMap stepV) rfl HNW.out.1 HPO.out.1 (HNW.out.2 _ hBA) (stepV_one p) (by unfold maxLen; omega) (by omega) hBA.size ?_
            intro v5 w5 o1 o2
            have hB5 := hBA.grown o2.out hBA.size (fun k e => by have : gA = k := by simpa [Value.ownBlock] using e
                                                                 omega)
            have hO5 : w5.ownsRow wr.heap.size 48 2 v5 np (p.flatMap stepV) := by simpa using o1.out
            refine hK.out _ _ (HSS.out _ hB5) (fun hH => ?_)
            clear hK K
            have hN := (o2.out.block b6 (Array.getElem?_eq_some_iff.1 hN).1 (by simpa [Value.ownBlock] using fun e => hbw e.symm)).trans hN
            have hBN := hB5; have hO6 := hO5
            obtain ⟨w6, rfl⟩ : ∃ W, W = w5 := ⟨_, rfl⟩
            clear o1 o2 hOA hBA hB5 hO5 hbw hgw
            rotate_left
            -- the step first of all
            go_simp
            refine hK.out _ _ (HSS.out _ (below_al hBD _)) (fun hH => ?_)
            clear hK K
            have hN := heap_alloc_new wd (Obj.cells #[.string ⟨#[]⟩, .int .i64 i] 48)
            have hBN := below_al hBD (Obj.cells #[.string ⟨#[]⟩, .int .i64 i] 48)
            obtain ⟨w3, hwN⟩ : ∃ W, W = wd.alloc (Obj.cells #[.string ⟨#[]⟩, .int .i64 i] 48) := ⟨_, rfl⟩
            obtain ⟨b6, hb6⟩ : ∃ b, b = wd.heap.size := ⟨_, rfl⟩
            rw [← hwN] at hN hBN ⊢
            rw [← hb6] at hN ⊢
            have hs3 : b6 < w3.heap.size := by rw [hwN, hb6]; simp
            have hb6w : wr.heap.size ≤ b6 := by omega
            clear hwN hb6
            refine oneH (i := 6) rfl (by kernel_rfl) (fun K hK => ?_)
            go_simp
            refine hK.out _ _ (HSS.out _ (below_al hBN _)) (fun hH => ?_)
            clear hK K
            have hOA := one_own w3 48
            have hBA := below_al hBN (Obj.cells #[] 48)
            obtain ⟨w4, hwA⟩ : ∃ W, W = w3.alloc (Obj.cells #[] 48) := ⟨_, rfl⟩
            obtain ⟨gA, hgA⟩ : ∃ g, g = w3.heap.size := ⟨_, rfl⟩
            rw [← hwA] at hOA hBA ⊢
            rw [← hgA] at hOA ⊢
            have hOA := own_mono hOA (show wr.heap.size ≤ gA by omega)
            have hgw : wr.heap.size ≤ gA := by omega
            have hbw : gA ≠ b6 := by omega
            have hN : w4.heap[b6]? = some (Obj.cells #[.string ⟨#[]⟩, .int .i64 i] 48) := by rw [hwA]; exact (Below.heap_alloc _ _ _ hs3).trans hN
            clear hwA hgA hs3
            refine oneH (i := 8) rfl (by kernel_rfl) (fun K hK => ?_)
            refine step_append_all _ rfl (.tmp 35) (.tmp 36) _ rfl wr.heap.size 48 i0 _ 2 24 Tryd.underlying35 hi0 hz0 hz1 hz2 rfl (by omega) (.slice (some ⟨gA, 0, none⟩) 0 0) 0 [] rfl hOA vA np vc (p.flatMap stepV) rfl HNW.out.1 HPO.out.1 (HNW.out.2 _ hBA) (stepV_one p) (by unfold maxLen; omega) (by omega) hBA.size ?_
            intro v5 w5 o1 o2
            have hB5 := hBA.grown o2.out hBA.size (fun k e => by have : gA = k := by simpa [Value.ownBlock] using e
                                                                 omega)
            have hO5 : w5.ownsRow wr.heap.size 48 2 v5 np (p.flatMap stepV) := by simpa using o1.out
            refine hK.out _ _ (HSS.out _ hB5) (fun hH => ?_)
            clear hK K
            have hN := (o2.out.block b6 (Array.getElem?_eq_some_iff.1 hN).1 (by simpa [Value.ownBlock] using fun e => hbw e.symm)).trans hN
            have hBN := hB5; have hO6 := hO5
            obtain ⟨w6, rfl⟩ : ∃ W, W = w5 := ⟨_, rfl⟩
            clear o1 o2 hOA hBA hB5 hO5 hbw hgw hb6w
            -- all three ways
            all_goals
              refine oneH (i := 12) rfl (by kernel_rfl) (fun K hK => ?_)
              refine step_append_all _ rfl (.tmp 37) (.tmp 40) _ rfl wr.heap.size 48 i0 _ 2 24 Tryd.underlying35 hi0 hz0 hz1 hz2 rfl (by omega) v5 np (p.flatMap stepV) rfl hO6 (some ⟨b6, 0, none⟩) 1 1 [.string ⟨#[]⟩, .int .i64 i] rfl (by intro h; cases h) rfl (by intro ad' h; injection h with h; subst h; exact World.news_of_block hN) step_one (by unfold maxLen; omega) (by omega) hBN.size ?_
              intro v7 w7 q1 q2
              have hB7 := hBN.grown q2.out hBN.size (fun k e => (hO6.lt k e).1)
              have hO7 := q1.out
              refine hK.out _ _ (HSS.out _ hB7) (fun hH => ?_)
              clear hK K q1 q2
              refine oneH (i := 13) rfl (by kernel_rfl) (fun K hK => ?_)
              go_simp
              go_at_call 52
              refine (HVIS.out _ _ hB7 hO7).mono ?_; rintro e w8 ⟨u8, rfl, hB8, ys, ho8, hys⟩
              have hB9 := hB7.trans (hB8.mono hB7.size)
              refine hK.out _ _ (HSS.out _ hB9) (fun hH => ?_)
              clear hK K
              refine wpAnyH_done (by kernel_rfl) ?_ _
              unfold TailPost
              simp only [List.drop_succ_cons, List.drop_zero]
              have hs7 := hB7.size; have hs8 := hB8.size; have hs9 := hB9.size
              have HO8 := hide ho8; have HYS := hide hys; have HB8 := hide hB9
              clear ho8 hys hB9 hB8 hB7 hO7 hO6 hBN hN HVIS hH
              go_wp2_with (at_builtin; refine wpList_append_rows _ rfl (.tmp 29) (.tmp 42) _ rfl wc.heap.size 35 i1 _ 1 24 Tryd.underlying40 hi1 hy0 hy1 hy2 rfl (by omega) u5 cur.length vs rfl (own_below HOW.out HB8.out) u8 _ w7.heap.size ys rfl HO8.out (slots_one HYS.out) (by unfold maxLen; omega) (by omega) (by omega) ?_)
              intro v9 w9 p1 p2
              have HB9 := hide ((hB.out.trans (HB8.out.mono hb1)).grown p2.out (by omega) (fun k e => (HOW.out.lt k e).1))
              have HC9 := hide (show ∃ cur, OutR w9 wc.heap.size v9 cur ∧ T = cur ++ lvI (leavesF m) p (i + 1) (IS.drop (i + 1)) ++ lvM (leavesF m) p MS from
                ⟨_, OutR.push_all (own_below HOW.out HB8.out) (HVS.out.turn fun _ _ h => h.below HB8.out) (HYS.out.turn fun _ _ h => h.mono (by omega)) p1.out p2.out, by rw [HTX.out]; simp⟩)
              clear p1 p2 HO8 HYS HB8
              go_wp2_with fail
              go_roundw
              case rel => exact ⟨i + 1, by go_num, by omega, HB9, HC9⟩
              case measure => simp [intOf]; omega
          · obtain rfl : i = x := by omega
            have HC2 := hide (show ∃ cur, OutR wr wc.heap.size u5 cur ∧ T = cur ++ lvM (leavesF m) p (MS.drop 0) from
              ⟨cur, hO, by rw [hT, List.drop_eq_nil_of_le (by rw [← HX.out]; exact Nat.le_refl _)]; simp [lvI]⟩)
            have HBR := hide hB.out
            clear hI hO hT hB hRb c0 c1 c2 c3 c4
            obtain ⟨c0, c1, c2, c3, c4⟩ := row5 (HR1.out.below HBR.out)
            go_wp2_with fail
            go_loopw [5, 7] (fun uv iv wr => ∃ i : Nat, iv = .int .i64 i ∧ i ≤ y ∧ Hid (Below wc.heap.size wc wr) ∧ Hid (∃ cur, OutR wr wc.heap.size uv cur ∧ T = cur ++ lvM (leavesF m) p (MS.drop i))) (fun _ iv _ => y - (intOf iv).toNat)
            case atStart => exact ⟨0, rfl, Nat.zero_le _, HBR, HC2⟩
            case round =>
              clear HC2 HBR c0 c1 c2 c3 c4
              obtain ⟨i, rfl, hi, hB, hI⟩ := hrel
              obtain ⟨cur, hO, hT⟩ := hI.out
              have hRb := HR1.out.below hB.out
              obtain ⟨c0, c1, c2, c3, c4⟩ := row5 hRb
              by_cases hlt : i < y
              · have hlt' : i < MS.length := by rw [← HY.out]; exact hlt
                obtain ⟨ad, rfl, hb, hlab, a, q, a', q', hfive, hpts⟩ := HM.out i _ (List.getElem?_eq_getElem hlt')
                rw [lvM_drop hlt'] at hT
                obtain ⟨X, hX⟩ : ∃ X, X = MS[i] := ⟨_, rfl⟩
                have hmem : X.2 ∈ IS ++ MS.map Prod.snd := List.mem_append.2 (.inr (List.mem_map.2 ⟨X, hX ▸ List.getElem_mem hlt', rfl⟩))
                rw [← hX] at hlab hfive hpts hT
                have hBw := HB1.out.trans (hB.out.mono HB1.out.size)
                have hbb : (ad.add (i * 6)).block < w.heap.size := by rw [block_of_add]; exact hb
                have HSS := hide fun W (h : Below wr.heap.size wr W) => And.intro (row5 (hRb.below h)).2.2.2.2 (six_of (((hBw.trans (h.mono hBw.size)).cell (p := ad.add (i * 6)) hbb).trans hlab) (hfive.same (p := ⟨_, _, none⟩) hbb (Same.of_below (hBw.trans (h.mono hBw.size)))))
                have HPO := hide (show wr.ownsRow b 48 2 (.slice vA np vc) np (p.flatMap stepV) by have := HV1.out.below hB.out; unfold PathR at this; rw [← HNP.out] at this; exact this)
                have HNW := hide (own_news HPO.out)
                obtain ⟨vs, ho, hvs⟩ := hO
                have HOW := hide ho; have HVS := hide hvs
                have hb1 : wc.heap.size ≤ wr.heap.size := hB.out.size
                have hT9 := HT.out
                rw [hT] at hT9
                simp only [List.length_append] at hT9
                obtain ⟨K7, hK7⟩ : ∃ n, n = (leavesF m X.2 (p ++ [(X.1, (0 : Int))])).length := ⟨_, rfl⟩
                have hcl : cur.length + K7 ≤ 1000000000 := by omega
                have HVIS := hide fun v6 w6 (h : Below wr.heap.size wr w6) (o1 : w6.ownsRow wr.heap.size 48 2 v6 (np + 1) (p.flatMap stepV ++ [.string X.1, .int .i64 0])) =>
                  HIH.out X.2 a q a' q' v6 (X.1, (0 : Int)) w6 wr.heap.size hmem (hpts.turn (Same.of_below (hBw.trans (h.mono hBw.size))) (hBw.trans (h.mono hBw.size)).size)
                    (by unfold PathR; rw [List.length_append, List.flatMap_append, ← HNP.out]; exact o1) (by omega)
                unfold LvPost OutR datV datCs at HVIS
                rw [← hK7] at HVIS
                have HTX := Lib.hid hT; have HK7 := Lib.hid hK7
                clear hX hlt' hb hfive hpts hT hbb hmem hT9 hK7 ho hvs hRb hI hBw hlab
                go_upto_region 11 with fail
                refine region_two 20 (fun W => W.cell? ⟨b4, 4, none⟩ = some (.slice (some ad) y c') ∧ W.cell? (ad.add (i * 6)) = some (.string X.1) ∧ W.cell? ⟨(ad.add (i * 6)).block, (ad.add (i * 6)).off + 1, none⟩ = some (.int .i64 (kD X.2)) ∧ W.cell? ⟨(ad.add (i * 6)).block, (ad.add (i * 6)).off + 2, none⟩ = some (.int .i64 (nD X.2)) ∧ W.cell? ⟨(ad.add (i * 6)).block, (ad.add (i * 6)).off + 3, none⟩ = some (.string (sD X.2)) ∧ W.cell? ⟨(ad.add (i * 6)).block, (ad.add (i * 6)).off + 4, none⟩ = some (.slice a (iD X.2).length q) ∧ W.cell? ⟨(ad.add (i * 6)).block, (ad.add (i * 6)).off + 5, none⟩ = some (.slice a' (mD X.2).length q')) (by kernel_rfl) (by kernel_rfl) (HSS.out _ (Below.refl _ _).drew) (fun hH => ?_)
                simp only [List.take_succ_cons, List.take_zero]
                obtain ⟨wd, hwd⟩ : ∃ W, W = wr.drew := ⟨_, rfl⟩
                have hBD : Below wr.heap.size wr wd := by rw [hwd]; exact (Below.refl _ _).drew
                have hsd := hBD.size
                rw [← hwd] at hH ⊢
                clear hwd
                refine takeH (i := 0) (v := ?_) rfl (by kernel_rfl) (by kernel_rfl) (by kernel_rfl) (fun _ _ _ h => h) (Or.inl ⟨by rfl, ?_⟩) hH ?_
                rotate_left
                · (intro w hSw; (try dsimp only at hSw); go_simp; try with_reducible rfl)
                simp only [Act.put, List.setIfInBounds_toArray, List.set_cons_zero, List.set_cons_succ]
                refine takeH (i := 1) (v := ?_) rfl (by kernel_rfl) (by kernel_rfl) (by kernel_rfl) (fun _ _ _ h => h) (Or.inl ⟨by rfl, ?_⟩) hH ?_
                rotate_left
                · (intro w hSw; (try dsimp only at hSw); go_simp; try with_reducible rfl)
                simp only [Act.put, List.setIfInBounds_toArray, List.set_cons_zero, List.set_cons_succ]
                refine takeH (i := 2) (v := ?_) rfl (by kernel_rfl) (by kernel_rfl) (by kernel_rfl) (fun _ _ _ h => h) (Or.inl ⟨by rfl, ?_⟩) hH ?_
                rotate_left
                · (intro w hSw; (try dsimp only at hSw); go_simp; try with_reducible rfl)
                simp only [Act.put, List.setIfInBounds_toArray, List.set_cons_zero, List.set_cons_succ]
                refine takeH (i := 3) (v := ?_) rfl (by kernel_rfl) (by kernel_rfl) (by kernel_rfl) (fun _ _ _ h => h) (Or.inl ⟨by rfl, ?_⟩) hH ?_
                rotate_left
                · (intro w hSw; (try dsimp only at hSw); go_simp; try with_reducible rfl)
                simp only [Act.put, List.setIfInBounds_toArray, List.set_cons_zero, List.set_cons_succ]
                refine takeH (i := 4) (v := ?_) rfl (by kernel_rfl) (by kernel_rfl) (by kernel_rfl) (fun _ _ _ h => h) (Or.inl ⟨by rfl, ?_⟩) hH ?_
                rotate_left
                · (intro w hSw; (try dsimp only at hSw); go_simp; try with_reducible rfl)
                simp only [Act.put, List.setIfInBounds_toArray, List.set_cons_zero, List.set_cons_succ]
                refine takeH (i := 5) (v := ?_) rfl (by kernel_rfl) (by kernel_rfl) (by kernel_rfl) (fun _ _ _ h => h) (Or.inl ⟨by rfl, ?_⟩) hH ?_
                rotate_left
                · (intro w hSw; (try dsimp only at hSw); go_simp; try with_reducible rfl)
                simp only [Act.put, List.setIfInBounds_toArray, List.set_cons_zero, List.set_cons_succ]
                refine takeH (i := 6) (v := ?_) rfl (by kernel_rfl) (by kernel_rfl) (by kernel_rfl) (fun _ _ _ h => h) (Or.inl ⟨by rfl, ?_⟩) hH ?_
                rotate_left
                · (intro w hSw; (try dsimp only at hSw); go_simp; try with_reducible rfl)
                simp only [Act.put, List.setIfInBounds_toArray, List.set_cons_zero, List.set_cons_succ]
                refine takeH (i := 8) (v := ?_) rfl (by kernel_rfl) (by kernel_rfl) (by kernel_rfl) (fun _ _ _ h => h) (Or.inl ⟨by rfl, ?_⟩) hH ?_
                rotate_left
                · (intro w hSw; (try dsimp only at hSw); go_simp; try with_reducible rfl)
                simp only [Act.put, List.setIfInBounds_toArray, List.set_cons_zero, List.set_cons_succ]
                refine takeH (i := 10) (v := ?_) rfl (by kernel_rfl) (by kernel_rfl) (by kernel_rfl) (fun _ _ _ h => h) (Or.inl ⟨by rfl, ?_⟩) hH ?_
                rotate_left
                · (intro w hSw; (try dsimp only at hSw); go_simp; try with_reducible rfl)
                simp only [Act.put, List.setIfInBounds_toArray, List.set_cons_zero, List.set_cons_succ]
                refine takeH (i := 11) (v := ?_) rfl (by kernel_rfl) (by kernel_rfl) (by kernel_rfl) (fun _ _ _ h => h) (Or.inl ⟨by rfl, ?_⟩) hH ?_
                rotate_left
                · (intro w hSw; (try dsimp only at hSw); go_simp; try with_reducible rfl)
                simp only [Act.put, List.setIfInBounds_toArray, List.set_cons_zero, List.set_cons_succ]
                refine takeH (i := 12) (v := ?_) rfl (by kernel_rfl) (by kernel_rfl) (by kernel_rfl) (fun _ _ _ h => h) (Or.inl ⟨by rfl, ?_⟩) hH ?_
                rotate_left
                · (intro w hSw; (try dsimp only at hSw); go_simp; try with_reducible rfl)
                simp only [Act.put, List.setIfInBounds_toArray, List.set_cons_zero, List.set_cons_succ]
                refine takeH (i := 13) (v := ?_) rfl (by kernel_rfl) (by kernel_rfl) (by kernel_rfl) (fun _ _ _ h => h) (Or.inl ⟨by rfl, ?_⟩) hH ?_
                rotate_left
                · (intro w hSw; (try dsimp only at hSw); go_simp; try with_reducible rfl)
                simp only [Act.put, List.setIfInBounds_toArray, List.set_cons_zero, List.set_cons_succ]
                refine takeH (i := 14) (v := ?_) rfl (by kernel_rfl) (by kernel_rfl) (by kernel_rfl) (fun _ _ _ h => h) (Or.inl ⟨by rfl, ?_⟩) hH ?_
                rotate_left
                · (intro w hSw; (try dsimp only at hSw); go_simp; try with_reducible rfl)
                simp only [Act.put, List.setIfInBounds_toArray, List.set_cons_zero, List.set_cons_succ]
                refine takeH (i := 15) (v := ?_) rfl (by kernel_rfl) (by kernel_rfl) (by kernel_rfl) (fun _ _ _ h => h) (Or.inl ⟨by rfl, ?_⟩) hH ?_
                rotate_left
                · (intro w hSw; (try dsimp only at hSw); go_simp; try with_reducible rfl)
                simp only [Act.put, List.setIfInBounds_toArray, List.set_cons_zero, List.set_cons_succ]
                refine takeH (i := 16) (v := ?_) rfl (by kernel_rfl) (by kernel_rfl) (by kernel_rfl) (fun _ _ _ h => h) (Or.inl ⟨by rfl, ?_⟩) hH ?_
                rotate_left
                · (intro w hSw; (try dsimp only at hSw); go_simp; try with_reducible rfl)
                simp only [Act.put, List.setIfInBounds_toArray, List.set_cons_zero, List.set_cons_succ]
                refine twoH (i := 7) (j := 17) rfl rfl (by kernel_rfl) (fun K hK => ?_) (fun K hK => ?_)
                -- the empty row first
                go_simp
                refine hK.out _ _ (HSS.out _ (below_al hBD _)) (fun hH => ?_)
                clear hK K
                have hOA := one_own wd 48
                have hBA := below_al hBD (Obj.cells #[] 48)
                obtain ⟨wA, hwA⟩ : ∃ W, W = wd.alloc (Obj.cells #[] 48) := ⟨_, rfl⟩
                obtain ⟨gA, hgA⟩ : ∃ g, g = wd.heap.size := ⟨_, rfl⟩
                rw [← hwA] at hOA hBA ⊢
                rw [← hgA] at hOA ⊢
                have hOA := own_mono hOA (show wr.heap.size ≤ gA by omega)
                have hsA : gA < wA.heap.size := by rw [hwA, hgA]; simp
                have hgw : wr.heap.size ≤ gA := by omega
                clear hwA hgA
                refine twoH (i := 9) (j := 17) rfl rfl (by kernel_rfl) (fun K hK => ?_) (fun K hK => ?_)
                -- the path behind it, then the step
                refine step_append_all _ rfl (.tmp 58) (.tmp 59) _ rfl wr.heap.size 48 i0 _ 2 24 Tryd.underlying35 hi0 hz0 hz1 hz2 rfl (by omega) (.slice (some ⟨gA, 0, none⟩) 0 0) 0 [] rfl hOA vA np vc (p.flatMap stepV) rfl HNW.out.1 HPO.out.1 (HNW.out.2 _ hBA) (stepV_one p) (by unfold maxLen; omega) (by omega) hBA.size ?_
                intro v5 w5 o1 o2
                have hB5 := hBA.grown o2.out hBA.size (fun k e => by have : gA = k := by simpa [Value.ownBlock] using e
                                                                     omega)
                have hO5 : w5.ownsRow wr.heap.size 48 2 v5 np (p.flatMap stepV) := by simpa using o1.out
                refine hK.out _ _ (HSS.out _ hB5) (fun hH => ?_)
                clear hK K
                refine oneH (i := 17) rfl (by kernel_rfl) (fun K hK => ?_)
                go_simp
                refine hK.out _ _ (HSS.out _ (below_al hB5 _)) (fun hH => ?_)
                clear hK K
                have hN := heap_alloc_new w5 (Obj.cells #[.string X.1, .int .i64 0] 48)
                have hBN := below_al hB5 (Obj.cells #[.string X.1, .int .i64 0] 48)
                obtain ⟨w6, hwN⟩ : ∃ W, W = w5.alloc (Obj.cells #[.string X.1, .int .i64 0] 48) := ⟨_, rfl⟩
                obtain ⟨b6, hb6⟩ : ∃ b, b = w5.heap.size := ⟨_, rfl⟩
                rw [← hwN] at hN hBN ⊢
                rw [← hb6] at hN ⊢
                have hO6 : w6.ownsRow wr.heap.size 48 2 v5 np (p.flatMap stepV) := by rw [hwN]; exact hO5.alloc _
                clear hwN hb6 o1 o2 hB5 hO5 hOA hBA hsA hgw
                rotate_left
                -- the step first, then the path
                go_simp
                refine hK.out _ _ (HSS.out _ (below_al hBA _)) (fun hH => ?_)
                clear hK K
                have hN := heap_alloc_new wA (Obj.cells #[.string X.1, .int .i64 0] 48)
                have hBN := below_al hBA (Obj.cells #[.string X.1, .int .i64 0] 48)
                obtain ⟨w4, hwN⟩ : ∃ W, W = wA.alloc (Obj.cells #[.string X.1, .int .i64 0] 48) := ⟨_, rfl⟩
                obtain ⟨b6, hb6⟩ : ∃ b, b = wA.heap.size := ⟨_, rfl⟩
                rw [← hwN] at hN hBN ⊢
                rw [← hb6] at hN ⊢
                have hOA : w4.ownsRow wr.heap.size 48 2 (.slice (some ⟨gA, 0, none⟩) 0 0) 0 [] := by rw [hwN]; exact hOA.alloc _
                have hBA := hBN
                have hbw : gA ≠ b6 := by omega
                clear hwN hb6 hsA
                refine oneH (i := 9) rfl (by kernel_rfl) (fun K hK => ?_)
                refine step_append_all _ rfl (.tmp 58) (.tmp 59) _ rfl wr.heap.size 48 i0 _ 2 24 Tryd.underlying35 hi0 hz0 hz1 hz2 rfl (by omega) (.slice (some ⟨gA, 0, none⟩) 0 0) 0 [] rfl hOA vA np vc (p.flatMap stepV) rfl HNW.out.1 HPO.out.1 (HNW.out.2 _ hBA) (stepV_one p) (by unfold maxLen; omega) (by omega) hBA.size ?_
                intro v5 w5 o1 o2
                have hB5 := hBA.grown o2.out hBA.size (fun k e => by have : gA = k := by simpa [Value.ownBlock] using e
                                                                     omega)
                have hO5 : w5.ownsRow wr.heap.size 48 2 v5 np (p.flatMap stepV) := by simpa using o1.out
                refine hK.out _ _ (HSS.out _ hB5) (fun hH => ?_)
                clear hK K
                have hN := (o2.out.block b6 (Array.getElem?_eq_some_iff.1 hN).1 (by simpa [Value.ownBlock] using fun e => hbw e.symm)).trans hN
                have hBN := hB5; have hO6 := hO5
                obtain ⟨w6, rfl⟩ : ∃ W, W = w5 := ⟨_, rfl⟩
                clear o1 o2 hOA hBA hB5 hO5 hbw hgw
                rotate_left
                -- the step first of all
                go_simp
                refine hK.out _ _ (HSS.out _ (below_al hBD _)) (fun hH => ?_)
                clear hK K
                have hN := heap_alloc_new wd (Obj.cells #[.string X.1, .int .i64 0] 48)
                have hBN := below_al hBD (Obj.cells #[.string X.1, .int .i64 0] 48)
                obtain ⟨w3, hwN⟩ : ∃ W, W = wd.alloc (Obj.cells #[.string X.1, .int .i64 0] 48) := ⟨_, rfl⟩
                obtain ⟨b6, hb6⟩ : ∃ b, b = wd.heap.size := ⟨_, rfl⟩
                rw [← hwN] at hN hBN ⊢
                rw [← hb6] at hN ⊢
                have hs3 : b6 < w3.heap.size := by rw [hwN, hb6]; simp
                have hb6w : wr.heap.size ≤ b6 := by omega
                clear hwN hb6
                refine oneH (i := 7) rfl (by kernel_rfl) (fun K hK => ?_)
                go_simp
                refine hK.out _ _ (HSS.out _ (below_al hBN _)) (fun hH => ?_)
                clear hK K
                have hOA := one_own w3 48
                have hBA := below_al hBN (Obj.cells #[] 48)
                obtain ⟨w4, hwA⟩ : ∃ W, W = w3.alloc (Obj.cells #[] 48) := ⟨_, rfl⟩
                obtain ⟨gA, hgA⟩ : ∃ g, g = w3.heap.size := ⟨_, rfl⟩
                rw [← hwA] at hOA hBA ⊢
                rw [← hgA] at hOA ⊢
                have hOA := own_mono hOA (show wr.heap.size ≤ gA by omega)
                have hgw : wr.heap.size ≤ gA := by omega
                have hbw : gA ≠ b6 := by omega
                have hN : w4.heap[b6]? = some (Obj.cells #[.string X.1, .int .i64 0] 48) := by rw [hwA]; exact (Below.heap_alloc _ _ _ hs3).trans hN
                clear hwA hgA hs3
                refine oneH (i := 9) rfl (by kernel_rfl) (fun K hK => ?_)
                refine step_append_all _ rfl (.tmp 58) (.tmp 59) _ rfl wr.heap.size 48 i0 _ 2 24 Tryd.underlying35 hi0 hz0 hz1 hz2 rfl (by omega) (.slice (some ⟨gA, 0, none⟩) 0 0) 0 [] rfl hOA vA np vc (p.flatMap stepV) rfl HNW.out.1 HPO.out.1 (HNW.out.2 _ hBA) (stepV_one p) (by unfold maxLen; omega) (by omega) hBA.size ?_
                intro v5 w5 o1 o2
                have hB5 := hBA.grown o2.out hBA.size (fun k e => by have : gA = k := by simpa [Value.ownBlock] using e
                                                                     omega)
                have hO5 : w5.ownsRow wr.heap.size 48 2 v5 np (p.flatMap stepV) := by simpa using o1.out
                refine hK.out _ _ (HSS.out _ hB5) (fun hH => ?_)
                clear hK K
                have hN := (o2.out.block b6 (Array.getElem?_eq_some_iff.1 hN).1 (by simpa [Value.ownBlock] using fun e => hbw e.symm)).trans hN
                have hBN := hB5; have hO6 := hO5
                obtain ⟨w6, rfl⟩ : ∃ W, W = w5 := ⟨_, rfl⟩
                clear o1 o2 hOA hBA hB5 hO5 hbw hgw hb6w
                -- all three ways
                all_goals
                  refine oneH (i := 18) rfl (by kernel_rfl) (fun K hK => ?_)
                  refine step_append_all _ rfl (.tmp 60) (.tmp 68) _ rfl wr.heap.size 48 i0 _ 2 24 Tryd.underlying35 hi0 hz0 hz1 hz2 rfl (by omega) v5 np (p.flatMap stepV) rfl hO6 (some ⟨b6, 0, none⟩) 1 1 [.string X.1, .int .i64 0] rfl (by intro h; cases h) rfl (by intro ad' h; injection h with h; subst h; exact World.news_of_block hN) step_one (by unfold maxLen; omega) (by omega) hBN.size ?_
                  intro v7 w7 q1 q2
                  have hB7 := hBN.grown q2.out hBN.size (fun k e => (hO6.lt k e).1)
                  have hO7 := q1.out
                  refine hK.out _ _ (HSS.out _ hB7) (fun hH => ?_)
                  clear hK K q1 q2
                  refine oneH (i := 19) rfl (by kernel_rfl) (fun K hK => ?_)
                  go_simp
                  go_at_call 52
                  refine (HVIS.out _ _ hB7 hO7).mono ?_; rintro e w8 ⟨u8, rfl, hB8, ys, ho8, hys⟩
                  have hB9 := hB7.trans (hB8.mono hB7.size)
                  refine hK.out _ _ (HSS.out _ hB9) (fun hH => ?_)
                  clear hK K
                  refine wpAnyH_done (by kernel_rfl) ?_ _
                  unfold TailPost
                  simp only [List.drop_succ_cons, List.drop_zero]
                  have hs7 := hB7.size; have hs8 := hB8.size; have hs9 := hB9.size
                  have HO8 := hide ho8; have HYS := hide hys; have HB8 := hide hB9
                  clear ho8 hys hB9 hB8 hB7 hO7 hO6 hBN hN HVIS hH
                  go_wp2_with (at_builtin; refine wpList_append_rows _ rfl (.tmp 51) (.tmp 70) _ rfl wc.heap.size 35 i1 _ 1 24 Tryd.underlying40 hi1 hy0 hy1 hy2 rfl (by omega) u5 cur.length vs rfl (own_below HOW.out HB8.out) u8 _ w7.heap.size ys rfl HO8.out (slots_one HYS.out) (by unfold maxLen; omega) (by omega) (by omega) ?_)
                  intro v9 w9 p1 p2
                  have HB9 := hide ((hB.out.trans (HB8.out.mono hb1)).grown p2.out (by omega) (fun k e => (HOW.out.lt k e).1))
                  have HC9 := hide (show ∃ cur, OutR w9 wc.heap.size v9 cur ∧ T = cur ++ lvM (leavesF m) p (MS.drop (i + 1)) from
                    ⟨_, OutR.push_all (own_below HOW.out HB8.out) (HVS.out.turn fun _ _ h => h.below HB8.out) (HYS.out.turn fun _ _ h => h.mono (by omega)) p1.out p2.out, by rw [HTX.out]; simp⟩)
                  clear p1 p2 HO8 HYS HB8
                  go_wp2_with fail
                  go_roundw
                  case rel => exact ⟨i + 1, by go_num, by omega, HB9, HC9⟩
                  case measure => simp [intOf]; omega
              · obtain rfl : i = y := by omega
                have HTF := hide (show OutR wr wc.heap.size u5 T from by
                  rw [List.drop_eq_nil_of_le (by rw [← HY.out]; exact Nat.le_refl _)] at hT
                  rw [hT]; simpa [lvM] using hO)
                have HBF := hide (HB1.out.trans (hB.out.mono HB1.out.size))
                have hs1 := HB1.out.size
                clear hI hO hT hB hRb
                go_wp2_with fail
                go_ret
                exact ⟨_, rfl, HBF.out, by
                  obtain ⟨vs, o1, o2⟩ := HTF.out
                  exact ⟨vs, own_mono o1 hs1, o2.turn fun _ _ h => h.mono hs1⟩⟩
end Go.Proofs.YtajpgmacabeeeaaDoor

/- Leaves and Paths of the reference. -/
namespace Go.Proofs.YtajpgmacabeeeaaDoor
open Go.RowKit

theorem steps_get : ∀ (p : List Sp) (i : Nat) (s : Sp), p[i]? = some s → (p.flatMap stepV)[i * 2]? = some (.string s.1) ∧ (p.flatMap stepV)[i * 2 + 1]? = some (.int .i64 s.2)
  | [], i, s, h => by simp at h
  | x :: p, 0, s, h => by
    have : x = s := by simpa using h
    subst this
    exact ⟨rfl, rfl⟩
  | x :: p, i + 1, s, h => by
    have ih := steps_get p i s (by simpa using h)
    rw [List.flatMap_cons, show (i + 1) * 2 = i * 2 + 1 + 1 by omega, show i * 2 + 1 + 1 + 1 = (i * 2 + 1) + 1 + 1 by omega]
    exact ih
theorem steps_of_path {w : World} {b : Nat} {v : Value} {p : List Sp} (h : PathR w b v p) : StepsR w w.heap.size v p := by
  rcases h.2 with ⟨rfl, h0⟩ | ⟨g, cap, cur, e, h2, hh, h3, h4, h5, h6⟩
  · have : p = [] := List.eq_nil_of_length_eq_zero h0
    subst this
    exact ⟨none, 0, rfl, Nat.le_refl _, Nat.zero_le _, fun i s h => by simp at h⟩
  · subst e
    have hc := World.ownsRow.cells h (g := g) rfl
    refine ⟨_, cap, rfl, h3, h4, fun i s hi => ?_⟩
    obtain ⟨q0, q1⟩ := steps_get p i s hi
    refine ⟨_, rfl, (Array.getElem?_eq_some_iff.1 hh).1, hc _ _ q0, ?_⟩
    rw [← add_plus _ _ 1 (by omega)]
    exact hc _ _ q1
theorem AllP.get {R : Value → List Sp → Prop} : ∀ {vs : List Value} {ls : List (List Sp)} (i : Nat) (p : List Sp), AllP R vs ls → ls[i]? = some p → ∃ v, vs[i]? = some v ∧ R v p
  | [], [], i, p, _, h => by simp at h
  | v :: vs, q :: ls, 0, p, h, hp => by
    have : q = p := by simpa using hp
    subst this
    exact ⟨v, rfl, h.1⟩
  | v :: vs, q :: ls, i + 1, p, h, hp => h.2.get i p (by simpa using hp)
/-- A slice of paths. -/
theorem out_get {w : World} {b : Nat} {u : Value} {ls : List (List Sp)} (h : OutR w b u ls) (h1 : 1 ≤ ls.length) : ∃ A c, u = .slice (some ⟨A, 0, none⟩) ls.length c ∧ ls.length ≤ c ∧ c ≤ maxLen ∧ A < w.heap.size ∧ ∀ i p, ls[i]? = some p → ∃ v, w.cell? ⟨A, i, none⟩ = some v ∧ PathR w b v p := by
  obtain ⟨vs, ho, ha⟩ := h
  rcases ho.2 with ⟨rfl, h0⟩ | ⟨g, cap, cur, e, h2, hh, h3, h4, h5, h6⟩
  · omega
  · subst e
    refine ⟨g, cap, rfl, h3, h4, (Array.getElem?_eq_some_iff.1 hh).1, fun i p hi => ?_⟩
    obtain ⟨v, hv, hP⟩ := ha.get i p hi
    refine ⟨v, ?_, hP⟩
    have := World.ownsRow.cells ho (g := g) rfl _ _ hv
    rwa [add_head] at this

/-- A slice of paths, the empty one too. -/
theorem out_read {w : World} {b : Nat} {u : Value} {ls : List (List Sp)} (h : OutR w b u ls) : ∃ A c, u = .slice A ls.length c ∧ ls.length ≤ c ∧ c ≤ maxLen ∧ ∀ i p, ls[i]? = some p → ∃ ad, A = some ad ∧ ad.block < w.heap.size ∧ ∃ v, w.cell? (ad.add (i * 1)) = some v ∧ StepsR w w.heap.size v p := by
  rcases Nat.eq_zero_or_pos ls.length with h0 | h0
  · have : ls = [] := List.eq_nil_of_length_eq_zero h0
    subst this
    obtain ⟨vs, ho, _⟩ := h
    rcases ho.2 with ⟨rfl, _⟩ | ⟨g, cap, cur, e, h2, hh, h3, h4, h5, h6⟩
    · exact ⟨none, 0, rfl, Nat.le_refl _, Nat.zero_le _, fun i p hi => by simp at hi⟩
    · subst e
      exact ⟨_, cap, rfl, h3, h4, fun i p hi => by simp at hi⟩
  · obtain ⟨A, c, e, h1, h2, h3, h4⟩ := out_get h h0
    refine ⟨_, c, e, h1, h2, fun i p hi => ⟨_, rfl, h3, ?_⟩⟩
    obtain ⟨v, hv, hp⟩ := h4 i p hi
    exact ⟨v, by rw [Nat.mul_one, add_head]; exact hv, steps_of_path hp⟩

set_option maxRecDepth 20000 in
set_option maxHeartbeats 1000000 in
theorem refLeaves_run (m : Nat) (d : Dt) (A : Option Addr) (c : Nat) (A' : Option Addr) (c' : Nat) (w : World) (hp : Parts w w.heap.size m d A c A' c') (hle : partsF m d ≤ 1000000000) :
    Calls Tryd.prog 32 #[datV d A c A' c'] w fun e w' => ∃ u, e = .returned u ∧ Below w.heap.size w w' ∧ OutR w' w.heap.size u (if checkD d = 0 then leavesF m d [] else []) := by
  have HC := hide fun w' (hB : Below w.heap.size w w') => refValidD_run m d A c A' c' w' (hp.turn (Same.of_below hB) hB.size)
  have HM := hide fun W (hB : Below w.heap.size w W) => refleaves_run m d A c A' c' (.slice none 0 0) [] W.heap.size W (hp.turn (Same.of_below hB) hB.size) (World.ownsRow_nil _ _ _ _)
      (by have := leaves_length m d []; omega) (by simp; omega)
  obtain ⟨res, hres⟩ : ∃ k, k = (if checkD d = 0 then leavesF m d [] else []) := ⟨_, rfl⟩
  rw [← hres]
  obtain ⟨z, hz⟩ : ∃ z, z = checkD d := ⟨_, rfl⟩
  rw [← hz] at HC hres
  have HRES := Lib.hid hres
  unfold LvPost at HM
  unfold datV datCs at HC HM
  unfold datV datCs
  obtain ⟨k, hk⟩ : ∃ k, k = kD d := ⟨_, rfl⟩
  obtain ⟨n, hn⟩ : ∃ k, k = nD d := ⟨_, rfl⟩
  obtain ⟨s, hs⟩ : ∃ k, k = sD d := ⟨_, rfl⟩
  obtain ⟨x, hx⟩ : ∃ k, k = (iD d).length := ⟨_, rfl⟩
  obtain ⟨y, hy⟩ : ∃ k, k = (mD d).length := ⟨_, rfl⟩
  rw [← hk, ← hn, ← hs, ← hx, ← hy] at HC HM ⊢
  clear hp hz hres hk hn hs hx hy hle
  go_enter Tryd.func32, Tryd.ntmps32
  go_upto_region 1 with fail
  obtain ⟨w1, g, e1, e2, hBL, c0, c1, c2, c3, c4, hROW⟩ := boxD w k n s (.slice A x c) (.slice A' y c')
  rw [e1, e2]
  have HBL := hide hBL; have HROW := hide hROW
  clear e1 e2 hBL hROW
  go_wp2_with fail
  refine (HC.out _ HBL.out).mono ?_; rintro e w2 ⟨rfl, hB2⟩
  have HB2 := hide (HBL.out.trans (hB2.mono HBL.out.size))
  have HR2 := hide (HROW.out.below hB2)
  clear c0 c1 c2 c3 c4 hB2 HROW HC HBL
  obtain ⟨c0, c1, c2, c3, c4⟩ := row5 HR2.out
  by_cases hz : z = 0
  · subst hz
    have HZ := hide (show res = leavesF m d [] by rw [HRES.out, if_pos rfl])
    clear HRES
    go_wp2_with fail
    refine (HM.out _ HB2.out).mono ?_; rintro e w3 ⟨u, rfl, hB3, hO3⟩
    have HB3 := hide (HB2.out.trans (hB3.mono HB2.out.size))
    have HO3 := hide (show OutR w3 w.heap.size u res by
      obtain ⟨vs, o1, o2⟩ := hO3
      rw [HZ.out]
      exact ⟨vs, own_mono o1 HB2.out.size, o2.turn fun _ _ h => h.mono HB2.out.size⟩)
    clear hB3 hO3 c0 c1 c2 c3 c4 HM HB2 HR2
    go_wp2_with fail
    go_ret
    exact ⟨_, rfl, HB3.out, HO3.out⟩
  · have HZ := hide (show res = [] by rw [HRES.out, if_neg hz])
    have g2 : (z == 0) = false := by simpa using hz
    clear HRES hz
    go_wp2_with fail
    go_ret
    exact ⟨_, rfl, HB2.out, by rw [HZ.out]; exact ⟨[], World.ownsRow_nil _ _ _ _, trivial⟩⟩

set_option maxRecDepth 20000 in
set_option maxHeartbeats 1000000 in
theorem Paths_run (v v' : Value) (ls : List (List Sp)) (b b' : Nat) (w : World) (h : OutR w b v ls) (h' : OutR w b' v' ls) :
    Calls Tryd.prog 30 #[v, v'] w fun e w' => e = .returned (.bool true) ∧ Below w.heap.size w w' := by
  obtain ⟨A, c, rfl, g1, g2, g3⟩ := out_read h
  obtain ⟨A', c', rfl, g1', g2', g3'⟩ := out_read h'
  have hm := maxLen_le g2; have hm' := maxLen_le g2'
  have H1 := Lib.hid g3; have H2 := Lib.hid g3'
  obtain ⟨N, hN⟩ : ∃ n, n = ls.length := ⟨_, rfl⟩
  rw [← hN] at g1 g1' ⊢
  have HN := Lib.hid hN
  clear h h' g2 g2' g3 g3' hN
  go_enter Tryd.func30, Tryd.ntmps30
  go_wp2_with fail
  go_loopw [5] (fun iv wr => ∃ i k : Nat, iv = .int .i64 i ∧ i ≤ N ∧ w.drewN k = wr) (fun iv _ => N - (intOf iv).toNat)
  case atStart => exact ⟨0, 0, rfl, Nat.zero_le _, rfl⟩
  case round =>
    obtain ⟨i, kk, rfl, hi, rfl⟩ := hrel
    by_cases hlt : i < N
    · have hlt' : i < ls.length := by rw [← HN.out]; exact hlt
      obtain ⟨ad, rfl, hb, u, hu, S, cs, rfl, q1, q2, q3⟩ := H1.out i _ (List.getElem?_eq_getElem hlt')
      obtain ⟨ad', rfl, hb', u', hu', S', cs', rfl, q1', q2', q3'⟩ := H2.out i _ (List.getElem?_eq_getElem hlt')
      obtain ⟨p, hp⟩ : ∃ p, p = ls[i] := ⟨_, rfl⟩
      rw [← hp] at hu hu' q1 q1' q3 q3'
      obtain ⟨M, hM⟩ : ∃ n, n = p.length := ⟨_, rfl⟩
      rw [← hM] at hu hu' q1 q1'
      have hmS := maxLen_le q2; have hmS' := maxLen_le q2'
      have Q1 := Lib.hid q3; have Q2 := Lib.hid q3'; have HMM := Lib.hid hM
      rw [Nat.mul_one] at hu hu'
      clear hp hM q2 q2' q3 q3' hb hb' hlt'
      go_wp2_with fail
      go_quiet (fail)
      go_wp2_with fail
      go_loopw [6] (fun jv wr => ∃ j k : Nat, jv = .int .i64 j ∧ j ≤ M ∧ w.drewN k = wr) (fun jv _ => M - (intOf jv).toNat)
      case atStart => exact ⟨0, kk + nq, rfl, Nat.zero_le _, by first | rfl | exact (World.drewN_drewN _ _ _).symm⟩
      case round =>
        obtain ⟨j, k2, rfl, hj, rfl⟩ := hrel
        by_cases hlj : j < M
        · have hlj' : j < p.length := by rw [← HMM.out]; exact hlj
          obtain ⟨ae, rfl, hbe, s0, s1⟩ := Q1.out j _ (List.getElem?_eq_getElem hlj')
          obtain ⟨af, rfl, hbf, r0, r1⟩ := Q2.out j _ (List.getElem?_eq_getElem hlj')
          obtain ⟨X, hX⟩ : ∃ X, X = p[j] := ⟨_, rfl⟩
          rw [← hX] at s0 s1 r0 r1
          clear hX hlj' hbe hbf
          go_wp2_with fail
          go_quiet (fail)
          go_wp2_with fail
          go_roundw
          case rel => exact ⟨j + 1, k2 + nq, by go_num, by omega, by first | rfl | exact (World.drewN_drewN _ _ _).symm⟩
          case measure => simp [intOf]; omega
        · go_wp2_with fail
          go_roundw
          case rel => exact ⟨i + 1, k2, by go_num, by omega, rfl⟩
          case measure => simp [intOf]; omega
    · obtain rfl : i = N := by omega
      go_wp2_with fail
      go_ret
      exact ⟨rfl, below_drewN (Below.refl _ _) _⟩
end Go.Proofs.YtajpgmacabeeeaaDoor
