/- digraph.Topo and slices.Index: the walks. -/
import Derived.Test.YtiebfnchimfjiaaRefTopo
import Derived.Test.YtiebfnchimfjiaaSet
namespace Go.Proofs.Ytiebfnchimfjiaa
open Go.RowKit Go.Deep

def FirstIx (xs : List Int) (x r : Int) : Prop :=
  (r = -1 ∧ ∀ (i : Nat) y, xs[i]? = some y → y ≠ x) ∨ ∃ i : Nat, r = i ∧ xs[i]? = some x ∧ ∀ (j : Nat) y, j < i → xs[j]? = some y → y ≠ x
def IxPost (xs : List Int) (x : Int) (w : World) (e : Ending) (w' : World) : Prop := ∃ r, e = .returned (.int .i64 r) ∧ FirstIx xs x r ∧ w = w'

set_option maxHeartbeats 400000 in
theorem Index_any (v : Value) (xs : List Int) (x : Int) (w : World) (B : Nat) (hx : Ints w B v xs) :
    Calls Try.prog 34 #[v, .int .i64 x] w (IxPost xs x w) := by
  obtain ⟨X, d, rfl, hd1, hd2, hels⟩ := hx.parts
  have hm2 := maxLen_le hd2
  have HE := Lib.hid hels
  clear hels hx hd2
  go_enter Try.func34, Try.ntmps34
  go_wp2
  go_loop [8] (fun i => ∃ k : Nat, k ≤ xs.length ∧ i = .int .i64 k ∧ Hid (∀ (j : Nat) y, j < k → xs[j]? = some y → y ≠ x)) (fun i => xs.length - (intOf i).toNat)
  case atStart => exact ⟨0, Nat.zero_le _, rfl, fun j y hj => absurd hj (by omega)⟩
  case round =>
    obtain ⟨k, hk, rfl, hI⟩ := hrel
    by_cases hlt : k < xs.length
    · obtain ⟨xd, rfl, hb', hc'⟩ := HE.out k _ (List.getElem?_eq_getElem hlt)
      by_cases he : x = xs[k]
      · have hne : (x == xs[k]) = true := by simpa using he
        have HX := Lib.hid he; clear he
        go_wp2
        go_ret
        exact ⟨_, rfl, .inr ⟨k, rfl, by rw [List.getElem?_eq_getElem hlt, ← HX.out], hI.out⟩, rfl⟩
      · have hne : (x == xs[k]) = false := by simpa using he
        have HX := Lib.hid he; clear he
        go_wp2
        go_round
        case rel =>
          refine ⟨k + 1, by omega, by go_num, fun j y hj hy => ?_⟩
          rcases Nat.lt_or_ge j k with h | h
          · exact hI.out j y h hy
          · obtain rfl : j = k := by omega
            rw [List.getElem?_eq_getElem hlt] at hy; injection hy with hy
            exact fun e => HX.out (by rw [hy, e])
        case measure => simp [intOf]; omega
    · go_wp2
      go_ret
      exact ⟨_, rfl, .inl ⟨rfl, fun i y hy => hI.out i y (by have := (List.getElem?_eq_some_iff.1 hy).1; omega) hy⟩, rfl⟩

theorem index_left {g : List (List Int)} {out : List Nat} {r : Int} (h : FirstIx ((List.range g.length).map (G.leftL g out)) 0 r) :
    (r = -1 ∧ G.nxt g out = none) ∨ ∃ b : Nat, r = b ∧ b < g.length ∧ G.nxt g out = some b := by
  rcases h with ⟨h1, h2⟩ | ⟨i, h1, h2, h3⟩
  · refine .inl ⟨h1, G.find_none fun a ha => ?_⟩
    cases e : G.okP g out a with
    | false => rfl
    | true => exact absurd (G.left_ok.2 e) (h2 a _ (by simp [ha]))
  · have hi : i < g.length := by have := (List.getElem?_eq_some_iff.1 h2).1; simpa using this
    simp [hi] at h2
    refine .inr ⟨i, h1, hi, G.find_first hi (G.left_ok.1 h2) fun a ha => ?_⟩
    cases e : G.okP g out a with
    | false => rfl
    | true => exact absurd (G.left_ok.2 e) (h3 a _ ha (by rw [List.getElem?_map, List.getElem?_range (by omega)]; rfl))

theorem zero4 (w : World) : (zeroValue 4).run Try.prog w = .ok (.bool false) w := by kernel_rfl
/-- What is in the set after j successors. -/
def seenS (n : Nat) (l : List Int) (j : Nat) (y : Int) : Bool := decide (0 ≤ y ∧ y < n) && decide (y ∈ l.take j)
def sawP (l : List Int) (j : Nat) (b : Nat) : Bool := decide ((b : Int) ∈ l.take j)

set_option maxHeartbeats 4000000 in
theorem Topo_any (v : Value) (g : List (List Int)) (w : World) (hg : Rows2 w w.heap.size v g) (hn : g.length ≤ 1000000) :
    Calls Try.prog 25 #[v] w (TopoPost w g) := by
  have hRv := Reverse_any v g w hg hn
  obtain ⟨A, c, rfl, hc1, hc2, hrows⟩ := hg.parts
  have hm1 := maxLen_le hc2
  obtain ⟨n, e⟩ : ∃ n, g.length = n := ⟨_, rfl⟩
  have HN := Lib.hid e
  rw [e] at hn hc1 hg hRv ⊢
  have HG := Lib.hid hrows
  have CRV := hide hRv
  clear e hrows hg hc2 hRv
  have hmk := fun W => run_make_row' (P := Try.prog) 23 3 (.int .i64 0) 8 Try.underlying23 info3 rfl .i64 .i64 n (by omega) (by omega) W
  have hmm := @run_makeMap Try.prog
  obtain ⟨i0, hi0, hz0, hz1, hz2⟩ := info_parts info3
  go_enter Try.func25, Try.ntmps25
  go_wp2_with fail
  refine (unhide CRV).mono ?_
  rintro e w1 ⟨back, rfl, hb1, hback⟩
  obtain ⟨BA, bc, rfl, hbc1, hbc2, hbr⟩ := hback.parts
  have HB1 := Lib.hid hb1; have HBK := Lib.hid hbr
  rw [G.rev_len, HN.out] at hbc1 ⊢
  have hmb := maxLen_le hbc2
  clear hb1 hback hbc2 CRV hbr
  go_wp2_with fail
  obtain ⟨w2, hw2⟩ : ∃ w2, w2 = w1.alloc (.cells (madeCells #[.int .i64 0] n) 3) := ⟨_, rfl⟩
  have hS : RowI w2 w1.heap.size n (fun b => if b < 0 then G.leftL g [] b else 0) ∧ Below w1.heap.size w1 w2 := by
    rw [hw2]; exact ⟨RowF.made w1 3 (.int .i64 0) n, (Below.refl _ _).alloc (Nat.le_refl _) _⟩
  have HS := Lib.hid hS
  rw [← hw2]
  clear hS hw2 hmk
  go_loopw [19] (fun i wr => ∃ k : Nat, k ≤ n ∧ i = .int .i64 k ∧ Hid (RowI wr w1.heap.size n (fun b => if b < k then G.leftL g [] b else 0) ∧ Below w1.heap.size w1 wr)) (fun i _ => n - (intOf i).toNat)
  case atStart => exact ⟨0, Nat.zero_le _, rfl, HS.out⟩
  case round =>
    clear HS
    obtain ⟨k, hk, rfl, hI⟩ := hrel
    obtain ⟨hR, hB⟩ := hI.out
    by_cases hlt : k < n
    · have hget := RowF.get hR hlt
      have hfr := RowF.free hR k
      have hrk : (G.rev g)[k]? = some (G.preds g k g.length) := by
        unfold G.rev; rw [List.getElem?_map, List.getElem?_range (by have := HN.out; omega)]; rfl
      obtain ⟨bd, bu, rfl, hbb, hbcell, hbi⟩ := HBK.out k _ hrk
      obtain ⟨Y, yc, rfl, hy1, hy2, _⟩ := hbi.parts
      have hbcell' : wr.cell? (bd.add k) = some (.slice Y (G.preds g k g.length).length yc) := ((Same.of_below hB).cell (by rw [block_of_add]; exact hbb)).trans hbcell
      have hlen : ((G.preds g k g.length).length : Int) = G.leftL g [] k := by
        unfold G.leftL; rw [if_neg (by simp), G.preds_cn]; simp
      have hmy := maxLen_le hy2
      have HLEN := Lib.hid hlen
      obtain ⟨L, hL⟩ : ∃ L, (G.preds g k g.length).length = L := ⟨_, rfl⟩
      rw [hL] at hbcell' HLEN hy1
      have HR := Lib.hid hR; have HB := Lib.hid hB
      clear hR hB hI hL hbcell hbi hrk hlen hy2
      go_wp2_with fail
      go_roundw
      case rel => exact ⟨k + 1, by omega, by go_num, HR.out.store k L (fun b _ => by by_cases e : b = k; · subst e; simp [HLEN.out]
                                                                                     · simp [e]; congr 1; simp; omega), HB.out.setCell (Nat.le_refl _) _⟩
      case measure => simp [intOf]; omega
    · obtain rfl : k = n := by omega
      have HR := Lib.hid (hR.congr (o' := G.leftL g []) (fun b hb => by simp [hb])); have HB := Lib.hid hB
      clear hR hB hI
      go_wp2_with fail
      go_loopw [7, 33] (fun v i wr => ∃ (A : Option Addr) (q c : Nat), v = .slice A q c ∧ i = .int .i64 q ∧ q ≤ k ∧ q ≤ c ∧ c ≤ 9223372036854775807 ∧
        Hid (∃ out, q = out.length ∧ wr.ownsRow (w1.heap.size + 1) 3 1 (.slice A q c) q ((G.ints out).map (.int .i64)) ∧ Below w1.heap.size w1 wr ∧ G.Ord g out ∧ RowI wr w1.heap.size k (G.leftL g out))) (fun _ i _ => k - (intOf i).toNat)
      case atStart => exact ⟨none, 0, 0, rfl, rfl, Nat.zero_le _, Nat.le_refl _, by omega, [], rfl, World.ownsRow_nil _ _ _ _, HB.out, G.Ord.start g, HR.out⟩
      case round =>
        clear HR HB
        obtain ⟨A1, q, c1, rfl, rfl, hqk, hqc, hcm, hI⟩ := hrel
        obtain ⟨out, hlo, hown, hB, hO, hR⟩ := hI.out
        have HLO := Lib.hid hlo; have HOW := Lib.hid hown; have HB := Lib.hid hB; have HO := Lib.hid hO; have HR := Lib.hid hR
        have hsz := RowF.lt hR
        clear hlo hown hB hO hR hI
        by_cases hlt : q < k
        · have con := Index_any (.slice (some ⟨w1.heap.size, 0, none⟩) k k) ((List.range k).map (G.leftL g out)) 0 wr wr.heap.size (HR.out.sl (by unfold maxLen; omega))
          have CON := hide con
          clear con
          go_wp2_with fail
          refine (unhide CON).mono ?_
          rintro e w3 ⟨r, rfl, hr, rfl⟩
          have hr' := index_left (g := g) (out := out) (r := r) (by rw [HN.out]; exact hr)
          clear hr CON
          rcases hr' with ⟨rfl, hnx⟩ | ⟨b, rfl, hbn, hnx⟩
          · have HNX := Lib.hid hnx
            clear hnx
            go_wp2_with fail
            go_ret2
            have ht := HO.out.stuck (by have := HN.out; have := HLO.out; omega) HNX.out
            refine ⟨.slice none 0 0, ?_, HB1.out.trans (HB.out.mono HB1.out.size), ?_⟩
            · rw [ht]; rfl
            · rw [ht]; exact Sl.nil
          · have HNX := Lib.hid hnx
            have hb0 : ¬ ((b : Int) < 0) := by omega
            have hbk : b < k := by have := HN.out; omega
            clear hnx hbn
            obtain ⟨hst1, hst2, hst3⟩ := HO.out.step (by have := HN.out; have := HLO.out; omega) HNX.out
            have HST := Lib.hid hst1; have HOK := Lib.hid hst2
            clear hst1 hst2 hst3
            have hre := row_eq (g := g) (a := b) (by have := HN.out; omega)
            obtain ⟨ad, u, rfl, hgb, hcell, hV⟩ := HG.out b _ hre
            obtain ⟨X, dd, rfl, hd1, hd2, hels⟩ := hV.parts
            have hmx := maxLen_le hd2
            have HX := Lib.hid hels; have HC := Lib.hid hcell
            obtain ⟨l, hl⟩ : ∃ l, l = G.row g b := ⟨_, rfl⟩
            rw [← hl] at HC hd1 HX
            have HL := Lib.hid hl
            clear hl hre hels hV hd2 hcell
            go_wp2_with (first
              | (at_builtin; refine wpList_append_lies _ rfl (.tmp 39) (.tmp 41) _ rfl (w1.heap.size + 1) 3 i0 _ 1 8 Try.underlying23 hi0 hz0 hz1 hz2 rfl (by omega) (.slice A1 q c1) q _ rfl (HOW.out.alloc _) ⟨wr.heap.size, 0, none⟩ 1 1 [.int .i64 b] rfl rfl (cell_one_new _ _ _) (fun u hu => by simp at hu; subst hu; rfl) (by omega) (by unfold maxLen; omega) (by omega) (by simp; omega) (wr.heap.size + 1) (by simp) ?_))
            intro g2 cap w4 h1 h2 h3 h4
            have hcap := (Sl.of_own h1)
            have hcap1 : q + 1 ≤ cap ∧ cap ≤ 9223372036854775807 := by
              obtain ⟨_, _, e, k1, k2, _⟩ := hcap
              injection e with _ e2 e3
              subst e3
              have := h1.1
              exact ⟨by omega, maxLen_le k2⟩
            have hB4 : Below w1.heap.size w1 w4 := (HB.out.alloc (by omega) _).grown h2 (by simp; omega) (fun q hq => by have := (HOW.out.lt q hq).1; omega)
            have hR4 : RowI w4 w1.heap.size k (G.leftL g out) := Row.grown (Row.alloc HR.out _) h2 (fun e => by have := (HOW.out.lt _ e.symm).1; omega)
            have hget := RowF.get hR4 hbk
            have hfr := RowF.free hR4 b
            have hsz4 := RowF.lt hR4
            obtain ⟨w5, hw5⟩ : ∃ w5, w5 = (w4.setCell ⟨w1.heap.size, b, none⟩ (.int .i64 (-1))).alloc (.map #[] 0) := ⟨_, rfl⟩
            have hS5 : RowI w5 w1.heap.size k (G.leftM g out b (sawP l 0)) ∧ Below w1.heap.size w1 w5 ∧ IsSet Try.prog 3 4 w5 w4.heap.size 0 (seenS k l 0) ∧
                w5.ownsRow (w1.heap.size + 1) 3 1 (.slice (some ⟨g2, 0, none⟩) (q + 1) cap) (q + 1) ((G.ints (out ++ [b])).map (.int .i64)) ∧ g2 < w4.heap.size ∧ w1.heap.size < w4.heap.size := by
              rw [hw5]
              have e5 : (w4.setCell ⟨w1.heap.size, b, none⟩ (.int .i64 (-1))).heap.size = w4.heap.size := by simp [World.setCell]
              refine ⟨?_, (hB4.setCell (Nat.le_refl _) _).alloc (by rw [e5]; omega) _, ?_, ?_, h4, hsz4⟩
              · exact Row.alloc (hR4.store b (-1) (fun x _ => G.left_start (fun _ => by simp [sawP]) x)) _
              · have := IsSet.made (P := Try.prog) (k := 3) (e := 4) (w4.setCell ⟨w1.heap.size, b, none⟩ (.int .i64 (-1)))
                rw [e5] at this
                have e6 : (fun _ : Int => false) = seenS k l 0 := by funext y; simp [seenS]
                rw [e6] at this; exact this
              · have := (ownsRow_setCell_below h1 (a := ⟨w1.heap.size, b, none⟩) (by simp) (.int .i64 (-1))).alloc (.map #[] 0)
                simpa [G.ints] using this
            have HS5 := Lib.hid hS5
            have HW5 := Lib.hid hw5
            have hc5 : (w4.setCell ⟨w1.heap.size, b, none⟩ (.int .i64 (-1))).alloc (.map #[] 0) = w5 := hw5.symm
            have hcell5 : w5.cell? (ad.add b) = some (.slice X l.length dd) := ((Same.trans (Same.of_below HB1.out) ((Same.of_below hS5.2.1).mono HB1.out.size)).cell (by rw [block_of_add]; exact hgb)).trans HC.out
            have HC5 := Lib.hid hc5
            clear h1 h2 h3 h4 hcap hB4 hR4 hS5 hw5 hc5
            go_upto_region 17 with (fail)
            rw [HC5.out]
            clear HC5 HW5 hget hfr
            go_wp2_with fail
            have hg24 := HS5.out.2.2.2.2.1
            have hR4 := HS5.out.2.2.2.2.2
            obtain ⟨bm, hbm⟩ : ∃ bm, w4.heap.size = bm := ⟨_, rfl⟩
            rw [hbm] at hg24 hR4 HS5 ⊢
            clear hcell5 hsz4 hbm
            go_loopw [52] (fun i wr => ∃ j : Nat, j ≤ l.length ∧ i = .int .i64 j ∧ Hid (RowI wr w1.heap.size k (G.leftM g out b (sawP l j)) ∧ Below w1.heap.size w1 wr ∧ IsSet Try.prog 3 4 wr bm j (seenS k l j) ∧
              wr.ownsRow (w1.heap.size + 1) 3 1 (.slice (some ⟨g2, 0, none⟩) (q + 1) cap) (q + 1) ((G.ints (out ++ [b])).map (.int .i64)))) (fun i _ => l.length - (intOf i).toNat)
            case atStart => exact ⟨0, Nat.zero_le _, rfl, HS5.out.1, HS5.out.2.1, HS5.out.2.2.1, HS5.out.2.2.2.1⟩
            case round =>
              clear HS5
              obtain ⟨j, hj, rfl, hI⟩ := hrel
              obtain ⟨hR, hB, hM, hown⟩ := hI.out
              clear hI
              by_cases hjl : j < l.length
              · obtain ⟨xd, rfl, hxb, hxc⟩ := HX.out j _ (List.getElem?_eq_getElem hjl)
                have hxc' : wr.cell? (xd.add j) = some (.int .i64 l[j]) := ((Same.trans (Same.of_below HB1.out) ((Same.of_below hB).mono HB1.out.size)).cell (by rw [block_of_add]; exact hxb)).trans hxc
                have hts : l.take (j + 1) = l.take j ++ [l[j]] := by rw [List.take_succ_eq_append_getElem hjl]
                have hmem : l[j] ∈ G.row g b := by rw [← HL.out]; exact List.getElem_mem hjl
                obtain ⟨x, hx⟩ : ∃ x, l[j] = x := ⟨_, rfl⟩
                rw [hx] at hxc' hts hmem
                have HTS := Lib.hid hts; have HMEM := Lib.hid hmem
                clear hx hxc hts hmem
                by_cases hin : 0 ≤ x ∧ x < k
                · obtain ⟨y, rfl⟩ := ofNat_of hin.1
                  have hyk : y < k := by omega
                  have hlook := hM.look (t := 43) Try.underlying43 Try.underlying3 Try.underlying4 (zero4 wr) (x := (y : Int)) (by omega)
                  have HIN := Lib.hid hin
                  have hseen : seenS k l j y = decide ((y : Int) ∈ l.take j) := by unfold seenS; simp [hyk]
                  rw [hseen] at hlook
                  cases hy : decide ((y : Int) ∈ l.take j) with
                  | true =>
                    rw [hy] at hlook
                    have HY := Lib.hid hy
                    have HJ := Lib.hid (And.intro hR (And.intro hB (And.intro hM hown)))
                    clear hin hseen hy hR hB hM hown
                    go_wp2_with (go_at_call 31; refine (inside_yes _ _ _ _ _ HIN.out).mono ?_; rintro e w' ⟨rfl, rfl⟩)
                    go_roundw
                    case rel =>
                      obtain ⟨hR, hB, hM, hown⟩ := HJ.out
                      have hmy : (y : Int) ∈ l.take j := by simpa using HY.out
                      have e1 : sawP l (j + 1) = sawP l j := by
                        funext z; unfold sawP; rw [HTS.out]
                        by_cases e : z = y
                        · subst e; simp [hmy]
                        · have : (z : Int) ≠ y := by omega
                          simp [this]
                      have e2 : seenS k l (j + 1) = seenS k l j := by
                        funext z; unfold seenS; rw [HTS.out]
                        by_cases e : z = y
                        · subst e; simp [hmy]
                        · simp [e]
                      exact ⟨j + 1, by omega, by go_num, by rw [e1]; exact hR, hB, by rw [e2]; exact hM.mono (by omega), hown⟩
                    case measure => simp [intOf]; omega
                  | false =>
                    rw [hy] at hlook
                    have HY := Lib.hid hy
                    obtain ⟨w6, hput, hset6, hgr6⟩ := hM.put (t := 43) Try.underlying43 Try.underlying3 Try.underlying4 (x := (y : Int)) (by have := List.length_take_le j l; unfold maxLen; omega) (by omega)
                    have hR6 : RowI w6 w1.heap.size k (G.leftM g out b (sawP l j)) := Row.grown hR hgr6 (fun e => by injection e with e; omega)
                    have hB6 : Below w1.heap.size w1 w6 := hB.trans ((Below.refl _ _).grown hgr6 (by have := RowF.lt hR; omega) (fun z hz => by injection hz with hz; omega))
                    have hown6 := hown.kept hgr6 (.inr (fun e => by simp [Value.ownBlock] at e; omega))
                    have hgy := RowF.get hR6 hyk
                    have hfy := RowF.free hR6 y
                    have hyo : y ∉ out ++ [b] := fun e => by
                      have h1 := G.no_succ HO.out HOK.out (by have := HN.out; omega) e
                      have h2 := HMEM.out
                      unfold G.ed at h1; simp at h1; exact h1 h2
                    have hval : G.leftM g out b (sawP l j) y = (G.cn (fun a => G.ed g a y && !(decide (a ∈ out))) g.length : Nat) := by
                      unfold G.leftM; rw [if_neg hyo]; unfold sawP; rw [HY.out]; simp
                    obtain ⟨z, hz⟩ : ∃ z, G.cn (fun a => G.ed g a y && !(decide (a ∈ out))) g.length = z := ⟨_, rfl⟩
                    have hzn : z ≤ 1000000 := by have := G.cn_le (fun a => G.ed g a y && !(decide (a ∈ out))) g.length; have := HN.out; omega
                    rw [hval, hz] at hgy
                    have HZ := Lib.hid hz; have HYO := Lib.hid hyo
                    have HJ := Lib.hid (And.intro hR6 (And.intro hB6 (And.intro hset6 hown6)))
                    clear hin hseen hy hR hB hM hown hval hz hyo hR6 hB6 hset6 hown6 hgr6
                    go_wp2_with (go_at_call 31; refine (inside_yes _ _ _ _ _ HIN.out).mono ?_; rintro e w' ⟨rfl, rfl⟩)
                    go_roundw
                    case rel =>
                      obtain ⟨hR, hB, hM, hown⟩ := HJ.out
                      have e2 : (fun y' => decide (y' = (y : Int)) || seenS k l j y') = seenS k l (j + 1) := by
                        funext z; unfold seenS; rw [HTS.out]
                        by_cases e : z = y
                        · subst e; simp [hyk]
                        · simp [e]
                      rw [e2] at hM
                      refine ⟨j + 1, by omega, by go_num, hR.store y ((z : Int) - 1) (fun c hc => ?_), hB.setCell (Nat.le_refl _) _, hM.far (by simp; omega) _, ownsRow_setCell_below hown (by simp) _⟩
                      by_cases e : c = y
                      · subst e; rw [if_pos rfl]
                        unfold G.leftM; rw [if_neg HYO.out, HZ.out]; unfold sawP; rw [HTS.out]; simp
                      · rw [if_neg e]
                        have e1 : sawP l (j + 1) c = sawP l j c := by
                          unfold sawP; rw [HTS.out]
                          have : (c : Int) ≠ y := by omega
                          simp [this]
                        unfold G.leftM; rw [e1]
                    case measure => simp [intOf]; omega
                · have HIN := Lib.hid hin
                  have HJ := Lib.hid (And.intro hR (And.intro hB (And.intro hM hown)))
                  clear hin hR hB hM hown
                  go_wp2_with (go_at_call 31; refine (inside_no _ _ _ _ _ HIN.out).mono ?_; rintro e w' ⟨rfl, rfl⟩)
                  go_roundw
                  case rel =>
                    obtain ⟨hR, hB, hM, hown⟩ := HJ.out
                    have e2 : seenS k l (j + 1) = seenS k l j := by
                      funext z; unfold seenS; rw [HTS.out]
                      by_cases e : z = x
                      · subst e; have := HIN.out; simp [this]
                      · simp [e]
                    refine ⟨j + 1, by omega, by go_num, hR.congr (fun z hz => ?_), hB, by rw [e2]; exact hM.mono (by omega), hown⟩
                    have e1 : sawP l (j + 1) z = sawP l j z := by
                      unfold sawP; rw [HTS.out]
                      have : (z : Int) ≠ x := fun e => HIN.out (by omega)
                      simp [this]
                    unfold G.leftM; rw [e1]
                  case measure => simp [intOf]; omega
              · have HJ := Lib.hid (And.intro hR (And.intro hB (And.intro hM hown)))
                clear hR hB hM hown
                go_wp2_with fail
                go_roundw
                case rel =>
                  obtain ⟨hR, hB, _, hown⟩ := HJ.out
                  refine ⟨some ⟨g2, 0, none⟩, q + 1, cap, rfl, by go_num, by omega, hcap1.1, hcap1.2, out ++ [b], by simp [HLO.out], hown, hB, HST.out, hR.congr (fun c hc => ?_)⟩
                  refine G.left_next (by have := HN.out; omega) ?_ (fun c hc => ?_) c (by have := HN.out; omega)
                  · have h1 := HOK.out
                    unfold G.okP at h1; rw [Bool.and_eq_true] at h1; simpa using h1.1
                  · unfold sawP G.ed; rw [List.take_of_length_le (by omega), HL.out]
                case measure => simp [intOf]; omega
        · go_wp2_with fail
          go_ret2
          have ht := HO.out.full (by have := HN.out; have := HLO.out; omega)
          refine ⟨.slice A1 q c1, ?_, HB1.out.trans (HB.out.mono HB1.out.size), ?_⟩
          · rw [ht]; rfl
          · rw [ht]; exact Sl.of_own HOW.out
end Go.Proofs.Ytiebfnchimfjiaa
