/- Diff: the walk. -/
import Derived.Test.YtbfgnafpianliaaDp
import Derived.Deep.CutBlock
import Derived.Deep.CutRange
namespace Go.Proofs.Ytbfgnafpianliaa
open Go.RowKit

theorem toList_nil {T : ByteArray} (h : T.toList = []) : T = ByteArray.empty := by
  rw [Lib.toList_data] at h
  exact ByteArray.ext (by rw [← Array.toList_inj, h]; rfl)

/-- What Diff leaves. -/
def DiffPost (w : World) (es : List Ed) (e : Ending) (w' : World) : Prop := ∃ u, e = .returned u ∧ Below w.heap.size w w' ∧ Eds w' w'.heap.size u es

theorem rev_at (x : List ByteArray) (st k : Nat) (h : k < x.length - st) : (x.drop st).reverse.drop k = x.getD (x.length - 1 - k) ByteArray.empty :: (x.drop st).reverse.drop (k + 1) := by
  have hl : k < (x.drop st).reverse.length := by rw [List.length_reverse, List.length_drop]; exact h
  rw [List.drop_eq_getElem_cons hl]
  congr 1
  rw [List.getElem_reverse, List.getElem_drop, List.getD_eq_getElem?_getD, List.getElem?_eq_getElem (by omega), Option.getD_some]
  congr 1
  rw [List.length_drop]
  omega

set_option maxHeartbeats 4000000 in
set_option maxRecDepth 100000 in
theorem Diff_run (s t : ByteArray) (w : World) (hs : s.size ≤ 1000000000) (ht : t.size ≤ 1000000000)
    (hx1 : (linesP s).length ≤ 100000) (hy1 : (linesP t).length ≤ 100000) (hx2 : totalB (linesP s) ≤ 1000000000) (hy2 : totalB (linesP t) ≤ 1000000000) :
    Calls Try.prog 24 #[.string s, .string t] w (DiffPost w (diffP s t)) := by
  have HL1 := hide (Lines_run s w hs)
  have HL2 := hide fun w => Lines_run t w ht
  obtain ⟨x, hx⟩ : ∃ x, x = linesP s := ⟨_, rfl⟩
  obtain ⟨y, hy⟩ : ∃ x, x = linesP t := ⟨_, rfl⟩
  have HX := Lib.hid hx; have HY := Lib.hid hy
  rw [← hx] at hx1 hx2
  rw [← hy] at hy1 hy2
  have HRES : Hid (diffP s t = diffL x y) := hide (by rw [diffP, hx, hy])
  obtain ⟨res, hres⟩ : ∃ r, r = diffP s t := ⟨_, rfl⟩
  rw [← hres]
  have HR : Hid (res = diffL x y) := hide (hres.trans HRES.out)
  clear hx hy hres HRES
  go_enter Try.func24, Try.ntmps24
  go_wp2_with fail
  refine (unhide HL1).mono ?_; rintro e w1 ⟨u1, rfl, hB1, hS1⟩
  rw [← HX.out] at hS1
  have HB1 := hide hB1; have HS1 := hide hS1
  clear hB1 hS1 HL1
  go_wp2_with fail
  refine (unhide HL2 w1).mono ?_; rintro e w2 ⟨u2, rfl, hB2, hS2⟩
  rw [← HY.out] at hS2
  have HS1 := hide ((HS1.out.same (Same.of_below hB2)).more hB2.size)
  have HB2 := hide (HB1.out.trans (hB2.mono HB1.out.size))
  have HS2 := hide hS2
  clear hS2 hB2 HB1 HL2
  obtain ⟨X, cx, rfl, hcx1, hcx2, hX⟩ := HS1.out.parts
  obtain ⟨Y, cy, rfl, hcy1, hcy2, hY⟩ := HS2.out.parts
  have hcx2 := maxLen_le hcx2
  have hcy2 := maxLen_le hcy2
  have HXC := hide hX; have HYC := hide hY
  obtain ⟨lx, hlx⟩ : ∃ n, n = x.length := ⟨_, rfl⟩
  obtain ⟨ly, hly⟩ : ∃ n, n = y.length := ⟨_, rfl⟩
  rw [← hlx] at hcx1 hx1 HS1 ⊢
  rw [← hly] at hcy1 hy1 HS2 ⊢
  have HLX := Lib.hid hlx; have HLY := Lib.hid hly
  clear hX hY hlx hly
  go_upto_block 0 with fail
  obtain ⟨mn, hmn⟩ : ∃ n, n = min lx ly := ⟨_, rfl⟩
  have hmin : (if ly < lx then (ly : Int) else (lx : Int)) = (mn : Int) := by split <;> omega
  have HMN := Lib.hid hmn
  clear hmn
  go_cut [7] from 26 to 45 (fun v wc => v = .int .i64 (startP x y : Int) ∧ ∃ m, wc = w2.drewN m)
  case first =>
    go_wp2_with fail
    go_loopw [7] (fun v wr => ∃ k m : Nat, v = .int .i64 k ∧ wr = w2.drewN m ∧ k ≤ mn ∧ Hid (startP x y = k + preLen (x.drop k) (y.drop k))) (fun v _ => mn - (intOf v).toNat)
    case atStart => exact ⟨0, 0, rfl, by rfl, by omega, hide (by simp [startP])⟩
    case round =>
      obtain ⟨k, m, rfl, rfl, hk, hI⟩ := hrel
      have hlx := HLX.out; have hly := HLY.out; have hmm := HMN.out
      by_cases hlt : k < mn
      · have g0 : decide ((k : Int) < (mn : Int)) = true := by simpa using hlt
        have hlt1 : k < x.length := by omega
        have hlt2 : k < y.length := by omega
        have hlt3 : k < lx := by omega
        have hlt4 : k < ly := by omega
        obtain ⟨ad, rfl, hb, hc⟩ := HXC.out k _ (List.getElem?_eq_getElem hlt1)
        obtain ⟨ad', rfl, hb', hc'⟩ := HYC.out k _ (List.getElem?_eq_getElem hlt2)
        have hq := hI.out
        rw [drop_at hlt1, drop_at hlt2, preLen] at hq
        clear hI hlx hly hmm
        by_cases he : x[k] = y[k]
        · have g1 : (x[k].toList == y[k].toList) = true := bytes_eq he
          rw [if_pos he] at hq
          have HQ := Lib.hid hq; clear hq he
          go_wp2_with fail
          go_quiet (fail)
          go_wp2_with fail
          go_roundw
          case rel => exact ⟨k + 1, _, by go_num, rfl, by omega, hide (by rw [HQ.out]; omega)⟩
          case measure => simp [intOf]; omega
        · have g1 : (x[k].toList == y[k].toList) = false := bytes_ne he
          rw [if_neg he] at hq
          have HQ := Lib.hid hq; clear hq he
          go_wp2_with fail
          go_quiet (fail)
          go_wp2_with fail
          go_meet
          case rel => exact ⟨by rw [HQ.out]; rfl, by first | exact drew2 _ _ _ | exact ⟨_, rfl⟩⟩
      · have g0 : decide ((k : Int) < (mn : Int)) = false := by simpa using hlt
        have hq : startP x y = k := by
          rw [hI.out, preLen_nil _ _ (by rcases Nat.le_total lx ly with h | h
                                         · left; exact List.drop_eq_nil_of_le (by omega)
                                         · right; exact List.drop_eq_nil_of_le (by omega))]
          omega
        have HQ := Lib.hid hq
        clear hq hI hlx hly hmm
        go_wp2_with fail
        go_quiet (fail)
        go_wp2_with fail
        go_meet
        case rel => exact ⟨by rw [HQ.out], by first | exact drew2 _ _ _ | exact ⟨_, rfl⟩⟩
  case rest =>
    obtain ⟨rfl, m1, rfl⟩ := hcut
    obtain ⟨st, hst⟩ : ∃ n, n = startP x y := ⟨_, rfl⟩
    have HST := Lib.hid hst
    have hstn : st ≤ mn := by
      have := preLen_le x y
      have := HLX.out; have := HLY.out; have := HMN.out
      rw [hst]; unfold startP; omega
    rw [← hst]
    clear hst
    have w53 : IntKind.i64.wrap ((mn : Int) - st) = ((mn - st : Nat) : Int) := by rw [IntWalk.i64_in _ (by omega)]; omega
    obtain ⟨bd, hbd⟩ : ∃ n, n = mn - st := ⟨_, rfl⟩
    rw [← hbd] at w53
    go_upto_block 2 with fail
    go_cut [8] from 46 to 75 (fun v wc => v = .int .i64 (endP x y : Int) ∧ ∃ m, wc = w2.drewN m)
    case first =>
      have HBD := Lib.hid hbd
      clear hbd
      go_wp2_with fail
      go_loopw [8] (fun v wr => ∃ k m : Nat, v = .int .i64 k ∧ wr = w2.drewN m ∧ k ≤ bd ∧ Hid (endP x y = k + preLen ((x.drop st).reverse.drop k) ((y.drop st).reverse.drop k))) (fun v _ => bd - (intOf v).toNat)
      case atStart => exact ⟨0, m1, rfl, by rfl, by omega, hide (by rw [endP, ← HST.out]; simp)⟩
      case round =>
        obtain ⟨k, m, rfl, rfl, hk, hI⟩ := hrel
        have hlx := HLX.out; have hly := HLY.out; have hmm := HMN.out; have hbd := HBD.out
        by_cases hlt : k < bd
        · have g0 : decide ((k : Int) < (bd : Int)) = true := by simpa using hlt
          obtain ⟨q1, hq1⟩ : ∃ q, q = lx - 1 - k := ⟨_, rfl⟩
          obtain ⟨q2, hq2⟩ : ∃ q, q = ly - 1 - k := ⟨_, rfl⟩
          have hl1 : q1 < x.length := by omega
          have hl2 : q2 < y.length := by omega
          have hl3 : q1 < lx := by omega
          have hl4 : q2 < ly := by omega
          obtain ⟨ad, rfl, hb, hc⟩ := HXC.out q1 _ (List.getElem?_eq_getElem hl1)
          obtain ⟨ad', rfl, hb', hc'⟩ := HYC.out q2 _ (List.getElem?_eq_getElem hl2)
          have hq := hI.out
          rw [rev_at x st k (by omega), rev_at y st k (by omega), ← hlx, ← hly, ← hq1, ← hq2, preLen] at hq
          have hd1 : x.getD q1 ByteArray.empty = x[q1] := by simp [hl1]
          have hd2 : y.getD q2 ByteArray.empty = y[q2] := by simp [hl2]
          rw [hd1, hd2] at hq
          have w1 : IntKind.i64.wrap ((lx : Int) - 1) = (lx : Int) - 1 := IntWalk.i64_in _ (by omega)
          have w2' : IntKind.i64.wrap ((ly : Int) - 1) = (ly : Int) - 1 := IntWalk.i64_in _ (by omega)
          have w3 : IntKind.i64.wrap ((lx : Int) - 1 - k) = (q1 : Int) := by rw [IntWalk.i64_in _ (by omega)]; omega
          have w4 : IntKind.i64.wrap ((ly : Int) - 1 - k) = (q2 : Int) := by rw [IntWalk.i64_in _ (by omega)]; omega
          have hll1 : (1 : Int) ≤ lx := by omega
          have hk9 : k < lx := by omega
          have hll2 : (1 : Int) ≤ ly := by omega
          clear hI hlx hly hmm hbd hq1 hq2 hd1 hd2
          by_cases he : x[q1] = y[q2]
          · have g1 : (x[q1].toList == y[q2].toList) = true := bytes_eq he
            rw [if_pos he] at hq
            have HQ := Lib.hid hq; clear hq he
            go_wp2_with fail
            go_quiet (fail)
            go_wp2_with fail
            go_roundw
            case rel => exact ⟨k + 1, _, by go_num, rfl, by omega, hide (by rw [HQ.out]; omega)⟩
            case measure => simp [intOf]; omega
          · have g1 : (x[q1].toList == y[q2].toList) = false := bytes_ne he
            rw [if_neg he] at hq
            have HQ := Lib.hid hq; clear hq he
            go_wp2_with fail
            go_quiet (fail)
            go_wp2_with fail
            go_meet
            case rel => exact ⟨by rw [HQ.out]; rfl, by first | exact drew2 _ _ _ | exact ⟨_, rfl⟩⟩
        · have g0 : decide ((k : Int) < (bd : Int)) = false := by simpa using hlt
          have hq : endP x y = k := by
            rw [hI.out, preLen_nil _ _ (by rcases Nat.le_total lx ly with h | h
                                           · left; exact List.drop_eq_nil_of_le (by rw [List.length_reverse, List.length_drop]; omega)
                                           · right; exact List.drop_eq_nil_of_le (by rw [List.length_reverse, List.length_drop]; omega))]
            omega
          have HQ := Lib.hid hq
          clear hq hI hlx hly hmm hbd
          go_wp2_with fail
          go_quiet (fail)
          go_wp2_with fail
          go_meet
          case rel => exact ⟨by rw [HQ.out], by first | exact drew2 _ _ _ | exact ⟨_, rfl⟩⟩
    case rest =>
      obtain ⟨rfl, m2, rfl⟩ := hcut
      obtain ⟨en, hen⟩ : ∃ n, n = endP x y := ⟨_, rfl⟩
      have HEN := Lib.hid hen
      have hends := ends_le x y
      rw [← HST.out, ← hen, ← HLX.out, ← HLY.out] at hends
      rw [← hen]
      clear hen
      obtain ⟨L1, hL1⟩ : ∃ n, n = lx - en := ⟨_, rfl⟩
      obtain ⟨L2, hL2⟩ : ∃ n, n = ly - en := ⟨_, rfl⟩
      have w81 : IntKind.i64.wrap ((lx : Int) - en) = (L1 : Int) := by rw [IntWalk.i64_in _ (by omega)]; omega
      have w88 : IntKind.i64.wrap ((ly : Int) - en) = (L2 : Int) := by rw [IntWalk.i64_in _ (by omega)]; omega
      have b1 : L1 ≤ cx := by omega
      have b2 : L2 ≤ cy := by omega
      have b3 : st ≤ L1 := by omega
      have b4 : st ≤ L2 := by omega
      have b5 : L1 ≤ lx := by omega
      have b6 : L2 ≤ ly := by omega
      obtain ⟨X2, hX2⟩ : ∃ X2, (if cx = st then X else Option.map (fun x => x.add st) X) = X2 := ⟨_, rfl⟩
      obtain ⟨Y2, hY2⟩ : ∃ X2, (if cy = st then Y else Option.map (fun x => x.add st) Y) = X2 := ⟨_, rfl⟩
      have HL1 := Lib.hid hL1; have HL2 := Lib.hid hL2; have HBD := Lib.hid hbd
      obtain ⟨w3, hw3⟩ : ∃ w3, w3 = w2.drewN m2 := ⟨_, rfl⟩
      have HB3 := hide (show Below w.heap.size w w3 by rw [hw3]; exact below_drewN HB2.out _)
      have HS31 := hide (show Strs w3.drew w3.drew.heap.size (.slice X lx cx) x by rw [hw3]; exact HS1.out)
      have HS32 := hide (show Strs w3.drew w3.drew.heap.size (.slice Y ly cy) y by rw [hw3]; exact HS2.out)
      rw [← hw3]
      have HCM : Hid (Calls Try.prog 30 #[.slice X2 (L1 - st) (cx - st), .slice Y2 (L2 - st) (cy - st), .agg #[.int .i64 st, .int .i64 st]] w3.drew (PairsPost w3.drew (commonF lx (seg x st L1) (seg y st L2) st st))) := by
        have sl1 : (seg x st L1).length = L1 - st := seg_len x b3 (by rw [← HLX.out]; exact b5)
        have sl2 : (seg y st L2).length = L2 - st := seg_len y b4 (by rw [← HLY.out]; exact b6)
        refine hide (common_run lx (seg x st L1) (seg y st L2) _ _ st st w3.drew ((HS31.out.take b5).drop b3 ?_) ((HS32.out.take b6).drop b4 ?_) (by omega) (by omega) (by omega) (by omega) (by omega))
        · intro h ad e
          rw [← hX2, if_neg (by omega), e]; rfl
        · intro h ad e
          rw [← hY2, if_neg (by omega), e]; rfl
      clear hL1 hL2 hw3 HS1 HS2 HXC HYC hbd w53 hends
      go_wp2_with fail
      refine wp_region_still_tail 17 (by kernel_rfl) (by kernel_rfl) ?_
      simp only [List.take_succ_cons, List.take_zero, List.drop_succ_cons, List.drop_zero]
      repeat still_step
      refine wpStill_nil ?_
      go_wp2_with fail
      refine (unhide HCM).mono ?_; rintro e w4 ⟨r, rfl, hB4, hO4⟩
      obtain ⟨ps0, hps0⟩ : ∃ p, p = commonF lx (seg x st L1) (seg y st L2) st st := ⟨_, rfl⟩
      have HPS : Hid (pairsP x y = ps0 ++ [(L1, L2)]) := hide (by rw [pairsP, ← HST.out, ← HEN.out, ← HLX.out, ← HLY.out, ← HL1.out, ← HL2.out, hps0])
      have hpl := pairsP_len x y
      rw [HPS.out, List.length_append, List.length_cons, List.length_nil, ← HLX.out] at hpl
      rw [← hps0] at hO4
      obtain ⟨n0, hn0⟩ : ∃ n, n = ps0.length := ⟨_, rfl⟩
      rw [← hn0] at hO4 hpl
      have HN0 := Lib.hid hn0
      obtain ⟨B3, hB3⟩ : ∃ b, b = w3.heap.size := ⟨_, rfl⟩
      have HWB : Hid (w.heap.size ≤ B3) := hide (by rw [hB3]; exact HB3.out.size)
      have HB4 := hide (show Below B3 w3 w4 by rw [hB3]; exact Below.trans (Below.drew (Below.refl _ _)) hB4)
      have HO4 := hide (show w4.ownsRow B3 49 2 r n0 (pairCells ps0) by rw [hB3]; exact hO4)
      have HSX := hide (show Strs w3 B3 (.slice X lx cx) x by rw [hB3]; exact HS31.out)
      have HSY := hide (show Strs w3 B3 (.slice Y ly cy) y by rw [hB3]; exact HS32.out)
      obtain ⟨i0, hi0, hz0, hz1, hz2⟩ := info_parts info49
      have hsz4 : B3 ≤ w4.heap.size := by rw [hB3]; exact HB4.out.size
      clear hO4 hB4 HCM HS31 HS32 hps0 hn0 hB3
      go_wp2_with (at_builtin; refine wpList_append_lies _ rfl (.tmp 94) (.tmp 104) _ rfl B3 49 i0 _ 2 16 Try.underlying46 hi0 hz0 hz1 hz2 rfl (by omega) r n0 _ rfl (HO4.out.alloc _) ⟨w4.heap.size, 0, none⟩ 1 1 [.int .i64 (L1 : Int), .int .i64 (L2 : Int)] rfl rfl (World.news_of_block (heap_alloc_new _ _)) (fun u hu => by simp at hu; rcases hu with rfl | rfl <;> rfl) (by omega) (by unfold maxLen; omega) (by omega) (by simp; omega) (w4.heap.size + 1) (by simp) ?_)
      intro gp cp w5 h1 h2 h3 h4
      have HO5 := hide (show w5.ownsRow B3 49 2 (.slice (some ⟨gp, 0, none⟩) (n0 + 1) cp) (n0 + 1) (pairCells (pairsP x y)) by rw [HPS.out, pairCells_append]; exact h1)
      have hG5 : w4.grownBy w5 r.ownBlock := (World.grownBy_alloc w4 _ _).trans h2
      have HB5 := hide (show Below B3 w3 w5 from Below.grown HB4.out hG5 hsz4 (fun k e => (HO4.out.lt k e).1))
      have hcp : cp ≤ 9223372036854775807 := by
        rcases h1.2 with ⟨h, _⟩ | ⟨_, _, _, h, _, _, _, hm, _⟩
        · cases h
        · injection h with _ _ h; subst h; exact maxLen_le hm
      have hncp : n0 + 1 ≤ cp := by
        rcases h1.2 with ⟨h, _⟩ | ⟨_, _, _, h, _, _, hc, _⟩
        · cases h
        · injection h with _ _ h; subst h; exact hc
      obtain ⟨b11, hb11⟩ : ∃ b, b = w5.heap.size := ⟨_, rfl⟩
      have hgp : gp < b11 := by rw [hb11]; exact h4
      obtain ⟨w6, hw6⟩ : ∃ w6, w6 = w5.alloc (Obj.cells #[Value.int IntKind.i64 (st : Int), Value.int IntKind.i64 (st : Int)] 49) := ⟨_, rfl⟩
      have HB6 := hide (show Below B3 w3 w6 by rw [hw6]; exact HB5.out.alloc (Nat.le_trans hsz4 hG5.size) _)
      have HO6 := hide (show w6.ownsRow B3 49 2 (.slice (some ⟨gp, 0, none⟩) (n0 + 1) cp) (n0 + 1) (pairCells (pairsP x y)) by rw [hw6]; exact HO5.out.alloc _)
      have HR11 := hide (show Row w6 b11 49 [.int .i64 (st : Int), .int .i64 (st : Int)] by rw [hw6, hb11]; exact Row.new w5 49 _)
      have h3b : B3 ≤ b11 := by rw [hb11]; exact Nat.le_trans hsz4 hG5.size
      have h6s : w6.heap.size = b11 + 1 := by rw [hw6, hb11]; simp
      clear h1 h2 h3 h4 HB4 HO4 hG5 HB5 HO5
      go_wp2_with fail
      rw [← hw6, ← hb11]
      have H6S := Lib.hid h6s
      clear hw6 hb11 h6s
      obtain ⟨_, _, hxe, _, _, hXC⟩ := HSX.out.parts
      injection hxe with hxe1 hxe2 hxe3
      subst hxe1
      obtain ⟨_, _, hye, _, _, hYC⟩ := HSY.out.parts
      injection hye with hye1 hye2 hye3
      subst hye1
      have HXC := hide hXC; have HYC := hide hYC
      have stx : st ≤ lx := by omega
      have stc : st ≤ cx := by omega
      clear hXC hYC hxe2 hxe3 hye2 hye3
      go_loop [12, 14, 113] (fun ov _ iv => ∃ k : Nat, iv = .int .i64 k ∧ ov = .int .i64 (totalB (x.take k) : Int) ∧ k ≤ st) (fun _ _ iv => st - (intOf iv).toNat)
      case atStart => exact ⟨0, rfl, rfl, by omega⟩
      case round =>
        obtain ⟨k, rfl, rfl, hk⟩ := hrel
        have hT := totalB_take_le x k
        have hT1 := totalB_take_le x (k + 1)
        rw [take_succ_total] at hT1
        by_cases hlt : k < st
        · have hlx := HLX.out
          have hlt1 : k < x.length := by omega
          obtain ⟨ad, rfl, hb, hc⟩ := HXC.out k _ (List.getElem?_eq_getElem hlt1)
          have hc := (HB6.out.cell (p := ad.add k) (by rw [block_of_add]; exact hb)).trans hc
          have hd1 : x.getD k ByteArray.empty = x[k] := by simp [hlt1]
          obtain ⟨z, hz⟩ : ∃ z, z = x[k] := ⟨_, rfl⟩
          have hts : totalB (x.take (k + 1)) = totalB (x.take k) + z.size := by rw [take_succ_total, hd1, hz]
          rw [hd1, ← hz] at hT1
          rw [← hz] at hc
          obtain ⟨T, hTT⟩ : ∃ T, T = totalB (x.take k) := ⟨_, rfl⟩
          rw [← hTT] at hT hT1 hts ⊢
          have HTS := Lib.hid hts
          clear hd1 hz hts hTT hlx
          go_wp2_with fail
          go_round
          case rel => exact ⟨k + 1, by go_num, by rw [HTS.out]; simp, by omega⟩
          case measure => simp [intOf]; omega
        · obtain rfl : st = k := by omega
          clear hT hT1
          go_wp2_with fail
          obtain ⟨PS, hPS⟩ : ∃ PS, PS = pairsP x y := ⟨_, rfl⟩
          have HPSL : Hid (PS.length = n0 + 1) := hide (by rw [hPS, HPS.out, List.length_append, ← HN0.out]; rfl)
          have HRR : Hid (res = edsF x y st st PS) := hide (by rw [HR.out, diffL, ← hPS, ← HST.out])
          have HINC : Hid (Inc lx ly st st PS) := hide (by rw [hPS, HLX.out, HLY.out, HST.out]; exact pairsP_inc x y)
          rw [← hPS] at HO6
          clear hPS
          obtain ⟨i1, hi1, hy0, hy1', hy2'⟩ := info_parts info35
          go_loopw [10, 12, 124] (fun ov fv iv wr => ∃ (k la lb d : Nat) (done : List Ed), iv = .int .i64 k ∧ fv = .int .i64 (totalB (x.take la) : Int) ∧ k ≤ n0 + 1 ∧ d ≤ k ∧
            Hid (res = done ++ edsF x y la lb (PS.drop k)) ∧ Hid (Inc lx ly la lb (PS.drop k)) ∧ Hid (Below B3 w3 wr) ∧ Hid (wr.ownsRow B3 49 2 (.slice (some ⟨gp, 0, none⟩) (n0 + 1) cp) (n0 + 1) (pairCells PS)) ∧
            Hid (Row wr b11 49 [.int .i64 (la : Int), .int .i64 (lb : Int)]) ∧ Hid (wr.ownsRow (b11 + 1) 35 3 ov d (edCells done))) (fun _ _ iv _ => n0 + 1 - (intOf iv).toNat)
          case atStart => exact ⟨0, st, st, 0, [], rfl, rfl, by omega, by omega, HRR, HINC, HB6, HO6, HR11, hide (World.ownsRow_nil _ _ _ _)⟩
          case round =>
            clear HRR HINC HB6 HO6 HR11
            obtain ⟨k, la, lb, d, done, rfl, rfl, hk, hd, hI, hN, hB, hP, hR, hO⟩ := hrel
            by_cases hlt : k < n0 + 1
            · have hlp : k < PS.length := by rw [HPSL.out]; exact hlt
              obtain ⟨pa, pb, hpp⟩ : ∃ pa pb, PS[k] = (pa, pb) := ⟨_, _, rfl⟩
              have hq := hI.out
              have hn := hN.out
              rw [drop_at hlp, hpp, edsF] at hq
              rw [drop_at hlp, hpp] at hn
              obtain ⟨n1, n2, n3, n4, n5⟩ := hn
              obtain ⟨ca, cb⟩ := pairCells_get PS k (pa, pb) (by rw [List.getElem?_eq_getElem hlp, hpp])
              have ca' : wr.cell? ⟨gp, k * 2, none⟩ = some (.int .i64 pa) := by rw [hP.out.cellAt _ (by omega)]; exact ca
              have cb' : wr.cell? ⟨gp, k * 2 + 1, none⟩ = some (.int .i64 pb) := by rw [hP.out.cellAt _ (by omega)]; exact cb
              have hb11l := hR.out.lt
              have hBs : B3 ≤ wr.heap.size := by omega
              have HQ := Lib.hid hq; have HN5 := Lib.hid n5
              obtain ⟨off, hoff⟩ : ∃ T, T = totalB (x.take la) := ⟨_, rfl⟩
              have hoffb : off ≤ 1000000000 := by rw [hoff]; have := totalB_take_le x la; omega
              rw [← hoff]
              have HOFF := Lib.hid hoff
              clear hI hN ca cb hq n5 hpp hoff
              go_upto_region 22 with fail
              obtain ⟨bp, hbp⟩ : ∃ b, b = wr.heap.size := ⟨_, rfl⟩
              obtain ⟨be, hbe⟩ : ∃ b, b = wr.heap.size + 1 := ⟨_, rfl⟩
              obtain ⟨wb, hwb⟩ : ∃ wb, wb = ((wr.alloc (Obj.cells #[Value.int IntKind.i64 (pa : Int), Value.int IntKind.i64 (pb : Int)] 49)).alloc (Obj.cells #[Value.int IntKind.i64 (off : Int), Value.int IntKind.i64 (off : Int), Value.string { data := #[] }] 35)) := ⟨_, rfl⟩
              have hRp : Row wb bp 49 [.int .i64 (pa : Int), .int .i64 (pb : Int)] := by
                rw [hwb, hbp]; exact Row.alloc (Row.new wr 49 _) _
              have hRe : Row wb be 35 [.int .i64 (off : Int), .int .i64 (off : Int), .string ⟨#[]⟩] := by
                have := Row.new (wr.alloc (Obj.cells #[Value.int IntKind.i64 (pa : Int), Value.int IntKind.i64 (pb : Int)] 49)) 35 [.int .i64 (off : Int), .int .i64 (off : Int), .string ⟨#[]⟩]
                rw [hwb, hbe]; simpa using this
              have hR11 : Row wb b11 49 [.int .i64 (la : Int), .int .i64 (lb : Int)] := by rw [hwb]; exact (hR.out.alloc _).alloc _
              have HBb := hide (show Below B3 w3 wb by rw [hwb]; exact (hB.out.alloc hBs _).alloc (by simp; omega) _)
              have HPb := hide (show wb.ownsRow B3 49 2 (.slice (some ⟨gp, 0, none⟩) (n0 + 1) cp) (n0 + 1) (pairCells PS) by rw [hwb]; exact (hP.out.alloc _).alloc _)
              have HOb := hide (show wb.ownsRow (b11 + 1) 35 3 u10 d (edCells done) by rw [hwb]; exact (hO.out.alloc _).alloc _)
              have hbs : wb.heap.size = wr.heap.size + 2 := by rw [hwb]; simp
              have HONP : Hid (u10.ownBlock ≠ some bp) := hide (fun e => by have := (hO.out.lt _ e).2; omega)
              have HON : Hid (u10.ownBlock ≠ some be) := hide (fun e => by have := (hO.out.lt _ e).2; omega)
              rw [← hwb, ← hbe, ← hbp]
              have HRp := hide hRp; have HRe := hide hRe; have HR11 := hide hR11
              have p0 : wb.cell? ⟨bp, 0, none⟩ = some (.int .i64 pa) := hRp.cell 0
              have p1 : wb.cell? ⟨bp, 1, none⟩ = some (.int .i64 pb) := hRp.cell 1
              have l0 : wb.cell? ⟨b11, 0, none⟩ = some (.int .i64 la) := hR11.cell 0
              have l1 : wb.cell? ⟨b11, 1, none⟩ = some (.int .i64 lb) := hR11.cell 1
              have hbe1 : be ≠ bp := by omega
              have hbe2 : be ≠ b11 := by omega
              have hbe3 : B3 ≤ be := by omega
              have hbe4 : be < wb.heap.size := by omega
              have hbp4 : bp < wb.heap.size := by omega
              have hb114 : b11 < wb.heap.size := by omega
              have hgpe : gp ≠ be := by omega
              have hb11be : b11 < be := by omega
              have m1' : pa ≤ cx := by omega
              have m2' : pb ≤ cy := by omega
              have m3 : la ≤ cx := by omega
              have m4 : lb ≤ cy := by omega
              have HLPA := hide (show pa ≤ x.length by rw [← HLX.out]; exact n3)
              have HLPB := hide (show pb ≤ y.length by rw [← HLY.out]; exact n4)
              obtain ⟨X3, hX3⟩ : ∃ X3, (if cx = la then X else Option.map (fun x => x.add la) X) = X3 := ⟨_, rfl⟩
              obtain ⟨Y3, hY3⟩ : ∃ X3, (if cy = lb then Y else Option.map (fun x => x.add lb) Y) = X3 := ⟨_, rfl⟩
              have HSX3 : Hid (Strs w3 B3 (.slice X3 (pa - la) (cx - la)) (seg x la pa)) := hide ((HSX.out.take n3).drop n1 (fun h ad e => by rw [← hX3, if_neg (by omega), e]; rfl))
              have HSY3 : Hid (Strs w3 B3 (.slice Y3 (pb - lb) (cy - lb)) (seg y lb pb)) := hide ((HSY.out.take n4).drop n2 (fun h ad e => by rw [← hY3, if_neg (by omega), e]; rfl))
              obtain ⟨sx, hsx⟩ : ∃ z, z = seg x la pa := ⟨_, rfl⟩
              obtain ⟨sy, hsy⟩ : ∃ z, z = seg y lb pb := ⟨_, rfl⟩
              have hslx : sx.length = pa - la := by rw [hsx]; exact seg_len x n1 HLPA.out
              have hsly : sy.length = pb - lb := by rw [hsy]; exact seg_len y n2 HLPB.out
              have htx : totalB sx ≤ 1000000000 := by rw [hsx]; have := seg_le x la pa; omega
              have hty : totalB sy ≤ 1000000000 := by rw [hsy]; have := seg_le y lb pb; omega
              have htp : totalB (x.take pa) = off + totalB sx := by rw [hsx, HOFF.out]; exact totalB_seg x n1
              have htpb : off + totalB sx ≤ 1000000000 := by rw [← htp]; have := totalB_take_le x pa; omega
              have HTP := Lib.hid htp; have HSLX := Lib.hid hslx; have HSLY := Lib.hid hsly
              rw [← hsy, htp, ← HOFF.out] at HQ
              rw [← hsx] at HSX3; rw [← hsy] at HSY3
              clear hwb hbs hB hP hR hO ca' cb' hRp hRe hR11 hbp hbe hsx hsy hslx hsly htp hBs
              go_wp2_with fail
              go_loopw [19, 138] (fun _ iv wr => ∃ j : Nat, iv = .int .i64 j ∧ j ≤ pa - la ∧ Hid (wb.grownBy wr (some be)) ∧ Hid (Row wr be 35 [.int .i64 (off : Int), .int .i64 ((off + totalB (sx.take j) : Nat) : Int), .string ⟨#[]⟩])) (fun _ iv _ => pa - la - (intOf iv).toNat)
              case atStart => exact ⟨0, rfl, by omega, hide ⟨rfl, rfl, rfl, Nat.le_refl _, fun _ _ _ => rfl⟩, HRe⟩
              case round =>
                clear HRe p0 p1 l0 l1
                obtain ⟨j, rfl, hj, hG, hE⟩ := hrel
                by_cases hjl : j < pa - la
                · have hjs : j < sx.length := by rw [HSLX.out]; exact hjl
                  obtain ⟨_, _, hxe, _, _, hSC⟩ := HSX3.out.parts
                  injection hxe with hxe1 hxe2 hxe3
                  obtain ⟨ad, had, hb, hc⟩ := hSC j _ (List.getElem?_eq_getElem hjs)
                  rw [← hxe1] at had
                  subst had
                  have hc := ((HBb.out.cell (p := ad.add j) (by rw [block_of_add]; exact hb)).trans hc)
                  have hc := (hG.out.cell_far (ad.add j) (by rw [block_of_add]; omega) (fun e => by rw [block_of_add] at e; injection e with e; omega)).trans hc
                  have hd1 : sx.getD j ByteArray.empty = sx[j] := by simp [hjs]
                  obtain ⟨z, hz⟩ : ∃ z, z = sx[j] := ⟨_, rfl⟩
                  have hts : totalB (sx.take (j + 1)) = totalB (sx.take j) + z.size := by rw [take_succ_total, hd1, hz]
                  have hT1 := totalB_take_le sx (j + 1)
                  rw [hts] at hT1
                  rw [← hz] at hc
                  obtain ⟨T, hTT⟩ : ∃ T, T = totalB (sx.take j) := ⟨_, rfl⟩
                  rw [← hTT] at hT1 hts hE
                  have HTS := Lib.hid hts
                  have e1 : wr.cell? ⟨be, 1, none⟩ = some (.int .i64 ((off + T : Nat) : Int)) := hE.out.cell 1
                  have f1 : wr.frozen? ⟨be, 1, none⟩ = false := hE.out.frozen 1
                  have ww : IntKind.i64.wrap (((off + T : Nat) : Int) + (z.size : Int)) = ((off + T + z.size : Nat) : Int) := by rw [IntWalk.i64_in _ (by omega)]; omega
                  obtain ⟨OT, hOT⟩ : ∃ OT, OT = off + T := ⟨_, rfl⟩
                  rw [← hOT] at e1 ww
                  have HOT := Lib.hid hOT
                  clear hd1 hz hts hTT hSC hxe1 hxe2 hxe3 hOT
                  go_wp2_with fail
                  go_roundw
                  case rel =>
                    refine ⟨j + 1, by go_num, by omega, hide (hG.out.trans (grownBy_setCell _ _ _ _)), hide ?_⟩
                    have := hE.out.set_ 1 (.int .i64 ((OT + z.size : Nat) : Int))
                    rw [HTS.out]
                    have e : (off + (T + z.size) : Nat) = OT + z.size := by have := HOT.out; omega
                    rw [e]
                    simpa using this
                  case measure => simp [intOf]; omega
                · obtain rfl : j = pa - la := by omega
                  have hfull : sx.take (pa - la) = sx := List.take_of_length_le (by rw [HSLX.out]; exact Nat.le_refl _)
                  rw [hfull] at hE
                  clear hfull
                  obtain ⟨wl, rfl⟩ : ∃ wl, wl = wr := ⟨_, rfl⟩
                  have p0 : wl.cell? ⟨bp, 0, none⟩ = some (.int .i64 pa) := (hG.out.cell_far _ hbp4 (fun e => hbe1 (by injection e with e; exact e.symm))).trans (HRp.out.cell 0)
                  have p1 : wl.cell? ⟨bp, 1, none⟩ = some (.int .i64 pb) := (hG.out.cell_far _ hbp4 (fun e => hbe1 (by injection e with e; exact e.symm))).trans (HRp.out.cell 1)
                  have l0 : wl.cell? ⟨b11, 0, none⟩ = some (.int .i64 la) := (hG.out.cell_far _ hb114 (fun e => hbe2 (by injection e with e; exact e.symm))).trans (HR11.out.cell 0)
                  have l1 : wl.cell? ⟨b11, 1, none⟩ = some (.int .i64 lb) := (hG.out.cell_far _ hb114 (fun e => hbe2 (by injection e with e; exact e.symm))).trans (HR11.out.cell 1)
                  obtain ⟨tt, hto⟩ : ∃ T, T = off + totalB sx := ⟨_, rfl⟩
                  rw [← hto] at hE htpb HQ HTP
                  clear hto
                  go_wp2_with fail
                  go_loopw [21, 156] (fun _ iv wr => ∃ j : Nat, iv = .int .i64 j ∧ j ≤ pb - lb ∧ Hid (wb.grownBy wr (some be)) ∧ Hid (Row wr be 35 [.int .i64 (off : Int), .int .i64 (tt : Int), .string (joinB (sy.take j))])) (fun _ iv _ => pb - lb - (intOf iv).toNat)
                  case atStart => exact ⟨0, rfl, by omega, hG, hE⟩
                  case round =>
                    clear hE p0 p1 l0 l1 hG
                    obtain ⟨j, rfl, hj, hG, hE⟩ := hrel
                    by_cases hjl : j < pb - lb
                    · have hjs : j < sy.length := by rw [HSLY.out]; exact hjl
                      obtain ⟨_, _, hxe, _, _, hSC⟩ := HSY3.out.parts
                      injection hxe with hxe1 hxe2 hxe3
                      obtain ⟨ad, had, hb, hc⟩ := hSC j _ (List.getElem?_eq_getElem hjs)
                      rw [← hxe1] at had
                      subst had
                      have hc := ((HBb.out.cell (p := ad.add j) (by rw [block_of_add]; exact hb)).trans hc)
                      have hc := (hG.out.cell_far (ad.add j) (by rw [block_of_add]; omega) (fun e => by rw [block_of_add] at e; injection e with e; omega)).trans hc
                      obtain ⟨z, hz⟩ : ∃ z, z = sy[j] := ⟨_, rfl⟩
                      have hts : joinB (sy.take (j + 1)) = joinB (sy.take j) ++ z := by
                        rw [List.take_add_one, joinB_append, List.getElem?_eq_getElem hjs, ← hz]; simp [joinB]
                      have hT1 := totalB_take_le sy (j + 1)
                      rw [← joinB_size, hts, size_append] at hT1
                      rw [← hz] at hc
                      obtain ⟨T, hTT⟩ : ∃ T, T = joinB (sy.take j) := ⟨_, rfl⟩
                      rw [← hTT] at hT1 hts hE
                      have HTS := Lib.hid hts
                      have e1 : wr.cell? ⟨be, 2, none⟩ = some (.string T) := hE.out.cell 2
                      have f1 : wr.frozen? ⟨be, 2, none⟩ = false := hE.out.frozen 2
                      have ww : T.size + z.size ≤ 9223372036854775807 := by omega
                      clear hz hts hTT hSC hxe1 hxe2 hxe3
                      go_wp2_with fail
                      go_roundw
                      case rel =>
                        refine ⟨j + 1, by go_num, by omega, hide (hG.out.trans (grownBy_setCell _ _ _ _)), hide ?_⟩
                        have := hE.out.set_ 2 (.string (T ++ z))
                        rw [HTS.out]
                        simpa using this
                      case measure => simp [intOf]; omega
                    · obtain rfl : j = pb - lb := by omega
                      have hfull : sy.take (pb - lb) = sy := List.take_of_length_le (by rw [HSLY.out]; exact Nat.le_refl _)
                      rw [hfull] at hE
                      clear hfull
                      obtain ⟨wl, rfl⟩ : ∃ wl, wl = wr := ⟨_, rfl⟩
                      have e0 : wl.cell? ⟨be, 0, none⟩ = some (.int .i64 off) := hE.out.cell 0
                      have e1 : wl.cell? ⟨be, 1, none⟩ = some (.int .i64 tt) := hE.out.cell 1
                      obtain ⟨TX, hTX⟩ : ∃ T, T = joinB sy := ⟨_, rfl⟩
                      have e2 : wl.cell? ⟨be, 2, none⟩ = some (.string TX) := by rw [hTX]; exact hE.out.cell 2
                      rw [← hTX] at HQ hE
                      clear hTX
                      have HOc := hide (HOb.out.kept hG.out (Or.inr HON.out))
                      have hszc := hG.out.size
                      have HBb3 := hide (show B3 ≤ wb.heap.size by omega)
                      have HONd : Hid (u10.ownBlock ≠ some be) := HON
                      have HONp : Hid (u10.ownBlock ≠ some bp) := HONP
                      have HON11 : Hid (u10.ownBlock ≠ some b11) := hide (fun e => by have := (HOb.out.lt _ e).1; omega)
                      have HONg : Hid (u10.ownBlock ≠ some gp) := hide (fun e => by have := (HOb.out.lt _ e).1; omega)
                      have HONb : Hid (∀ k, u10.ownBlock = some k → B3 ≤ k) := hide (fun k e => by have := (HOb.out.lt _ e).1; omega)
                      go_upto_region 32 with fail
                      go_cut [175] from 125 to 202 (fun c wx => c = .bool (decide (off < tt ∨ TX ≠ ByteArray.empty)) ∧ wx = wl)
                      case first =>
                        by_cases h1 : off < tt
                        · have g1 : decide ((off : Int) < (tt : Int)) = true := by simp; omega
                          go_wp2_with fail
                          go_meet
                          case rel => exact ⟨by simp [h1], rfl⟩
                        · have g1 : decide ((off : Int) < (tt : Int)) = false := by simp; omega
                          by_cases h2 : TX = ByteArray.empty
                          · have g3 : TX.toList = [] := by rw [h2, Lib.toList_data]; rfl
                            have g2 : (TX.toList == []) = true := by simpa using g3
                            go_wp2_with fail
                            go_meet
                            case rel => exact ⟨by simp [h1, h2], rfl⟩
                          · have g3 : ¬ TX.toList = [] := fun h => h2 (toList_nil h)
                            have g2 : (TX.toList == []) = false := by simpa using g3
                            go_wp2_with fail
                            go_meet
                            case rel => exact ⟨by simp [h1, h2], rfl⟩
                      case rest =>
                        obtain ⟨rfl, rfl⟩ := hcut
                        obtain ⟨wd, rfl⟩ : ∃ wd, wd = wc := ⟨_, rfl⟩
                        go_upto_if 175 with fail
                        go_cut [10] from 125 to 202 (fun ov wx => ∃ (d' : Nat) (done' : List Ed), d' ≤ k + 1 ∧ Hid (res = done' ++ edsF x y (pa + 1) (pb + 1) (PS.drop (k + 1))) ∧ Hid (wd.grownBy wx u10.ownBlock) ∧ Hid (wx.ownsRow (b11 + 1) 35 3 ov d' (edCells done')))
                        case first =>
                          by_cases hA : off < tt ∨ TX ≠ ByteArray.empty
                          · have hdt : decide (off < tt ∨ TX ≠ ByteArray.empty) = true := decide_eq_true hA
                            rw [hdt]
                            have hq := HQ.out
                            rw [if_pos hA] at hq
                            have HQ' := Lib.hid hq
                            clear hdt hA hq
                            go_wp2_with (at_builtin; refine wpList_append_lies _ rfl (.tmp 176) (.tmp 178) _ rfl (b11 + 1) 35 i1 _ 3 32 Try.underlying22 hi1 hy0 hy1' hy2' rfl (by omega) u10 d _ rfl (HOc.out.alloc _) ⟨wd.heap.size, 0, none⟩ 1 1 [.int .i64 (off : Int), .int .i64 (tt : Int), .string TX] rfl rfl (World.news_of_block (heap_alloc_new _ _)) (fun u hu => by simp at hu; rcases hu with rfl | rfl | rfl <;> rfl) (by omega) (by unfold maxLen; omega) (by omega) (by simp; omega) (wd.heap.size + 1) (by simp) ?_)
                            intro g2 cap w9 h1 h2 h3 h4
                            have HG9 := hide (show wd.grownBy w9 u10.ownBlock from (World.grownBy_alloc wd _ _).trans h2)
                            have HO9 := Lib.hid h1
                            clear h1 h2 h3 h4
                            go_wp2_with fail
                            go_meet
                            case rel => exact ⟨d + 1, done ++ [⟨off, tt, TX⟩], by omega, hide (by rw [HQ'.out, List.append_assoc]), HG9, hide (by rw [edCells_append]; exact HO9.out)⟩
                          · have hdt : decide (off < tt ∨ TX ≠ ByteArray.empty) = false := decide_eq_false hA
                            rw [hdt]
                            have hq := HQ.out
                            rw [if_neg hA, List.nil_append] at hq
                            have HQ' := Lib.hid hq
                            clear hdt hA hq
                            go_wp2_with fail
                            go_meet
                            case rel => exact ⟨d, done, by omega, HQ', hide ⟨rfl, rfl, rfl, Nat.le_refl _, fun _ _ _ => rfl⟩, HOc⟩
                        case rest =>
                          obtain ⟨d', done', hd', HQ', hG9, hO9⟩ := hcut
                          have hsz9 := hG9.out.size
                          obtain ⟨we, rfl⟩ : ∃ we, we = wc := ⟨_, rfl⟩
                          have hEe : Row we be 35 [.int .i64 (off : Int), .int .i64 (tt : Int), .string TX] := hE.out.grown hG9.out (fun e => HONd.out e.symm)
                          have hPp : Row we bp 49 [.int .i64 (pa : Int), .int .i64 (pb : Int)] := (HRp.out.grown hG.out (fun e => hbe1 (by injection e with e; exact e.symm))).grown hG9.out (fun e => HONp.out e.symm)
                          have hRl : Row we b11 49 [.int .i64 (la : Int), .int .i64 (lb : Int)] := (HR11.out.grown hG.out (fun e => hbe2 (by injection e with e; exact e.symm))).grown hG9.out (fun e => HON11.out e.symm)
                          have hPe : we.ownsRow B3 49 2 (.slice (some ⟨gp, 0, none⟩) (n0 + 1) cp) (n0 + 1) (pairCells PS) := (HPb.out.kept hG.out (Or.inr (by simp [Value.ownBlock]; exact hgpe))).kept hG9.out (Or.inr (fun e => HONg.out (by simpa [Value.ownBlock] using e.symm)))
                          have hBe : Below B3 w3 we := Below.grown (Below.grown HBb.out hG.out HBb3.out (fun k e => by injection e with e; omega)) hG9.out (Nat.le_trans HBb3.out hG.out.size) (fun k e => HONb.out k e)
                          have e1 : we.cell? ⟨be, 1, none⟩ = some (.int .i64 tt) := hEe.cell 1
                          have p0 : we.cell? ⟨bp, 0, none⟩ = some (.int .i64 pa) := hPp.cell 0
                          have p1 : we.cell? ⟨bp, 1, none⟩ = some (.int .i64 pb) := hPp.cell 1
                          have l0 : we.cell? ⟨b11, 0, none⟩ = some (.int .i64 la) := hRl.cell 0
                          have l1 : we.cell? ⟨b11, 1, none⟩ = some (.int .i64 lb) := hRl.cell 1
                          have fl0 : we.frozen? ⟨b11, 0, none⟩ = false := hRl.frozen 0
                          have fl1 : we.frozen? ⟨b11, 1, none⟩ = false := hRl.frozen 1
                          have HRL := hide hRl; have HPE := hide hPe; have HBE := hide hBe
                          have hle11 : b11 < b11 + 1 := by omega
                          clear hEe hPp hRl hPe hBe hG hG9 hE
                          have hTp := totalB_take_le x (pa + 1)
                          rw [take_succ_total, HTP.out] at hTp
                          by_cases hpa : pa < lx
                          · have hpa' : pa < x.length := by rw [← HLX.out]; exact hpa
                            obtain ⟨ad, rfl, hb, hc⟩ := HXC.out pa _ (List.getElem?_eq_getElem hpa')
                            have hc := (HBE.out.cell (p := ad.add pa) (by rw [block_of_add]; exact hb)).trans hc
                            have hd1 : x.getD pa ByteArray.empty = x[pa] := by simp [hpa']
                            obtain ⟨z, hz⟩ : ∃ z, z = x[pa] := ⟨_, rfl⟩
                            have hts : totalB (x.take (pa + 1)) = tt + z.size := by rw [take_succ_total, hd1, hz, HTP.out]
                            rw [hd1, ← hz] at hTp
                            rw [← hz] at hc
                            have HTS := Lib.hid hts
                            clear hd1 hz hts
                            go_wp2_with fail
                            go_roundw
                            case rel =>
                              have g1 : we.grownBy (we.setCell ⟨b11, 0, none⟩ (.int .i64 ((pa : Int) + 1))) (some b11) := grownBy_setCell _ _ _ _
                              have g2 : (we.setCell ⟨b11, 0, none⟩ (.int .i64 ((pa : Int) + 1))).grownBy ((we.setCell ⟨b11, 0, none⟩ (.int .i64 ((pa : Int) + 1))).setCell ⟨b11, 1, none⟩ (.int .i64 ((pb : Int) + 1))) (some b11) := grownBy_setCell _ _ _ _
                              refine ⟨k + 1, pa + 1, pb + 1, d', done', by go_num, by rw [HTS.out]; simp, by omega, by omega, HQ', HN5, hide ((HBE.out.setCell h3b _).setCell h3b _), hide ((HPE.out.kept g1 (Or.inr (by simp [Value.ownBlock]; omega))).kept g2 (Or.inr (by simp [Value.ownBlock]; omega))), hide ?_, hide ((hO9.out.kept g1 (Or.inr (fun e => by have := (hO9.out.lt _ e).1; omega))).kept g2 (Or.inr (fun e => by have := (hO9.out.lt _ e).1; omega)))⟩
                              have := (HRL.out.set_ 0 (.int .i64 ((pa : Int) + 1))).set_ 1 (.int .i64 ((pb : Int) + 1))
                              simpa using this
                            case measure => simp [intOf]; omega
                          · have hpa' : x.getD pa ByteArray.empty = ByteArray.empty := by
                              rw [List.getD_eq_getElem?_getD, List.getElem?_eq_none (by rw [← HLX.out]; omega)]; rfl
                            have hts : totalB (x.take (pa + 1)) = tt := by rw [take_succ_total, hpa', HTP.out]; rfl
                            have HTS := Lib.hid hts
                            clear hts hpa' hTp
                            go_wp2_with fail
                            go_roundw
                            case rel =>
                              have g1 : we.grownBy (we.setCell ⟨b11, 0, none⟩ (.int .i64 ((pa : Int) + 1))) (some b11) := grownBy_setCell _ _ _ _
                              have g2 : (we.setCell ⟨b11, 0, none⟩ (.int .i64 ((pa : Int) + 1))).grownBy ((we.setCell ⟨b11, 0, none⟩ (.int .i64 ((pa : Int) + 1))).setCell ⟨b11, 1, none⟩ (.int .i64 ((pb : Int) + 1))) (some b11) := grownBy_setCell _ _ _ _
                              refine ⟨k + 1, pa + 1, pb + 1, d', done', by go_num, by rw [HTS.out], by omega, by omega, HQ', HN5, hide ((HBE.out.setCell h3b _).setCell h3b _), hide ((HPE.out.kept g1 (Or.inr (by simp [Value.ownBlock]; omega))).kept g2 (Or.inr (by simp [Value.ownBlock]; omega))), hide ?_, hide ((hO9.out.kept g1 (Or.inr (fun e => by have := (hO9.out.lt _ e).1; omega))).kept g2 (Or.inr (fun e => by have := (hO9.out.lt _ e).1; omega)))⟩
                              have := (HRL.out.set_ 0 (.int .i64 ((pa : Int) + 1))).set_ 1 (.int .i64 ((pb : Int) + 1))
                              simpa using this
                            case measure => simp [intOf]; omega
            · obtain rfl : k = n0 + 1 := by omega
              have hq := hI.out
              rw [List.drop_eq_nil_of_le (by rw [HPSL.out]; exact Nat.le_refl _), edsF, List.append_nil] at hq
              have HQ := Lib.hid hq
              clear hq hI hN
              go_wp2_with fail
              go_ret
              refine ⟨_, rfl, HB3.out.trans (hB.out.mono HWB.out), ?_⟩
              rw [HQ.out]
              exact (Eds.of_own hO.out).2
end Go.Proofs.Ytbfgnafpianliaa
