/- The law on Diff: the walk. -/
import Derived.Test.YtbfgnafpianliaaLawB
import Derived.Test.YtbfgnafpianliaaBg
import Derived.Test.YtbfgnafpianliaaCr
namespace Go.Proofs.Ytbfgnafpianliaa
open Go.RowKit

theorem edsF_tx (x y : List ByteArray) : ∀ (l : List (Nat × Nat)) (la lb : Nat), ∀ e ∈ edsF x y la lb l, e.tx.size ≤ totalB y
  | [], _, _, e, he => by simp [edsF] at he
  | (pa, pb) :: l, la, lb, e, he => by
    unfold edsF at he
    rcases List.mem_append.1 he with h | h
    · split at h
      · obtain rfl := List.mem_singleton.1 h
        have h1 := joinB_size (seg y lb pb)
        have h2 := seg_le y lb pb
        show (joinB (seg y lb pb)).size ≤ _
        omega
      · cases h
    · exact edsF_tx x y l _ _ e h
theorem sep_at : ∀ {l : List Ed} {p : Int}, Sep p l → ∀ (j : Nat) (h : j + 1 < l.length), l[j].to < l[j + 1].fr
  | [_], _, _, j, h => by simp at h
  | a :: b :: l, _, ⟨_, h2⟩, 0, _ => h2.1
  | a :: b :: l, _, ⟨_, h2⟩, j + 1, h => by
    have := sep_at h2 j (by simpa using h)
    simpa using this
theorem chain_at {n : Int} : ∀ {l : List Ed} {p : Int}, Chain n p l → 0 ≤ p → ∀ (j : Nat) (h : j < l.length), 0 ≤ l[j].fr ∧ l[j].fr ≤ l[j].to ∧ l[j].to ≤ n
  | a :: l, p, ⟨h1, h2, h3, h4⟩, hp, 0, _ => ⟨by show 0 ≤ a.fr; omega, h2, h3⟩
  | a :: l, p, ⟨h1, h2, h3, h4⟩, hp, j + 1, h => by
    have := chain_at h4 (by omega) j (by simpa using h)
    simpa using this
theorem gone_at (s : ByteArray) {l : List Ed} {i : Nat} (h : i < l.length) : goneP s (l.drop i) = (linesP (oldP s l[i])).length + goneP s (l.drop (i + 1)) := by
  rw [List.drop_eq_getElem_cons h, goneP]
theorem more_at {l : List Ed} {i : Nat} (h : i < l.length) : moreP (l.drop i) = (linesP l[i].tx).length + moreP (l.drop (i + 1)) := by
  rw [List.drop_eq_getElem_cons h, moreP]
theorem linesP_len (s : ByteArray) : (linesP s).length ≤ s.size + 1 := linesF_len s s.size 0 0
theorem total_lines (s : ByteArray) : totalB (linesP s) = s.size := by rw [total_all, lines_join]
theorem diff_fit {s t : ByteArray} (hs : s.size ≤ 300) (ht : t.size ≤ 300) : Fit (diffP s t) ∧ (diffP s t).length ≤ 302 ∧ ∀ e ∈ diffP s t, e.tx.size ≤ 300 := by
  have h1 : (diffP s t).length ≤ 302 := by
    unfold diffP diffL
    have a1 := edsF_len (linesP s) (linesP t) (pairsP (linesP s) (linesP t)) (startP (linesP s) (linesP t)) (startP (linesP s) (linesP t))
    have a2 := pairsP_len (linesP s) (linesP t)
    have a3 := linesP_len s
    omega
  have h2 : ∀ e ∈ diffP s t, e.tx.size ≤ 300 := fun e he => by
    have := edsF_tx (linesP s) (linesP t) _ _ _ e he
    rw [total_lines] at this
    omega
  exact ⟨⟨by omega, fun e he => by have := h2 e he; omega⟩, h1, h2⟩

set_option maxHeartbeats 2000000 in
set_option maxRecDepth 100000 in
theorem Diffs_run (s t : ByteArray) (w : World) (hs : s.size ≤ maxLen) (ht : t.size ≤ maxLen) :
    Calls Try.prog 9 #[.string s, .string t] w fun e w' => e = .returned (.bool true) ∧ Below w.heap.size w w' := by
  by_cases hg : 300 < s.size ∨ 300 < t.size
  · have HX := hide (example_run w)
    by_cases h1 : 300 < s.size
    · have g : decide ((s.size : Int) > 300) = true := by simp; omega
      clear hg
      go_enter Try.func9, Try.ntmps9
      go_wp2_with fail
      refine (unhide HX).mono ?_; rintro e w' ⟨rfl, hB⟩
      go_wp2_with fail
      go_ret
      exact ⟨rfl, hB⟩
    · have g : decide ((s.size : Int) > 300) = false := by simp; omega
      have g' : decide ((t.size : Int) > 300) = true := by simp; omega
      clear hg
      go_enter Try.func9, Try.ntmps9
      go_wp2_with fail
      refine (unhide HX).mono ?_; rintro e w' ⟨rfl, hB⟩
      go_wp2_with fail
      go_ret
      exact ⟨rfl, hB⟩
  · have hs2 : s.size ≤ 300 := by omega
    have ht2 : t.size ≤ 300 := by omega
    have g : decide ((s.size : Int) > 300) = false := by simp; omega
    have g' : decide ((t.size : Int) > 300) = false := by simp; omega
    have la := linesP_len s
    have lb := linesP_len t
    have HD := hide (Diff_run s t w (by omega) (by omega) (by omega) (by omega) (by rw [total_lines]; omega) (by rw [total_lines]; omega))
    obtain ⟨hap, hok, hsep, hgn, hmr⟩ := diff_law s t (by omega)
    obtain ⟨hF, hlen, htx⟩ := diff_fit hs2 ht2
    have hsame : s = t → diffP s t = [] := fun e => by rw [e]; exact diff_same t
    have hch : Chain s.size 0 (diffP s t) := by
      apply chain_of_check (by omega)
      apply Classical.byContradiction
      intro hne
      rw [applyP, if_pos hne] at hap
      exact hne (congrArg Prod.snd hap)
    obtain ⟨es, hes⟩ : ∃ es, es = diffP s t := ⟨_, rfl⟩
    rw [← hes] at HD hap hok hsep hgn hmr hF hlen htx hsame hch
    have HOK := Lib.hid hok; have HSEP := Lib.hid hsep; have HGN := Lib.hid hgn; have HMR := Lib.hid hmr; have HF := Lib.hid hF
    have HTX := Lib.hid htx; have HSAME := Lib.hid hsame; have HCH := Lib.hid hch; have HAP := Lib.hid hap
    obtain ⟨n, hn⟩ : ∃ n, n = es.length := ⟨_, rfl⟩
    rw [← hn] at hlen
    have HN := Lib.hid hn
    have HL1 := hide fun w => refLines_run s w (by omega)
    have HL2 := hide fun w => refLines_run t w (by omega)
    clear hap hok hsep hgn hmr hF htx hsame hch hes hn hg la lb
    go_enter Try.func9, Try.ntmps9
    go_wp2_with fail
    refine (unhide HD).mono ?_; rintro e w1 ⟨u, rfl, hB1, hE1⟩
    have HB1 := hide hB1; have HE1 := hide hE1
    have HA := hide (refApply_run s u es w1 _ hE1 HF.out (by omega))
    rw [HAP.out] at HA
    clear hB1 hE1 HD
    go_wp2_with fail
    refine (unhide HA).mono ?_; rintro e w' ⟨rfl, m, rfl⟩
    have HE2 := hide (show Eds (w1.drewN m) (w1.drewN m).heap.size u es from HE1.out.same (Same.drewN m))
    have HB2 := hide (below_drewN HB1.out m)
    obtain ⟨w2, hw2⟩ : ∃ w2, w2 = w1.drewN m := ⟨_, rfl⟩
    rw [← hw2] at HE2 HB2 ⊢
    obtain ⟨A, c, rfl, hc1, hc2, hels⟩ := HE2.out
    rw [← HN.out] at hc1 ⊢
    have hm := maxLen_le hc2
    have HEL := Lib.hid hels
    have g1 : (t.toList == t.toList) = true := by simp
    have hgs : ((s.toList == t.toList) = true ∧ decide (0 < n) = false ∧ decide ((n : Int) > 0) = false) ∨ ((s.toList == t.toList) = false ∧ True ∧ True) := by
      by_cases h : s = t
      · have h0 : n = 0 := by rw [HN.out, HSAME.out h]; rfl
        exact .inl ⟨bytes_eq h, by simp [h0], by simp [h0]⟩
      · exact .inr ⟨bytes_ne h, trivial, trivial⟩
    clear HA HE2 HB1 HE1 hw2 hels hc2 HSAME HAP
    rcases hgs with ⟨g5, g6, g7⟩ | ⟨g5, g6, g7⟩
    all_goals
      clear g7
      go_wp2_with fail
      go_loopw [8, 9, 10, 11] (fun gv mv iv _ wr => ∃ (i g m : Nat), gv = .int .i64 g ∧ mv = .int .i64 m ∧ iv = .int .i64 i ∧ i ≤ n ∧ Hid (g + goneP s (es.drop i) = goneP s es) ∧ Hid (m + moreP (es.drop i) = moreP es) ∧ Hid (Below w2.heap.size w2 wr)) (fun _ _ iv _ _ => n - (intOf iv).toNat)
      case atStart => exact ⟨0, 0, 0, rfl, rfl, rfl, Nat.zero_le _, hide (by simp), hide (by simp), hide (Below.refl _ _)⟩
      case round =>
        obtain ⟨i, g, m, rfl, rfl, rfl, hi, hG, hM, hB⟩ := hrel
        by_cases hlt : i < n
        · have hjl : i < es.length := by rw [← HN.out]; exact hlt
          obtain ⟨ad, rfl, hb, hf0, ht0, hx0⟩ := HEL.out i _ (List.getElem?_eq_getElem hjl)
          obtain ⟨c1, c2, c3⟩ := chain_at HCH.out (Int.le_refl 0) i hjl
          obtain ⟨b1, b2, b3⟩ := HOK.out _ (List.getElem_mem hjl)
          have hxs := HTX.out _ (List.getElem_mem hjl)
          have hgo := gone_at s hjl
          have hmo := more_at hjl
          have hpre : i = 0 ∨ ∃ (j : Nat) (q : Int), i = j + 1 ∧ j < n ∧ q < es[i].fr ∧ wr.cell? ⟨(ad.add (j * 3)).block, (ad.add (j * 3)).off + 1, none⟩ = some (.int .i64 q) := by
            rcases Nat.eq_zero_or_pos i with h | h
            · exact .inl h
            · obtain ⟨j, rfl⟩ : ∃ j, i = j + 1 := ⟨i - 1, by omega⟩
              obtain ⟨ad', e, hb', _, ht', _⟩ := HEL.out j _ (List.getElem?_eq_getElem (show j < es.length by omega))
              obtain rfl : ad = ad' := Option.some.inj e
              exact .inr ⟨j, _, rfl, by omega, sep_at HSEP.out j hjl, (hB.out.cell (p := ⟨(ad.add (j * 3)).block, (ad.add (j * 3)).off + 1, none⟩) (by rw [block_of_add]; exact hb')).trans ht'⟩
          obtain ⟨E, hE⟩ : ∃ E, E = es[i] := ⟨_, rfl⟩
          rw [← hE] at hf0 ht0 hx0 c1 c2 c3 b1 b2 b3 hxs hgo hmo hpre
          clear hE hjl
          obtain ⟨fr, tq, T⟩ := E
          obtain ⟨f, rfl⟩ : ∃ f : Nat, fr = (f : Int) := ⟨fr.toNat, by have : 0 ≤ fr := c1; omega⟩
          obtain ⟨p, rfl⟩ : ∃ p : Nat, tq = (p : Int) := ⟨tq.toNat, by have : (f : Int) ≤ tq := c2; omega⟩
          have d1 : f ≤ p := by have : (f : Int) ≤ p := c2; omega
          have d2 : p ≤ s.size := by have : (p : Int) ≤ s.size := c3; omega
          have b1 : beginsP s f := b1
          have b2 : beginsP s p := b2
          have b3 : s.extract f p ≠ T := b3
          have hgo : goneP s (es.drop i) = (linesP (s.extract f p)).length + goneP s (es.drop (i + 1)) := hgo
          have hmo : moreP (es.drop i) = (linesP T).length + moreP (es.drop (i + 1)) := hmo
          have hf0 : w2.cell? (ad.add (i * 3)) = some (.int .i64 (f : Int)) := hf0
          have ht0 : w2.cell? ⟨(ad.add (i * 3)).block, (ad.add (i * 3)).off + 1, none⟩ = some (.int .i64 (p : Int)) := ht0
          have hx0 : w2.cell? ⟨(ad.add (i * 3)).block, (ad.add (i * 3)).off + 2, none⟩ = some (.string T) := hx0
          have hxs : T.size ≤ 300 := hxs
          have hf := (hB.out.cell (p := ad.add (i * 3)) (by rw [block_of_add]; exact hb)).trans hf0
          have ht := (hB.out.cell (p := ⟨(ad.add (i * 3)).block, (ad.add (i * 3)).off + 1, none⟩) (by rw [block_of_add]; exact hb)).trans ht0
          have hx := (hB.out.cell (p := ⟨(ad.add (i * 3)).block, (ad.add (i * 3)).off + 2, none⟩) (by rw [block_of_add]; exact hb)).trans hx0
          have g8 := bytes_ne b3
          have hs9 : s.size ≤ 1000000000 := by omega
          have hos : (s.extract f p).size ≤ 300 := by rw [ByteArray.size_extract]; omega
          have HX0 := Lib.hid hx0; have HBA := Lib.hid hb
          have HGO := Lib.hid hgo; have HMO := Lib.hid hmo
          obtain ⟨O, hO⟩ : ∃ O, O = s.extract f p := ⟨_, rfl⟩
          rw [← hO] at g8 hos HGO
          have HO := Lib.hid hO
          have hpre' : ∃ b : Bool, (decide ((i : Int) > 0) = b ∧ decide (0 < i) = b) ∧ (b = true → ∃ (j : Nat) (q : Int), IntKind.i64.wrap ((i : Int) - 1) = (j : Int) ∧ j < n ∧ decide ((f : Int) ≤ q) = false ∧ wr.cell? ⟨(ad.add (j * 3)).block, (ad.add (j * 3)).off + 1, none⟩ = some (.int .i64 q)) := by
            rcases hpre with h | ⟨j, q, h1, h2, h3, h4⟩
            · exact ⟨false, ⟨by simp [h], by simp [h]⟩, fun e => by cases e⟩
            · refine ⟨true, ⟨by simp; omega, by simp; omega⟩, fun _ => ⟨j, q, by rw [IntWalk.i64_in _ (by omega)]; omega, h2, by have : q < (f : Int) := h3; simp; omega, h4⟩⟩
          clear c1 c2 c3 b3 hgo hmo hf0 ht0 hx0 hb hO hpre hx
          go_wp2_with fail
          go_quiet (fail)
          go_wp2_with fail
          obtain ⟨wz, hwz⟩ : ∃ wz, wz = wr.drewN nq := ⟨_, rfl⟩
          have HBZ := hide (below_drewN hB.out nq)
          rw [← HO.out, ← hwz]
          rw [← hwz] at HBZ
          obtain ⟨b, ⟨ga, gb⟩, hpb⟩ := hpre'
          have hcz : ∀ p, wz.cell? p = wr.cell? p := fun p => by rw [hwz]; rfl
          have hfz := (hcz _).trans hf
          have htz := (hcz _).trans ht
          have HCZ := Lib.hid hcz
          clear hwz hcz hf ht
          have hx := (HBZ.out.cell (p := ⟨(ad.add (i * 3)).block, (ad.add (i * 3)).off + 2, none⟩) (by rw [block_of_add]; exact HBA.out)).trans HX0.out
          have HLO := hide fun w => refLines_run O w (by omega)
          have HLT := hide fun w => refLines_run T w (by omega)
          obtain ⟨lo, hlo⟩ : ∃ l, l = (linesP O).length := ⟨_, rfl⟩
          obtain ⟨lt, hltt⟩ : ∃ l, l = (linesP T).length := ⟨_, rfl⟩
          have HLOL := Lib.hid hlo; have HLTL := Lib.hid hltt
          have bg := hG.out; have bm := hM.out
          have bG := HGN.out; have bMR := HMR.out
          have l1 := linesP_len s; have l2 := linesP_len t; have l3 := linesP_len O; have l4 := linesP_len T
          have bg' : g ≤ 301 := by omega
          have bm' : m ≤ 301 := by omega
          have blo : lo ≤ 301 := by omega
          have blt : lt ≤ 301 := by omega
          clear hlo hltt bg bm bG bMR l1 l2 l3 l4
          have w1' : IntKind.i64.wrap ((g : Int) + (lo : Int)) = (g : Int) + (lo : Int) := IntWalk.i64_in _ (by omega)
          have w2' : IntKind.i64.wrap ((m : Int) + (lt : Int)) = (m : Int) + (lt : Int) := IntWalk.i64_in _ (by omega)
          cases b with
          | false =>
            clear hpb hB
            go_quiet ((go_at_call 25; exact Calls.quiet_of_same (Begins_run s _ _ hs9 (by assumption))))
            go_wp2_with fail
            refine (HLO.out _).mono ?_; rintro e wx ⟨uo, rfl, hBx, hSx⟩
            obtain ⟨Ao, co, rfl, ho1, ho2, _⟩ := hSx.parts
            have HBX := hide ((below_drewN HBZ.out _).trans (hBx.mono HBZ.out.size))
            rw [← HLOL.out] at ho1 ⊢
            have hm2 := maxLen_le ho2
            have hx := (HBX.out.cell (p := ⟨(ad.add (i * 3)).block, (ad.add (i * 3)).off + 2, none⟩) (by rw [block_of_add]; exact HBA.out)).trans HX0.out
            clear hBx hSx ho2
            go_wp2_with fail
            refine (HLT.out _).mono ?_; rintro e wy ⟨ut, rfl, hBy, hSy⟩
            obtain ⟨At, ct, rfl, ht1, ht2', _⟩ := hSy.parts
            have HBY := hide (HBX.out.trans (hBy.mono HBX.out.size))
            rw [← HLTL.out] at ht1 ⊢
            have hm3 := maxLen_le ht2'
            clear hBy hSy ht2' hx
            go_wp2_with fail
            go_roundw
            case rel =>
              refine ⟨i + 1, g + lo, m + lt, by go_num, by go_num, by go_num, by omega, hide ?_, hide ?_, HBY⟩
              · have := hG.out; rw [HGO.out, ← HLOL.out] at this; omega
              · have := hM.out; rw [HMO.out, ← HLTL.out] at this; omega
            case measure => simp [intOf]; omega
          | true =>
            obtain ⟨j, q, wj, hj, gq, hq⟩ := hpb rfl
            have hq := (HCZ.out _).trans hq
            clear hpb hB
            go_quiet ((go_at_call 25; exact Calls.quiet_of_same (Begins_run s _ _ hs9 (by assumption))))
            go_wp2_with fail
            refine (HLO.out _).mono ?_; rintro e wx ⟨uo, rfl, hBx, hSx⟩
            obtain ⟨Ao, co, rfl, ho1, ho2, _⟩ := hSx.parts
            have HBX := hide ((below_drewN HBZ.out _).trans (hBx.mono HBZ.out.size))
            rw [← HLOL.out] at ho1 ⊢
            have hm2 := maxLen_le ho2
            have hx := (HBX.out.cell (p := ⟨(ad.add (i * 3)).block, (ad.add (i * 3)).off + 2, none⟩) (by rw [block_of_add]; exact HBA.out)).trans HX0.out
            clear hBx hSx ho2
            go_wp2_with fail
            refine (HLT.out _).mono ?_; rintro e wy ⟨ut, rfl, hBy, hSy⟩
            obtain ⟨At, ct, rfl, ht1, ht2', _⟩ := hSy.parts
            have HBY := hide (HBX.out.trans (hBy.mono HBX.out.size))
            rw [← HLTL.out] at ht1 ⊢
            have hm3 := maxLen_le ht2'
            clear hBy hSy ht2' hx
            go_wp2_with fail
            go_roundw
            case rel =>
              refine ⟨i + 1, g + lo, m + lt, by go_num, by go_num, by go_num, by omega, hide ?_, hide ?_, HBY⟩
              · have := hG.out; rw [HGO.out, ← HLOL.out] at this; omega
              · have := hM.out; rw [HMO.out, ← HLTL.out] at this; omega
            case measure => simp [intOf]; omega
        · obtain rfl : i = n := by omega
          have bg := hG.out; have bm := hM.out
          rw [List.drop_eq_nil_of_le (by rw [HN.out]; exact Nat.le_refl _)] at bg bm
          have bg : g = goneP s es := bg
          have bm : m = moreP es := bm
          obtain ⟨x, hx⟩ : ∃ x, x = linesP s := ⟨_, rfl⟩
          obtain ⟨y, hy⟩ : ∃ x, x = linesP t := ⟨_, rfl⟩
          have bG := HGN.out; have bMR := HMR.out
          have l1 := linesP_len s; have l2 := linesP_len t
          rw [← bg, ← hx, ← hy] at bG
          rw [← bm, ← hx, ← hy] at bMR
          rw [← hx] at l1
          rw [← hy] at l2
          have HC := hide fun u v w hu hv => Common_run u v x y w hu hv (by omega) (by omega)
          have HL1' := HL1.out; have HL2' := HL2.out
          unfold LinesPost at HL1' HL2'
          rw [← hx] at HL1'
          rw [← hy] at HL2'
          have HLA := Lib.hid HL1'; have HLB := Lib.hid HL2'
          unfold mx at bG bMR
          obtain ⟨M, hM'⟩ : ∃ M, M = lcs x y x.length y.length := ⟨_, rfl⟩
          obtain ⟨X, hX⟩ : ∃ X, X = x.length := ⟨_, rfl⟩
          obtain ⟨Y, hY⟩ : ∃ Y, Y = y.length := ⟨_, rfl⟩
          rw [← hM', ← hX] at bG
          rw [← hM', ← hY] at bMR
          rw [← hX] at l1
          rw [← hY] at l2
          have HMM := Lib.hid hM'; have HXX := Lib.hid hX; have HYY := Lib.hid hY
          have w138 : IntKind.i64.wrap ((X : Int) - (M : Int)) = (g : Int) := by rw [IntWalk.i64_in _ (by omega)]; omega
          have w145 : IntKind.i64.wrap ((Y : Int) - (M : Int)) = (m : Int) := by rw [IntWalk.i64_in _ (by omega)]; omega
          clear bg bm hx hy bG bMR HL1 HL2 HL1' HL2' hM' hX hY hG hM l1 l2
          go_wp2_with fail
          refine (HLA.out _).mono ?_; rintro e wx ⟨ua, rfl, hBx, hSx⟩
          have HBX := hide (hB.out.trans (hBx.mono hB.out.size)); have HSX := hide hSx
          clear hBx hSx hB
          go_wp2_with fail
          refine (HLB.out _).mono ?_; rintro e wy ⟨ub, rfl, hBy, hSy⟩
          have HBY := hide (HBX.out.trans (hBy.mono HBX.out.size))
          have HCC := hide (HC.out ua ub wy ((HSX.out.same (Same.of_below hBy)).more hBy.size) hSy)
          obtain ⟨Aa, ca, rfl, ha1, ha2, _⟩ := HSX.out.parts
          obtain ⟨Ab, cb, rfl, hb1, hb2, _⟩ := hSy.parts
          have hma := maxLen_le ha2; have hmb := maxLen_le hb2
          rw [← HMM.out] at HCC
          rw [← HXX.out] at HCC ha1 ⊢
          rw [← HYY.out] at HCC hb1 ⊢
          clear hBy hSy ha2 hb2
          go_wp2_with fail
          refine (unhide HCC).mono ?_; rintro e wz ⟨rfl, hBz⟩
          have HBZ := hide (HBY.out.trans (hBz.mono HBY.out.size))
          clear hBz HCC
          have HX := hide (example_run wz)
          go_wp2_with fail
          refine (unhide HX).mono ?_; rintro e wv ⟨rfl, hBv⟩
          have HBV := hide (HB2.out.trans ((HBZ.out.trans (hBv.mono HBZ.out.size)).mono HB2.out.size))
          clear hBv HX
          go_wp2_with fail
          go_ret
          exact ⟨rfl, HBV.out⟩
end Go.Proofs.Ytbfgnafpianliaa
