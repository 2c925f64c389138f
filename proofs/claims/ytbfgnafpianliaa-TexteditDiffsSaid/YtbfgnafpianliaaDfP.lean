/- What Diff returns: whole lines, apart, as few as can be. -/
import Derived.Test.YtbfgnafpianliaaDeP
namespace Go.Proofs.Ytbfgnafpianliaa
open Go.RowKit

section
variable {x y : List ByteArray}
theorem begins_at (hx : GoodL x) (k : Nat) (hk : k ≤ x.length) : beginsP (joinB x) (totalB (x.take k) : Int) := by
  rcases Nat.eq_zero_or_pos k with h0 | h0
  · subst h0; left; simp [totalB]
  · rcases Nat.lt_or_ge k x.length with h1 | h1
    · right; right
      obtain ⟨i, rfl⟩ : ∃ i, k = i + 1 := ⟨k - 1, by omega⟩
      obtain ⟨z, hz⟩ : ∃ z, x[i]? = some z := ⟨_, List.getElem?_eq_getElem (by omega)⟩
      obtain ⟨g1, g2⟩ := hx.at_ i z hz
      have hl := total_pos hx h1 (Nat.le_refl _)
      have hl2 : totalB (x.take x.length) = (joinB x).size := by rw [List.take_length, total_all]
      rw [hl2] at hl
      have hd : x.getD i ByteArray.empty = z := by rw [List.getD_eq_getElem?_getD, hz]; rfl
      have hs := take_succ_total x i
      rw [hd] at hs
      refine ⟨by omega, by omega, ?_⟩
      have e : joinB x = joinB (x.take i) ++ (z ++ joinB (x.drop (i + 1))) := by
        have h2 : x = x.take i ++ (z :: x.drop (i + 1)) := by
          have := (List.take_append_drop i x).symm
          rwa [List.drop_eq_getElem_cons (by omega), show x[i] = z by
            have := (List.getElem?_eq_some_iff.1 hz).2; exact this] at this
        conv => lhs; rw [h2]
        rw [joinB_append]; rfl
      have e2 : ((totalB (x.take (i + 1)) : Int) - 1).toNat = (joinB (x.take i)).size + (z.size - 1) := by rw [joinB_size]; omega
      rw [e2, e, get_right, get_left _ _ (by omega)]
      exact g2 h1
    · right; left
      rw [List.take_of_length_le h1, total_all]

theorem lines_seg (hx : GoodL x) (i j : Nat) : linesP (joinB (seg x i j)) = seg x i j := lines_of _ (hx.seg i j)

/-- The number of matched members from la, lb on is no greater than it can be. -/
theorem cnt_le : ∀ (l : List (Nat × Nat)) (la lb : Nat), Path x y la lb l → CS (x.drop la) (y.drop lb) (cnt x l)
  | [(pa, pb)], la, lb, ⟨h1, h2, h3, h4, h5⟩ => by
    have h1 : la ≤ pa := h1
    have h2 : lb ≤ pb := h2
    have h5 : x.drop pa = y.drop pb := h5
    rw [drop_seg x h1, drop_seg y h2, ← h5]
    refine CS.pre ?_ _ _
    have := mx_cs (x.drop pa) (x.drop pa)
    have e := mx_pre (x.drop pa) [] []
    rw [List.append_nil] at e
    rw [e, List.length_drop] at this
    exact this.less _ (by simp [cnt])
  | (pa, pb) :: q :: l, la, lb, ⟨h1, h2, ⟨z, hz1, hz2⟩, h6⟩ => by
    have h1 : la ≤ pa := h1
    have h2 : lb ≤ pb := h2
    have ih := cnt_le (q :: l) (pa + 1) (pb + 1) h6
    rw [drop_seg x h1, drop_seg y h2]
    refine CS.pre ?_ _ _
    rw [drop_seg x (show pa ≤ pa + 1 by omega), drop_seg y (show pb ≤ pb + 1 by omega), seg_one x hz1, seg_one y hz2]
    simp only [cnt]
    exact (CS.single z).append ih

theorem main_law (hx : GoodL x) (hy : GoodL y) : ∀ (l : List (Nat × Nat)) (la lb : Nat), Path x y la lb l → cnt x l = mx (x.drop la) (y.drop lb) →
    (∀ e ∈ edsF x y la lb l, EOk (joinB x) e) ∧ (∀ p : Int, p < totalB (x.take la) → Sep p (edsF x y la lb l)) ∧
    goneP (joinB x) (edsF x y la lb l) + cnt x l + la = x.length ∧ moreP (edsF x y la lb l) + cnt x l + lb = y.length
  | [(pa, pb)], la, lb, hP, hc => by
    have hcs := cnt_le _ _ _ hP
    obtain ⟨h1, h2, h3, h4, h5⟩ := hP
    have h1 : la ≤ pa := h1
    have h2 : lb ≤ pb := h2
    have h3 : pa ≤ x.length := h3
    have h4 : pb ≤ y.length := h4
    have h5 : x.drop pa = y.drop pb := h5
    have hlen : x.length - pa = y.length - pb := by rw [← List.length_drop, h5, List.length_drop]
    have hc : x.length - pa = mx (x.drop la) (y.drop lb) := hc
    have hs1 := seg_len x h1 h3
    have hs2 := seg_len y h2 h4
    have hne : seg x la pa = seg y lb pb → la = pa := fun he => by
      have hm : mx (x.drop la) (y.drop lb) = (seg x la pa).length + (x.length - pa) := by
        rw [drop_seg x h1, drop_seg y h2, ← h5, ← he, mx_pre]
        have e := mx_pre (x.drop pa) [] []
        rw [List.append_nil] at e
        rw [e, List.length_drop]; simp [mx, lcs]
      omega
    unfold edsF
    simp only [edsF, List.append_nil, cnt]
    by_cases hcd : totalB (x.take la) < totalB (x.take pa) ∨ joinB (seg y lb pb) ≠ ByteArray.empty
    · rw [if_pos hcd]
      have hold : oldP (joinB x) ⟨totalB (x.take la), totalB (x.take pa), joinB (seg y lb pb)⟩ = joinB (seg x la pa) := by
        simp only [oldP, Int.toNat_natCast]; exact ext_seg x h1
      refine ⟨fun e he => ?_, fun p hp => ⟨hp, trivial⟩, ?_, ?_⟩
      · simp at he; subst he
        refine ⟨begins_at hx la (by omega), begins_at hx pa h3, fun heq => ?_⟩
        rw [hold] at heq
        have heq : joinB (seg x la pa) = joinB (seg y lb pb) := heq
        have hss : seg x la pa = seg y lb pb := by rw [← lines_seg hx la pa, heq, lines_seg hy]
        have hla := hne hss
        rcases hcd with h | h
        · rw [hla] at h; exact absurd h (Nat.lt_irrefl _)
        · rw [← heq, hla] at h
          apply h
          have : seg x pa pa = [] := List.eq_nil_of_length_eq_zero (by rw [seg_len x (Nat.le_refl _) h3]; omega)
          rw [this]; rfl
      · simp only [goneP]; rw [hold, lines_seg hx, hs1]; omega
      · simp only [moreP]; rw [lines_seg hy, hs2]; omega
    · rw [if_neg hcd]
      have e1 : totalB (x.take la) = totalB (x.take pa) := by have := total_mono x h1; omega
      have e2 : joinB (seg y lb pb) = ByteArray.empty := Classical.byContradiction fun h => hcd (Or.inr h)
      have e3 : la = pa := by
        rcases Nat.lt_or_ge la pa with h | h
        · have := total_pos hx h h3; omega
        · omega
      have e4 := seg_nil y hy h2 h4 e2
      refine ⟨(fun e he => by cases he), fun p hp => trivial, ?_, ?_⟩
      · simp only [goneP]; omega
      · simp only [moreP]; omega
  | (pa, pb) :: q :: l, la, lb, hP, hc => by
    obtain ⟨h1, h2, ⟨z, hz1, hz2⟩, h6⟩ := hP
    have h1 : la ≤ pa := h1
    have h2 : lb ≤ pb := h2
    have hz1 : x[pa]? = some z := hz1
    have hz2 : y[pb]? = some z := hz2
    have h3 : pa < x.length := (List.getElem?_eq_some_iff.1 hz1).1
    have h4 : pb < y.length := (List.getElem?_eq_some_iff.1 hz2).1
    have hcq := cnt_le (q :: l) (pa + 1) (pb + 1) h6
    have hc : 1 + cnt x (q :: l) = mx (x.drop la) (y.drop lb) := hc
    have hs1 := seg_len x h1 (by omega)
    have hs2 := seg_len y h2 (by omega)
    have hdx : x.drop la = seg x la pa ++ ([z] ++ x.drop (pa + 1)) := by
      rw [drop_seg x h1, drop_seg x (show pa ≤ pa + 1 by omega), seg_one x hz1]
    have hdy : y.drop lb = seg y lb pb ++ ([z] ++ y.drop (pb + 1)) := by
      rw [drop_seg y h2, drop_seg y (show pb ≤ pb + 1 by omega), seg_one y hz2]
    have hbig := mx_max (CS.pre ((CS.single z).append (mx_cs (x.drop (pa + 1)) (y.drop (pb + 1)))) (seg x la pa) (seg y lb pb))
    rw [← hdx, ← hdy] at hbig
    have hcq' := mx_max hcq
    obtain ⟨i1, i2, i3, i4⟩ := main_law hx hy (q :: l) (pa + 1) (pb + 1) h6 (by omega)
    have hstep : totalB (x.take pa) < totalB (x.take (pa + 1)) := total_pos hx (by omega) (by omega)
    have hsep := i2 (totalB (x.take pa)) (by omega)
    have hne : seg x la pa = seg y lb pb → la = pa := fun he => by
      have hm : mx (x.drop la) (y.drop lb) = (seg x la pa).length + (1 + mx (x.drop (pa + 1)) (y.drop (pb + 1))) := by
        rw [hdx, hdy, ← he, mx_pre, mx_pre]; rfl
      omega
    unfold edsF
    simp only [cnt]
    by_cases hcd : totalB (x.take la) < totalB (x.take pa) ∨ joinB (seg y lb pb) ≠ ByteArray.empty
    · rw [if_pos hcd]
      have hold : oldP (joinB x) ⟨totalB (x.take la), totalB (x.take pa), joinB (seg y lb pb)⟩ = joinB (seg x la pa) := by
        simp only [oldP, Int.toNat_natCast]; exact ext_seg x h1
      simp only [List.cons_append, List.nil_append]
      refine ⟨fun e he => ?_, fun p hp => ⟨hp, hsep⟩, ?_, ?_⟩
      · rcases List.mem_cons.1 he with rfl | he
        · refine ⟨begins_at hx la (by omega), begins_at hx pa (by omega), fun heq => ?_⟩
          rw [hold] at heq
          have heq : joinB (seg x la pa) = joinB (seg y lb pb) := heq
          have hss : seg x la pa = seg y lb pb := by rw [← lines_seg hx la pa, heq, lines_seg hy]
          have hla := hne hss
          rcases hcd with h | h
          · rw [hla] at h; exact absurd h (Nat.lt_irrefl _)
          · rw [← heq, hla] at h
            apply h
            have : seg x pa pa = [] := List.eq_nil_of_length_eq_zero (by rw [seg_len x (Nat.le_refl _) (by omega)]; omega)
            rw [this]; rfl
        · exact i1 e he
      · simp only [goneP]; rw [hold, lines_seg hx, hs1]; omega
      · simp only [moreP]; rw [lines_seg hy, hs2]; omega
    · rw [if_neg hcd, List.nil_append]
      have e1 : totalB (x.take la) = totalB (x.take pa) := by have := total_mono x h1; omega
      have e2 : joinB (seg y lb pb) = ByteArray.empty := Classical.byContradiction fun h => hcd (Or.inr h)
      have e3 : la = pa := by
        rcases Nat.lt_or_ge la pa with h | h
        · have := total_pos hx h (by omega); omega
        · omega
      have e4 := seg_nil y hy h2 (by omega) e2
      exact ⟨i1, fun p hp => i2 p (by omega), by omega, by omega⟩
end

/-- The whole of it. -/
theorem diff_law (a b : ByteArray) (hb : b.size ≤ 65536) : applyP a (diffP a b) = (b, 0) ∧ (∀ e ∈ diffP a b, EOk a e) ∧ Sep (-1) (diffP a b) ∧
    goneP a (diffP a b) + mx (linesP a) (linesP b) = (linesP a).length ∧ moreP (diffP a b) + mx (linesP a) (linesP b) = (linesP b).length := by
  obtain ⟨x, hx⟩ : ∃ x, x = linesP a := ⟨_, rfl⟩
  obtain ⟨y, hy⟩ : ∃ x, x = linesP b := ⟨_, rfl⟩
  have gx : GoodL x := by rw [hx]; exact lines_good a
  have gy : GoodL y := by rw [hy]; exact lines_good b
  have ja : joinB x = a := by rw [hx]; exact lines_join a
  have jb : joinB y = b := by rw [hy]; exact lines_join b
  obtain ⟨p1, p2, p3⟩ := pairs_path x y
  obtain ⟨m1, m2, m3, m4⟩ := main_law gx gy _ _ _ p1 p2
  have ht := text_law gx gy _ _ _ ByteArray.empty 0 p1 (Nat.zero_le _)
  have hc := chain_law _ _ _ 0 p1 (Nat.zero_le _)
  have hst : x.take (startP x y) = y.take (startP x y) := preLen_take x y
  have hes := ends_le x y
  have hfull : joinP a ByteArray.empty 0 (diffP a b) = b := by
    rw [diffP, ← hx, ← hy, diffL, ← ja, ht, empty_append]
    have h0 := ext_seg x (Nat.zero_le (startP x y))
    have e0 : totalB (x.take 0) = 0 := by simp [totalB]
    rw [e0] at h0
    rw [h0]
    have e1 : seg x 0 (startP x y) = x.take (startP x y) := by simp [seg]
    rw [e1, hst, ← joinB_append, List.take_append_drop, jb]
  rw [ja] at m1 m3 hc
  have hD : diffP a b = edsF x y (startP x y) (startP x y) (pairsP x y) := by rw [diffP, ← hx, ← hy, diffL]
  rw [← hD] at m1 m2 m3 m4 hc
  refine ⟨?_, m1, m2 (-1) (by omega), ?_, ?_⟩
  · have hz := joinP_size a (diffP a b) ByteArray.empty 0 hc
    rw [hfull] at hz
    have h0 : (ByteArray.empty.size : Int) = 0 := rfl
    rw [applyP, if_neg (by rw [check_of_chain hc]; simp), if_neg (by
      have : (a.size : Int) = (ByteArray.empty.size : Int) + (a.size - ((0 : Nat) : Int)) := by rw [h0]; omega
      rw [this, ← hz]; omega), hfull]
  · rw [← hx, ← hy]; omega
  · rw [← hx, ← hy]; omega
theorem diff_same (a : ByteArray) : diffP a a = [] := by
  obtain ⟨x, hx⟩ : ∃ x, x = linesP a := ⟨_, rfl⟩
  rw [diffP, ← hx, diffL]
  have h1 : startP x x = x.length := preLen_self x
  have h2 : endP x x = 0 := by unfold endP; rw [h1]; simp [preLen]
  have h3 : seg x x.length x.length = [] := by simp [seg]
  rw [pairsP, h1, h2, Nat.sub_zero, h3]
  have h4 : commonF x.length [] [] x.length x.length = [] := by
    cases x.length with
    | zero => rfl
    | succ n => simp [commonF]
  rw [h4, List.nil_append, edsF, h3]
  simp [edsF, joinB]
end Go.Proofs.Ytbfgnafpianliaa
