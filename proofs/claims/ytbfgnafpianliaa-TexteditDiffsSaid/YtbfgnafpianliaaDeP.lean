/- What Diff returns: the edits change the one text to the other, at lines, apart, as few as can be. -/
import Derived.Test.YtbfgnafpianliaaDcP
namespace Go.Proofs.Ytbfgnafpianliaa
open Go.RowKit

theorem preLen_take : ∀ a b : List ByteArray, a.take (preLen a b) = b.take (preLen a b)
  | [], b => by simp [preLen]
  | a :: l, [] => by simp [preLen]
  | a :: l, b :: m => by
    unfold preLen
    split
    · rename_i h
      rw [List.take_succ_cons, List.take_succ_cons, h, preLen_take l m]
    · simp
theorem preLen_self : ∀ a : List ByteArray, preLen a a = a.length
  | [] => rfl
  | a :: l => by simp [preLen, preLen_self l]
theorem end_drop (x y : List ByteArray) : x.drop (x.length - endP x y) = y.drop (y.length - endP x y) := by
  have h := ends_le x y
  have ht := preLen_take (x.drop (startP x y)).reverse (y.drop (startP x y)).reverse
  rw [List.take_reverse, List.take_reverse] at ht
  have ht := List.reverse_inj.1 ht
  rw [List.drop_drop, List.drop_drop, List.length_drop, List.length_drop] at ht
  have e : preLen (x.drop (startP x y)).reverse (y.drop (startP x y)).reverse = endP x y := rfl
  rw [e, show startP x y + (x.length - startP x y - endP x y) = x.length - endP x y by omega, show startP x y + (y.length - startP x y - endP x y) = y.length - endP x y by omega] at ht
  exact ht

/-- Matched pairs in order; behind the last one both go on alike. -/
def Path (x y : List ByteArray) : Nat → Nat → List (Nat × Nat) → Prop
  | _, _, [] => False
  | la, lb, [p] => la ≤ p.1 ∧ lb ≤ p.2 ∧ p.1 ≤ x.length ∧ p.2 ≤ y.length ∧ x.drop p.1 = y.drop p.2
  | la, lb, p :: q :: l => la ≤ p.1 ∧ lb ≤ p.2 ∧ (∃ z, x[p.1]? = some z ∧ y[p.2]? = some z) ∧ Path x y (p.1 + 1) (p.2 + 1) (q :: l)
def cnt (x : List ByteArray) : List (Nat × Nat) → Nat
  | [] => 0
  | [p] => x.length - p.1
  | _ :: q :: l => 1 + cnt x (q :: l)

theorem path_of (x y : List ByteArray) (ha hb : Nat) (h1 : ha ≤ x.length) (h2 : hb ≤ y.length) (hd : x.drop ha = y.drop hb) :
    ∀ (l : List (Nat × Nat)) (la lb : Nat), Inc2 ha hb la lb l → (∀ p ∈ l, ∃ z, x[p.1]? = some z ∧ y[p.2]? = some z) → Path x y la lb (l ++ [(ha, hb)]) ∧ cnt x (l ++ [(ha, hb)]) = l.length + (x.length - ha)
  | [], la, lb, h, _ => ⟨⟨h.1, h.2, h1, h2, hd⟩, by simp [cnt]⟩
  | p :: l, la, lb, ⟨i1, i2, i3, i4, i5⟩, h => by
    obtain ⟨a, b⟩ := path_of x y ha hb h1 h2 hd l (p.1 + 1) (p.2 + 1) i5 (fun q hq => h q (List.mem_cons_of_mem _ hq))
    have hp := h p (List.mem_cons_self ..)
    cases l with
    | nil => exact ⟨⟨i1, i2, hp, a⟩, by simp only [List.cons_append, List.nil_append, cnt, List.length_cons, List.length_nil] at b ⊢; try omega⟩
    | cons q l => exact ⟨⟨i1, i2, hp, a⟩, by simp only [List.cons_append, cnt, List.length_cons] at b ⊢; try omega⟩

theorem mx_pre : ∀ (c a b : List ByteArray), mx (c ++ a) (c ++ b) = c.length + mx a b
  | [], a, b => by simp
  | z :: c, a, b => by
    have ih := mx_pre c a b
    apply Nat.le_antisymm
    · have h : CS (z :: (c ++ a)) (z :: (c ++ b)) (mx (z :: c ++ a) (z :: c ++ b)) := mx_cs _ _
      simp only [List.length_cons]
      rcases h.inv with h0 | h1 | h2 | ⟨_, n', h4, h5⟩
      · omega
      · have := mx_max (h1.drop_right rfl); omega
      · have := mx_max h2.drop_left; omega
      · have := mx_max h5; omega
    · have h := (mx_cs (c ++ a) (c ++ b)).both (x := z)
      have := mx_max h
      rw [ih] at this
      simp only [List.length_cons, List.cons_append] at this ⊢
      omega
theorem mx_suf (a b c : List ByteArray) : mx (a ++ c) (b ++ c) = mx a b + c.length := by
  rw [← mx_rev, List.reverse_append, List.reverse_append, mx_pre, mx_rev, List.length_reverse]; omega

theorem pairs_path (x y : List ByteArray) : Path x y (startP x y) (startP x y) (pairsP x y) ∧ cnt x (pairsP x y) = mx (x.drop (startP x y)) (y.drop (startP x y)) ∧ mx x y = startP x y + mx (x.drop (startP x y)) (y.drop (startP x y)) := by
  have h := ends_le x y
  have hd := end_drop x y
  have hp : x.take (startP x y) = y.take (startP x y) := preLen_take x y
  have hi := commonF_inc x.length (seg x (startP x y) (x.length - endP x y)) (seg y (startP x y) (y.length - endP x y)) (startP x y) (startP x y)
  have he := commonF_eq x y x.length (seg x (startP x y) (x.length - endP x y)) (seg y (startP x y) (y.length - endP x y)) (startP x y) (startP x y)
  have hm := commonF_mx x.length (seg x (startP x y) (x.length - endP x y)) (seg y (startP x y) (y.length - endP x y)) (startP x y) (startP x y)
  unfold pairsP
  obtain ⟨st, hst⟩ : ∃ n, n = startP x y := ⟨_, rfl⟩
  obtain ⟨en, hen⟩ : ∃ n, n = endP x y := ⟨_, rfl⟩
  rw [← hen] at h hd hi he hm ⊢
  rw [← hst] at h hp hi he hm ⊢
  have s1 := seg_len x (i := st) (j := x.length - en) (by omega) (by omega)
  have s2 := seg_len y (i := st) (j := y.length - en) (by omega) (by omega)
  rw [s1, s2, show st + (x.length - en - st) = x.length - en by omega, show st + (y.length - en - st) = y.length - en by omega] at hi
  have hm := hm (by omega)
  obtain ⟨p1, p2⟩ := path_of x y (x.length - en) (y.length - en) (by omega) (by omega) hd _ st st hi (he (fun r hr => by
    rw [s1] at hr
    rw [seg, List.getElem?_drop, List.getElem?_take, if_pos (by omega)]) (fun r hr => by
    rw [s2] at hr
    rw [seg, List.getElem?_drop, List.getElem?_take, if_pos (by omega)]))
  refine ⟨p1, ?_, ?_⟩
  · rw [p2, hm]
    have e1 : x.drop st = seg x st (x.length - en) ++ x.drop (x.length - en) := by
      have := take_seg (x.drop st) (i := 0) (j := x.length - en - st) (by omega)
      rw [seg, List.drop_take]
      have h2 := (List.take_append_drop (x.length - en - st) (x.drop st)).symm
      rwa [List.drop_drop, show st + (x.length - en - st) = x.length - en by omega] at h2
    have e2 : y.drop st = seg y st (y.length - en) ++ y.drop (y.length - en) := by
      rw [seg, List.drop_take]
      have h2 := (List.take_append_drop (y.length - en - st) (y.drop st)).symm
      rwa [List.drop_drop, show st + (y.length - en - st) = y.length - en by omega] at h2
    rw [e1, e2, hd, mx_suf, ← hd, List.length_drop]
  · have h1 := (List.take_append_drop st x).symm
    have h2 := (List.take_append_drop st y).symm
    have := mx_pre (x.take st) (x.drop st) (y.drop st)
    rw [List.take_append_drop, hp, List.take_append_drop, List.length_take, Nat.min_eq_left (by omega)] at this
    exact this

/-- The law's words. -/
def beginsP (s : ByteArray) (i : Int) : Prop := i = 0 ∨ i = s.size ∨ (0 < i ∧ i < s.size ∧ s.get! (i - 1).toNat = 10)
def oldP (s : ByteArray) (e : Ed) : ByteArray := s.extract e.fr.toNat e.to.toNat
def goneP (s : ByteArray) : List Ed → Nat
  | [] => 0
  | e :: l => (linesP (oldP s e)).length + goneP s l
def moreP : List Ed → Nat
  | [] => 0
  | e :: l => (linesP e.tx).length + moreP l
def Sep : Int → List Ed → Prop
  | _, [] => True
  | p, e :: l => p < e.fr ∧ Sep e.to l
def EOk (s : ByteArray) (e : Ed) : Prop := beginsP s e.fr ∧ beginsP s e.to ∧ oldP s e ≠ e.tx
theorem goneP_append (s : ByteArray) : ∀ a b, goneP s (a ++ b) = goneP s a + goneP s b
  | [], b => by simp [goneP]
  | e :: l, b => by simp only [List.cons_append, goneP, goneP_append s l b]; omega
theorem moreP_append : ∀ a b, moreP (a ++ b) = moreP a + moreP b
  | [], b => by simp [moreP]
  | e :: l, b => by simp only [List.cons_append, moreP, moreP_append l b]; omega
theorem Sep.less : ∀ {l : List Ed} {p q : Int}, Sep p l → q ≤ p → Sep q l
  | [], _, _, _, _ => trivial
  | _ :: _, _, _, ⟨h1, h2⟩, h => ⟨by omega, h2⟩

section
variable {x y : List ByteArray}
theorem total_mono (x : List ByteArray) {i j : Nat} (h : i ≤ j) : totalB (x.take i) ≤ totalB (x.take j) := by
  rw [totalB_seg x h]; omega
theorem total_all (x : List ByteArray) : totalB x = (joinB x).size := (joinB_size x).symm
theorem total_le (x : List ByteArray) (i : Nat) : totalB (x.take i) ≤ (joinB x).size := by
  rw [← total_all]; exact totalB_take_le x i
theorem total_pos (hx : GoodL x) {i j : Nat} (h : i < j) (hj : j ≤ x.length) : totalB (x.take i) < totalB (x.take j) := by
  have h1 := total_mono x (i := i + 1) (j := j) (by omega)
  rw [take_succ_total] at h1
  have h2 := (hx.at_ i (x.getD i ByteArray.empty) (by rw [List.getD_eq_getElem?_getD, List.getElem?_eq_getElem (by omega)]; rfl)).1
  omega
theorem ext_seg (x : List ByteArray) {i j : Nat} (h : i ≤ j) : (joinB x).extract (totalB (x.take i)) (totalB (x.take j)) = joinB (seg x i j) := by
  have e : joinB x = joinB (x.take i) ++ joinB (seg x i j) ++ joinB (x.drop j) := by
    rw [← joinB_append, ← joinB_append, ← take_seg x h, List.take_append_drop]
  have := ext_mid (joinB (x.take i)) (joinB (seg x i j)) (joinB (x.drop j))
  rw [← e, joinB_size, joinB_size, ← totalB_seg x h] at this
  exact this
theorem ext_drop (x : List ByteArray) (i : Nat) : (joinB x).extract (totalB (x.take i)) (joinB x).size = joinB (x.drop i) := by
  have e : joinB x = joinB (x.take i) ++ joinB (x.drop i) := by rw [← joinB_append, List.take_append_drop]
  have := ext_end (joinB (x.take i)) (joinB (x.drop i))
  rw [← e, joinB_size] at this
  exact this
theorem seg_one (x : List ByteArray) {i : Nat} {z : ByteArray} (h : x[i]? = some z) : seg x i (i + 1) = [z] := by
  have hi := (List.getElem?_eq_some_iff.1 h).1
  rw [seg, List.take_add_one, h, List.drop_append_of_le_length (by rw [List.length_take]; omega), List.drop_of_length_le (by rw [List.length_take]; omega)]
  rfl
theorem drop_seg (y : List ByteArray) {i j : Nat} (h : i ≤ j) : y.drop i = seg y i j ++ y.drop j := by
  rw [seg, List.drop_take]
  have h2 := (List.take_append_drop (j - i) (y.drop i)).symm
  rwa [List.drop_drop, show i + (j - i) = j by omega] at h2
theorem seg_nil (y : List ByteArray) (hy : GoodL y) {i j : Nat} (h : i ≤ j) (hj : j ≤ y.length) (he : joinB (seg y i j) = ByteArray.empty) : i = j := by
  rcases Nat.lt_or_ge i j with hlt | hge
  · have h1 := total_pos hy hlt hj
    have h2 := totalB_seg y h
    rw [← joinB_size (seg y i j), he] at h2
    have : ByteArray.empty.size = 0 := rfl
    omega
  · omega

/-- The text behind the edits. -/
theorem text_law (hx : GoodL x) (hy : GoodL y) : ∀ (l : List (Nat × Nat)) (la lb : Nat) (out : ByteArray) (p : Nat), Path x y la lb l → p ≤ totalB (x.take la) →
    joinP (joinB x) out p (edsF x y la lb l) = out ++ (joinB x).extract p (totalB (x.take la)) ++ joinB (y.drop lb)
  | [(pa, pb)], la, lb, out, p, ⟨h1, h2, h3, h4, h5⟩, hp => by
    have h1 : la ≤ pa := h1
    have h2 : lb ≤ pb := h2
    have h5 : x.drop pa = y.drop pb := h5
    have hs := total_mono x h1
    have ha := total_le x pa
    have hd := ext_drop x pa
    unfold edsF
    rw [drop_seg y h2, joinB_append, ← h5, ← hd]
    by_cases hc : totalB (x.take la) < totalB (x.take pa) ∨ joinB (seg y lb pb) ≠ ByteArray.empty
    · rw [if_pos hc]
      simp only [edsF, List.append_nil, joinP, Int.toNat_natCast, bytes_assoc]
    · rw [if_neg hc]
      have e1 : totalB (x.take la) = totalB (x.take pa) := by omega
      have e2 : joinB (seg y lb pb) = ByteArray.empty := Classical.byContradiction fun h => hc (Or.inr h)
      simp only [edsF, List.append_nil, joinP]
      rw [e2, empty_append, e1, bytes_assoc, ext_join _ (by omega) ha]
  | (pa, pb) :: q :: l, la, lb, out, p, ⟨h1, h2, ⟨z, hz1, hz2⟩, h6⟩, hp => by
    have h1 : la ≤ pa := h1
    have h2 : lb ≤ pb := h2
    have hz1 : x[pa]? = some z := hz1
    have hz2 : y[pb]? = some z := hz2
    have hs := total_mono x h1
    have hs2 := total_mono x (show pa ≤ pa + 1 by omega)
    have hzx : (joinB x).extract (totalB (x.take pa)) (totalB (x.take (pa + 1))) = z := by
      rw [ext_seg x (show pa ≤ pa + 1 by omega), seg_one x hz1]; simp only [joinB, append_empty]
    have hyd : joinB (y.drop lb) = joinB (seg y lb pb) ++ (z ++ joinB (y.drop (pb + 1))) := by
      rw [drop_seg y h2, drop_seg y (show pb ≤ pb + 1 by omega), seg_one y hz2, joinB_append, joinB_append]
      simp only [joinB, append_empty]
    unfold edsF
    rw [hyd]
    by_cases hc : totalB (x.take la) < totalB (x.take pa) ∨ joinB (seg y lb pb) ≠ ByteArray.empty
    · rw [if_pos hc]
      simp only [List.cons_append, List.nil_append, joinP, Int.toNat_natCast]
      rw [text_law hx hy (q :: l) (pa + 1) (pb + 1) _ _ h6 hs2, hzx]
      simp only [bytes_assoc]
    · rw [if_neg hc]
      have e1 : totalB (x.take la) = totalB (x.take pa) := by omega
      have e2 : joinB (seg y lb pb) = ByteArray.empty := Classical.byContradiction fun h => hc (Or.inr h)
      rw [List.nil_append, text_law hx hy (q :: l) (pa + 1) (pb + 1) _ _ h6 (by omega), e2, empty_append, e1]
      rw [← ext_join (joinB x) (show p ≤ totalB (x.take pa) by omega) hs2, hzx]
      simp only [bytes_assoc]
theorem chain_law : ∀ (l : List (Nat × Nat)) (la lb p : Nat), Path x y la lb l → p ≤ totalB (x.take la) → Chain (joinB x).size p (edsF x y la lb l)
  | [(pa, pb)], la, lb, p, ⟨h1, _, _, _, _⟩, hp => by
    have h1 : la ≤ pa := h1
    have hs := total_mono x h1
    have ha := total_le x pa
    unfold edsF
    split
    · simp only [edsF, List.append_nil, Chain]; omega
    · simp only [edsF, List.append_nil, Chain]; omega
  | (pa, pb) :: q :: l, la, lb, p, ⟨h1, _, _, h6⟩, hp => by
    have h1 : la ≤ pa := h1
    have hs := total_mono x h1
    have hs2 := total_mono x (show pa ≤ pa + 1 by omega)
    have ha := total_le x pa
    unfold edsF
    split
    · simp only [List.cons_append, List.nil_append, Chain]
      exact ⟨by omega, by omega, by omega, chain_law (q :: l) (pa + 1) (pb + 1) _ h6 hs2⟩
    · rw [List.nil_append]
      exact chain_law (q :: l) (pa + 1) (pb + 1) p h6 (by omega)
end
end Go.Proofs.Ytbfgnafpianliaa
