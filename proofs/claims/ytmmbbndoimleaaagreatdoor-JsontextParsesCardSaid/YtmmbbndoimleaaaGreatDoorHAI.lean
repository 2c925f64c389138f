/- A text that stands in another text is read alike: plain; A value that stands in another text is read alike; what is read, is sound but for its depth: plain; into of the reference: a member is laid behind all whose labels are not greater; clear of the reference: data with sorted members and without unused fields, whatever its depth; check and Check of the reference; Make of the reference; Get; find and Get of the reference; depth, Depth and Size of the reference; Same; items and members of the reference; compare, Compare and Equal of the reference; Compare and Equal of the reference, and that they are the program's. -/
import Derived.Test.YtmmbbndoimleaaaGreatDoorHAH
import Derived.Test.YtmmbbndoimleaaaGreatDoorHAF
import Derived.Test.YtmmbbndoimleaaaGreatDoorHAB
import Derived.Test.YtmmbbndoimleaaaGreatDoorHAC
import Derived.Test.YtmmbbndoimleaaaGreatDoorHAE

/- A text that stands in another text is read alike: plain. -/
namespace Go.Proofs.YtmmbbndoimleaaaGreatDoor
open Go.RowKit

/-- S stands in T at p; behind it nothing goes on with a number; b: blanks follow up to the end. -/
structure Shift (S T : ByteArray) (p : Nat) (b : Bool) : Prop where
  in_ : ∀ i, i < S.size → nx T (p + i) = nx S i
  size : p + S.size ≤ T.size
  dig : digB (nx T (p + S.size)) = false
  dot : nx T (p + S.size) ≠ 46
  next : b = true → nx T (p + S.size) = 13
  tail : b = true → blk T (p + S.size) = T.size
def Bad {α : Type} (t : Except Flt α) : Prop := ∃ f, t = .error f ∧ f.1 ≠ 0
/-- The answers of the two texts. -/
def Sim {α : Type} (b : Bool) (p n : Nat) (r t : Except Flt (α × Nat)) : Prop :=
  match r with
  | .ok (x, j) => t = .ok (x, p + j)
  | .error (e, a) => (e ≠ 0 ∧ 0 ≤ a ∧ a ≤ (n : Int)) ∧ (b = true → (a = (n : Int) → Bad t) ∧ (a ≠ (n : Int) → t = .error (e, a + (p : Int))))
def SimN (b : Bool) (p n : Nat) (r t : Except Flt Nat) : Prop :=
  match r with
  | .ok j => t = .ok (p + j)
  | .error (e, a) => (e ≠ 0 ∧ 0 ≤ a ∧ a ≤ (n : Int)) ∧ (b = true → (a = (n : Int) → Bad t) ∧ (a ≠ (n : Int) → t = .error (e, a + (p : Int))))
section
variable {S T : ByteArray} {p : Nat} {b : Bool}
theorem bad_mk {α : Type} (e a : Int) (h : e ≠ 0) : Bad (.error (e, a) : Except Flt α) := ⟨_, rfl, h⟩
/-- A fault at a place inside. -/
theorem sim_err {α : Type} {n : Nat} {e : Int} {i k : Nat} (hi : i < n) (hk : k = p + i) (he : e ≠ 0 := by decide) : Sim b p n (.error (e, (i : Int)) : Except Flt (α × Nat)) (.error (e, (k : Int))) := ⟨⟨he, by omega, by omega⟩, fun _ =>
  ⟨fun h => absurd h (by omega), fun _ => by rw [show (k : Int) = (i : Int) + (p : Int) by omega]⟩⟩
/-- A fault at the end. -/
theorem sim_end {α : Type} {n : Nat} {e : Int} {t : Except Flt (α × Nat)} (h : b = true → Bad t) (he : e ≠ 0 := by decide) : Sim b p n (.error (e, (n : Int)) : Except Flt (α × Nat)) t := ⟨⟨he, by omega, by omega⟩, fun hb =>
  ⟨fun _ => h hb, fun hn => absurd rfl hn⟩⟩
theorem simN_fault {α : Type} {n : Nat} {f : Flt} {t : Except Flt Nat} {u : Except Flt (α × Nat)} (h : SimN b p n (.error f) t) (hu : ∀ g, t = .error g → u = .error g) : Sim b p n (.error f : Except Flt (α × Nat)) u := ⟨h.1, fun hb => by
  obtain ⟨w1, w2⟩ := h.2 hb
  refine ⟨fun e => ?_, fun e => hu _ (w2 e)⟩
  obtain ⟨g, hg, hg2⟩ := w1 e
  exact ⟨g, hu _ hg, hg2⟩⟩
theorem sim_fault {α β : Type} {n : Nat} {f : Flt} {t : Except Flt (β × Nat)} {u : Except Flt (α × Nat)} (h : Sim b p n (.error f) t) (hu : ∀ g, t = .error g → u = .error g) : Sim b p n (.error f : Except Flt (α × Nat)) u := ⟨h.1, fun hb => by
  obtain ⟨w1, w2⟩ := h.2 hb
  refine ⟨fun e => ?_, fun e => hu _ (w2 e)⟩
  obtain ⟨g, hg, hg2⟩ := w1 e
  exact ⟨g, hu _ hg, hg2⟩⟩
theorem sh_run (H : Shift S T p b) {q : Nat → Bool} (h0 : q 0 = false) : ∀ (k i : Nat), S.size - i = k → i ≤ S.size → (runF q S i < S.size → runF q T (p + i) = p + runF q S i) ∧ (runF q S i = S.size → runF q T (p + i) = runF q T (p + S.size))
  | 0, i, hk, hi => by
    obtain rfl : i = S.size := by omega
    have e : runF q S S.size = S.size := run_stop (by rw [nx_past (by omega)]; exact h0)
    exact ⟨fun h => by omega, fun _ => rfl⟩
  | k + 1, i, hk, hi => by
    cases hq : q (nx S i) with
    | true =>
      have h2 : q (nx T (p + i)) = true := by rw [H.in_ i (by omega)]; exact hq
      rw [run_step h0 hq, run_step h0 h2, Nat.add_assoc]
      exact sh_run H h0 k (i + 1) (by omega) (by omega)
    | false =>
      have h2 : q (nx T (p + i)) = false := by rw [H.in_ i (by omega)]; exact hq
      rw [run_stop hq, run_stop h2]
      exact ⟨fun _ => rfl, fun h => by omega⟩
theorem sh_dge (H : Shift S T p b) {i : Nat} (hi : i ≤ S.size) : dge T (p + i) = p + dge S i := by
  obtain ⟨h1, h2⟩ := sh_run H (q := digB) rfl _ i rfl hi
  rcases Nat.lt_or_ge (runF digB S i) S.size with h | h
  · exact h1 h
  · have h3 : runF digB S i = S.size := by have := run_le digB hi; omega
    have h4 := h2 h3
    show runF digB T (p + i) = p + runF digB S i
    rw [h4, h3, run_stop H.dig]
theorem sh_blk (H : Shift S T p b) {i : Nat} (hi : i ≤ S.size) : (blk S i < S.size → blk T (p + i) = p + blk S i) ∧ (blk S i = S.size → blk T (p + i) = blk T (p + S.size)) := sh_run H rfl _ i rfl hi
theorem sh_word (H : Shift S T p b) : ∀ (l : List UInt8), (∀ c ∈ l, c.toNat ≠ 0 ∧ c.toNat ≠ 13) → ∀ i, i ≤ S.size → SimN b p S.size (wordF S l i) (wordF T l (p + i))
  | [], _, i, _ => rfl
  | c :: l, hl, i, hi => by
    obtain ⟨h0, h13⟩ := hl c (List.mem_cons_self ..)
    unfold wordF
    by_cases h : nx S i = c.toNat
    · have hi2 : i < S.size := nx_in (by rw [h]; exact h0)
      rw [if_pos h, if_pos (by rw [H.in_ i hi2]; exact h), Nat.add_assoc]
      exact sh_word H l (fun x hx => hl x (List.mem_cons_of_mem _ hx)) (i + 1) hi2
    · rw [if_neg h]
      refine ⟨⟨by decide, by omega, by omega⟩, fun hb => ?_⟩
      rcases Nat.eq_or_lt_of_le hi with rfl | hi2
      · rw [if_neg (by rw [H.next hb]; exact fun e => h13 e.symm)]
        exact ⟨fun _ => bad_mk _ _ (by decide), fun hn => absurd rfl hn⟩
      · rw [if_neg (by rw [H.in_ i hi2]; exact h)]
        exact ⟨fun e => absurd e (by omega), fun _ => by rw [show ((p + i : Nat) : Int) = (i : Int) + (p : Int) by omega]⟩
theorem sh_esc (H : Shift S T p b) {i : Nat} (hi : i < S.size) : Sim b p S.size (escF S i) (escF T (p + i)) := by
  rcases Nat.lt_or_ge (i + 1) S.size with h1 | h1
  · have e1 : nx T (p + i + 1) = nx S (i + 1) := by rw [Nat.add_assoc]; exact H.in_ _ h1
    unfold escF
    simp only [e1]
    generalize nx S (i + 1) = c
    by_cases a1 : c = 34 ∨ c = 92 ∨ c = 47
    · rw [if_pos a1, if_pos a1]; exact congrArg _ (by rw [Nat.add_assoc])
    rw [if_neg a1, if_neg a1]
    by_cases a2 : c = 98
    · rw [if_pos a2, if_pos a2]; exact congrArg _ (by rw [Nat.add_assoc])
    rw [if_neg a2, if_neg a2]
    by_cases a3 : c = 116
    · rw [if_pos a3, if_pos a3]; exact congrArg _ (by rw [Nat.add_assoc])
    rw [if_neg a3, if_neg a3]
    by_cases a4 : c = 110
    · rw [if_pos a4, if_pos a4]; exact congrArg _ (by rw [Nat.add_assoc])
    rw [if_neg a4, if_neg a4]
    by_cases a5 : c = 102
    · rw [if_pos a5, if_pos a5]; exact congrArg _ (by rw [Nat.add_assoc])
    rw [if_neg a5, if_neg a5]
    by_cases a6 : c = 114
    · rw [if_pos a6, if_pos a6]; exact congrArg _ (by rw [Nat.add_assoc])
    rw [if_neg a6, if_neg a6]
    by_cases a7 : c = 117
    · rw [if_pos a7, if_pos a7]
      have hw := sh_word H [48, 48] (by decide) (i + 2) h1
      rw [← Nat.add_assoc] at hw
      cases hq : wordF S [48, 48] (i + 2) with
      | error f =>
        rw [hq] at hw
        exact simN_fault hw fun g hg => by rw [hg]
      | ok j =>
        rw [hq] at hw
        have hw : wordF T [48, 48] (p + i + 2) = .ok (p + j) := hw
        have hj : j ≤ S.size := word_in hq (by decide) (by simp)
        rw [hw]
        simp only
        rcases Nat.eq_or_lt_of_le hj with rfl | hj2
        · rw [show hexV (nx S S.size) = none by rw [nx_past (by omega)]; rfl]
          refine sim_end fun hb => ?_
          rw [H.next hb]
          exact bad_mk _ _ (by decide)
        · rw [H.in_ j hj2]
          cases hexV (nx S j) with
          | none => exact sim_err hj2 rfl
          | some a =>
            simp only
            rcases Nat.lt_or_ge (j + 1) S.size with h2 | h2
            · rw [Nat.add_assoc, H.in_ (j + 1) h2]
              cases hexV (nx S (j + 1)) with
              | none => exact sim_err h2 rfl
              | some b' => exact congrArg (fun z => Except.ok (16 * a + b', z)) (Nat.add_assoc _ _ _)
            · obtain e2 : j + 1 = S.size := by omega
              rw [Nat.add_assoc, e2, show hexV (nx S S.size) = none by rw [nx_past (by omega)]; rfl]
              refine sim_end fun hb => ?_
              rw [H.next hb]
              exact bad_mk _ _ (by decide)
    · rw [if_neg a7, if_neg a7]
      exact sim_err h1 (by omega)
  · have e1 : i + 1 = S.size := by omega
    have e2 : escF S i = .error (19, ((S.size : Nat) : Int)) := by
      unfold escF
      rw [e1, nx_past (S := S) (i := S.size) (by omega)]
      rfl
    rw [e2]
    refine sim_end fun hb => ?_
    unfold escF
    rw [show p + i + 1 = p + S.size by omega, H.next hb]
    exact bad_mk _ _ (by decide)
theorem sh_str (H : Shift S T p b) : ∀ (k i : Nat) (o : ByteArray), S.size - i ≤ k → i ≤ S.size → Sim b p S.size (strR S i o) (strR T (p + i) o)
  | k, i, o, hk, hi => by
    have hsz := H.size
    rcases Nat.eq_or_lt_of_le hi with rfl | hi2
    · rw [strR_eq (Nat.le_refl _), nx_past (S := S) (i := S.size) (by omega), if_neg (by decide), if_neg (by decide), if_pos (.inl (Nat.le_refl _))]
      refine sim_end fun hb => ?_
      rw [strR_eq hsz, H.next hb, if_neg (by decide), if_neg (by decide), if_pos (.inr (.inl (by decide)))]
      exact bad_mk _ _ (by decide)
    obtain ⟨k, rfl⟩ : ∃ q, k = q + 1 := ⟨k - 1, by omega⟩
    rw [strR_eq hi, strR_eq (S := T) (by omega), H.in_ i hi2]
    by_cases a1 : nx S i = 34
    · rw [if_pos a1, if_pos a1]; exact congrArg _ (by rw [Nat.add_assoc])
    rw [if_neg a1, if_neg a1]
    by_cases a2 : nx S i = 92
    · rw [if_pos a2, if_pos a2]
      have he := sh_esc H hi2
      cases hq : escF S i with
      | error f =>
        rw [hq] at he
        exact sim_fault he fun g hg => by rw [hg]
      | ok q =>
        obtain ⟨c, j⟩ := q
        rw [hq] at he
        have he : escF T (p + i) = .ok (c, p + j) := he
        rw [he]
        have := esc_ok hq
        exact sh_str H k j _ (by omega) (by omega)
    rw [if_neg a2, if_neg a2]
    by_cases a3 : S.size ≤ i ∨ nx S i < 32 ∨ 126 < nx S i
    · rw [if_pos a3, if_pos (by omega)]
      exact sim_err hi2 rfl
    · rw [if_neg a3, if_neg (by omega), Nat.add_assoc]
      exact sh_str H k (i + 1) _ (by omega) hi2
theorem sh_strF (H : Shift S T p b) {i : Nat} (hi : i ≤ S.size) : Sim b p S.size (strF S i) (strF T (p + i)) := by
  have hw := sh_word H [34] (by decide) i hi
  unfold strF
  cases hq : wordF S [34] i with
  | error f =>
    rw [hq] at hw
    exact simN_fault hw fun g hg => by rw [hg]
  | ok j =>
    rw [hq] at hw
    have hw : wordF T [34] (p + i) = .ok (p + j) := hw
    rw [hw]
    have := word1 (by decide) hq
    exact sh_str H _ j _ (Nat.le_refl _) (by omega)
theorem sh_digN (H : Shift S T p b) (a : Nat) : ∀ k, a + k ≤ S.size → digN T (p + a) k = digN S a k
  | 0, _ => rfl
  | k + 1, h => by
    unfold digN
    rw [sh_digN H a k (by omega), Nat.add_assoc, H.in_ (a + k) (by omega)]
theorem sh_fracN (H : Shift S T p b) {a e : Nat} (he : e ≤ S.size) (u : Nat) : ∀ k, fracN T (p + a) (p + e) u k = fracN S a e u k
  | 0 => rfl
  | k + 1 => by
    unfold fracN
    rw [sh_fracN H he u k]
    congr 1
    by_cases h : a + k < e
    · rw [if_pos h, if_pos (by omega), Nat.add_assoc, H.in_ (a + k) (by omega)]
    · rw [if_neg h, if_neg (by omega)]
def numI (S : ByteArray) (i : Nat) : Nat := if nx S i = 45 then i + 1 else i
def numJ (S : ByteArray) (a : Nat) : Nat := if nx S a = 48 then a + 1 else dge S a
def numZ (S : ByteArray) (j : Nat) : Nat := if nx S j = 46 then dge S (j + 1) else j
def numK (S : ByteArray) (i a j e : Nat) : Except Flt (Int × Nat) :=
  if 5 < e - j ∨ 15 < j - a then .error (1, (i : Int)) else if 1000000000000000 < fracN S (j + 1) e (digN S a (j - a)) 4 then .error (1, (i : Int)) else
    .ok (if a = i then ((fracN S (j + 1) e (digN S a (j - a)) 4 : Nat) : Int) else -((fracN S (j + 1) e (digN S a (j - a)) 4 : Nat) : Int), e)
theorem numE_k (S : ByteArray) (i : Nat) : numE S i = if digB (nx S (numI S i)) = false then .error (19, ((numI S i : Nat) : Int)) else
    if nx S (numJ S (numI S i)) = 46 ∧ digB (nx S (numJ S (numI S i) + 1)) = false then .error (19, ((numJ S (numI S i) + 1 : Nat) : Int)) else
      numK S i (numI S i) (numJ S (numI S i)) (numZ S (numJ S (numI S i))) := rfl
theorem sh_num (H : Shift S T p b) {i : Nat} (hi : i < S.size) : Sim b p S.size (numE S i) (numE T (p + i)) := by
  have hI : numI T (p + i) = p + numI S i := by
    unfold numI
    rw [H.in_ i hi]
    by_cases h : nx S i = 45
    · rw [if_pos h, if_pos h, Nat.add_assoc]
    · rw [if_neg h, if_neg h]
  obtain ⟨a, ha⟩ : ∃ a, a = numI S i := ⟨_, rfl⟩
  have ha1 : i ≤ a ∧ a ≤ i + 1 := by rw [ha]; unfold numI; split <;> omega
  rw [numE_k, numE_k, hI, ← ha]
  have hda : digB (nx T (p + a)) = digB (nx S a) := by
    rcases Nat.lt_or_ge a S.size with h | h
    · rw [H.in_ a h]
    · obtain rfl : a = S.size := by omega
      rw [H.dig, nx_past (by omega)]; rfl
  rw [hda]
  cases hd : digB (nx S a) with
  | false =>
    rw [if_pos rfl, if_pos rfl]
    rcases Nat.lt_or_ge a S.size with h | h
    · exact sim_err h rfl
    · obtain rfl : a = S.size := by omega
      exact sim_end fun _ => bad_mk _ _ (by decide)
  | true =>
    have htf : ¬ (true = false) := by decide
    rw [if_neg htf, if_neg htf]
    have has : a < S.size := nx_in fun e => by rw [e] at hd; cases hd
    have hJ : numJ T (p + a) = p + numJ S a := by
      unfold numJ
      rw [H.in_ a has]
      by_cases h : nx S a = 48
      · rw [if_pos h, if_pos h, Nat.add_assoc]
      · rw [if_neg h, if_neg h]; exact sh_dge H (by omega)
    obtain ⟨j, hj⟩ : ∃ j, j = numJ S a := ⟨_, rfl⟩
    have hj1 : a ≤ j ∧ j ≤ S.size := by
      rw [hj]; unfold numJ
      split
      · omega
      · exact ⟨run_ge _ _ _, run_le _ (by omega)⟩
    rw [hJ, ← hj]
    have hdot : nx T (p + j) = 46 ↔ nx S j = 46 := by
      rcases Nat.lt_or_ge j S.size with h | h
      · rw [H.in_ j h]
      · obtain rfl : j = S.size := by omega
        rw [nx_past (S := S) (i := S.size) (by omega)]
        exact ⟨fun h => absurd h H.dot, fun h => absurd h (by decide)⟩
    have hZ : numZ T (p + j) = p + numZ S j := by
      unfold numZ
      by_cases h : nx S j = 46
      · have : j < S.size := nx_in (by rw [h]; decide)
        rw [if_pos h, if_pos (hdot.2 h), Nat.add_assoc]; exact sh_dge H (by omega)
      · rw [if_neg h, if_neg (fun e => h (hdot.1 e))]
    obtain ⟨e, he⟩ : ∃ e, e = numZ S j := ⟨_, rfl⟩
    have he1 : j ≤ e ∧ e ≤ S.size := by
      rw [he]; unfold numZ
      by_cases h : nx S j = 46
      · have h1 : j < S.size := nx_in (by rw [h]; decide)
        have h2 : j + 1 ≤ dge S (j + 1) := run_ge digB S (j + 1)
        have h3 : dge S (j + 1) ≤ S.size := run_le digB (by omega)
        rw [if_pos h]; omega
      · rw [if_neg h]; omega
    rw [hZ, ← he]
    by_cases hb : nx S j = 46 ∧ digB (nx S (j + 1)) = false
    · have h1 : j < S.size := nx_in (by rw [hb.1]; decide)
      have h2 : digB (nx T (p + j + 1)) = false := by
        rw [Nat.add_assoc]
        rcases Nat.lt_or_ge (j + 1) S.size with h | h
        · rw [H.in_ _ h]; exact hb.2
        · obtain h3 : j + 1 = S.size := by omega
          rw [h3]; exact H.dig
      rw [if_pos hb, if_pos ⟨hdot.2 hb.1, h2⟩]
      rcases Nat.lt_or_ge (j + 1) S.size with h | h
      · exact sim_err h (by omega)
      · obtain h3 : j + 1 = S.size := by omega
        rw [h3]
        exact sim_end fun _ => bad_mk _ _ (by decide)
    · rw [if_neg hb, if_neg (fun hc => hb ⟨hdot.1 hc.1, by
        have h1 : j < S.size := nx_in (by rw [hdot.1 hc.1]; decide)
        have h2 := hc.2
        rw [Nat.add_assoc] at h2
        rcases Nat.lt_or_ge (j + 1) S.size with h | h
        · rw [H.in_ _ h] at h2; exact h2
        · rw [nx_past (by omega)]; rfl⟩)]
      have hN : digN T (p + a) (p + j - (p + a)) = digN S a (j - a) := by
        rw [show p + j - (p + a) = j - a by omega]
        exact sh_digN H a (j - a) (by omega)
      have hF := sh_fracN H (a := j + 1) (e := e) he1.2 (digN S a (j - a)) 4
      unfold numK
      rw [hN, show p + j + 1 = p + (j + 1) by omega, hF, show p + e - (p + j) = e - j by omega, show p + j - (p + a) = j - a by omega]
      by_cases c1 : 5 < e - j ∨ 15 < j - a
      · rw [if_pos c1, if_pos c1]; exact sim_err hi rfl
      rw [if_neg c1, if_neg c1]
      by_cases c2 : 1000000000000000 < fracN S (j + 1) e (digN S a (j - a)) 4
      · rw [if_pos c2, if_pos c2]; exact sim_err hi rfl
      rw [if_neg c2, if_neg c2]
      by_cases c3 : a = i
      · rw [if_pos c3, if_pos (by omega)]; rfl
      · rw [if_neg c3, if_neg (by omega)]; rfl
/-- A step that is read alike in both texts. -/
structure Step_ {α : Type} (S T : ByteArray) (p : Nat) (b : Bool) (i0 : Nat) (s t : α → Nat → Except Flt (α × Nat)) : Prop where
  sim : ∀ x i, i0 < i → i < S.size → Sim b p S.size (s x i) (t x (p + i))
  ends : ∀ x, s x S.size = .error (19, (S.size : Int))
  endt : ∀ x, Bad (t x T.size)
  gains : Gain S s
  gaint : Gain T t
theorem sh_comma (H : Shift S T p b) {j : Nat} (hj : j ≤ S.size) : SimN b p S.size (wordF S [44] (blk S j)) (wordF T [44] (blk T (p + j))) ∧ (blk S j = S.size → wordF S [44] (blk S j) = .error (19, (S.size : Int))) := by
  obtain ⟨h1, h2⟩ := sh_blk H hj
  have hle : blk S j ≤ S.size := run_le _ hj
  rcases Nat.eq_or_lt_of_le hle with h | h
  · have e : wordF S [44] (blk S j) = .error (19, (S.size : Int)) := by
      unfold wordF
      rw [h, nx_past (by omega), if_neg (by decide)]
    refine ⟨?_, fun _ => e⟩
    rw [e, h2 h]
    refine ⟨⟨by decide, by omega, by omega⟩, fun hb => ⟨fun _ => ?_, fun hn => absurd rfl hn⟩⟩
    rw [H.tail hb]
    unfold wordF
    rw [nx_past (by omega), if_neg (by decide)]
    exact bad_mk _ _ (by decide)
  · rw [h1 h]
    exact ⟨sh_word H [44] (by decide) _ hle, fun e => by omega⟩
theorem sh_sevR {α : Type} (H : Shift S T p b) {s t : α → Nat → Except Flt (α × Nat)} {c i0 : Nat} (hc : c ≠ 0) (hs : Step_ S T p b i0 s t) : ∀ (k : Nat) (x : α) (i : Nat), S.size - i ≤ k → i ≤ S.size → i0 < i → Sim b p S.size (sevR S c s x i) (sevR T c t x (p + i))
  | k, x, i, hk, hi, h0 => by
    have hsz := H.size
    have hge : i ≤ blk S i := run_ge _ _ _
    have hle : blk S i ≤ S.size := run_le _ hi
    obtain ⟨h1, h2⟩ := sh_blk H hi
    rw [sevR_eq hs.gains x hi, sevR_eq hs.gaint x (show p + i ≤ T.size by omega)]
    rcases Nat.eq_or_lt_of_le hle with h | h
    · rw [h, hs.ends x, h2 h]
      refine sim_end fun hb => ?_
      rw [H.tail hb]
      obtain ⟨f, hf, hf2⟩ := hs.endt x
      rw [hf]; exact ⟨f, rfl, hf2⟩
    · have hst := hs.sim x (blk S i) (by omega) h
      rw [h1 h]
      cases hq : s x (blk S i) with
      | error f =>
        rw [hq] at hst
        exact sim_fault hst fun g hg => by rw [hg]
      | ok q =>
        obtain ⟨y, j⟩ := q
        rw [hq] at hst
        have hst : t x (p + blk S i) = .ok (y, p + j) := hst
        obtain ⟨g1, g2⟩ := hs.gains _ _ _ _ hq
        rw [hst]
        simp only
        obtain ⟨b1, b2⟩ := sh_blk H g2
        have hbl : blk S j ≤ S.size := run_le _ g2
        obtain ⟨c1, c2⟩ := sh_comma H g2
        by_cases hn : nx S (blk S j) = c
        · have hlt : blk S j < S.size := nx_in (by rw [hn]; exact hc)
          rw [if_pos hn, b1 hlt, if_pos (by rw [H.in_ _ hlt]; exact hn)]
          exact congrArg (fun z => Except.ok (y, z)) (Nat.add_assoc _ _ _)
        · rw [if_neg hn]
          rcases Nat.eq_or_lt_of_le hbl with hj | hj
          · rw [c2 hj]
            refine sim_end fun hb => ?_
            rw [b2 hj, H.tail hb, nx_past (by omega), if_neg (by exact fun e => hc e.symm)]
            have : wordF T [44] T.size = .error (19, ((T.size : Nat) : Int)) := by unfold wordF; rw [nx_past (by omega), if_neg (by decide)]
            rw [this]
            exact bad_mk _ _ (by decide)
          · rw [if_neg (by rw [b1 hj, H.in_ _ hj]; exact hn)]
            cases hw : wordF S [44] (blk S j) with
            | error f =>
              rw [hw] at c1
              exact simN_fault c1 fun g hg => by rw [hg]
            | ok q =>
              rw [hw] at c1
              have c1 : wordF T [44] (blk T (p + j)) = .ok (p + q) := c1
              rw [c1]
              have hj3 : j ≤ blk S j := run_ge _ _ _
              obtain ⟨g5, g6⟩ := word1 (by decide) hw
              obtain ⟨k, rfl⟩ : ∃ z, k = z + 1 := ⟨k - 1, by omega⟩
              exact sh_sevR H hc hs k y q (by omega) (by omega) (by omega)
theorem sh_sevF {α : Type} (H : Shift S T p b) {s t : α → Nat → Except Flt (α × Nat)} {c i : Nat} (hc : c ≠ 0) (hs : Step_ S T p b i s t) (x : α) (hi : i < S.size) : Sim b p S.size (sevF S c s x i) (sevF T c t x (p + i)) := by
  have hsz := H.size
  have hge : i + 1 ≤ blk S (i + 1) := run_ge _ _ _
  have hle : blk S (i + 1) ≤ S.size := run_le _ hi
  obtain ⟨h1, h2⟩ := sh_blk H (i := i + 1) hi
  unfold sevF
  rw [Nat.add_assoc]
  by_cases hn : nx S (blk S (i + 1)) = c
  · have hlt : blk S (i + 1) < S.size := nx_in (by rw [hn]; exact hc)
    rw [if_pos hn, h1 hlt, if_pos (by rw [H.in_ _ hlt]; exact hn)]
    exact congrArg (fun z => Except.ok (x, z)) (Nat.add_assoc _ _ _)
  · rw [if_neg hn]
    rcases Nat.eq_or_lt_of_le hle with h | h
    · have e : sevR S c s x (blk S (i + 1)) = .error (19, (S.size : Int)) := by
        rw [sevR_eq hs.gains x hle]
        have : blk S (blk S (i + 1)) = S.size := by
          have h3 := run_ge blkB S (blk S (i + 1))
          have h4 := run_le blkB hle
          show runF blkB S (blk S (i + 1)) = S.size
          omega
        rw [this, hs.ends x]
      rw [e]
      refine sim_end fun hb => ?_
      rw [h2 h, H.tail hb, nx_past (by omega), if_neg (fun e => hc e.symm), sevR_eq hs.gaint x (Nat.le_refl _)]
      have : blk T T.size = T.size := run_stop (by rw [nx_past (by omega)]; rfl)
      rw [this]
      obtain ⟨f, hf, hf2⟩ := hs.endt x
      rw [hf]; exact ⟨f, rfl, hf2⟩
    · rw [h1 h, if_neg (by rw [H.in_ _ h]; exact hn)]
      exact sh_sevR H hc hs _ x _ (Nat.le_refl _) hle (by omega)
end
end Go.Proofs.YtmmbbndoimleaaaGreatDoor

/- A value that stands in another text is read alike; what is read, is sound but for its depth: plain. -/
namespace Go.Proofs.YtmmbbndoimleaaaGreatDoor
open Go.RowKit

section
variable {S T : ByteArray} {p : Nat} {b : Bool}
theorem val_end (S : ByteArray) (m : Nat) : valF S m S.size = .error (19, (S.size : Int)) := by
  cases m with
  | zero => rfl
  | succ m =>
    unfold valF
    rw [nx_past (by omega)]
    rfl
theorem str_end (S : ByteArray) : strF S S.size = .error (19, (S.size : Int)) := by
  unfold strF wordF
  rw [nx_past (by omega)]
  rfl
theorem sh_item {m m' i0 : Nat} (hv : ∀ i, i0 < i → i < S.size → Sim b p S.size (valF S m i) (valF T m' (p + i))) : Step_ S T p b i0 (itemS (valF S m)) (itemS (valF T m')) where
  sim := fun x i h0 hi => by
    have h := hv i h0 hi
    unfold itemS
    cases hq : valF S m i with
    | error f =>
      rw [hq] at h
      exact sim_fault h fun g hg => by rw [hg]
    | ok q =>
      obtain ⟨d, j⟩ := q
      rw [hq] at h
      have h : valF T m' (p + i) = .ok (d, p + j) := h
      rw [h]; rfl
  ends := fun x => by unfold itemS; rw [val_end]
  endt := fun x => by unfold itemS; rw [val_end]; exact bad_mk _ _ (by decide)
  gains := item_gain fun _ _ _ h => val_gain m h
  gaint := item_gain fun _ _ _ h => val_gain m' h
theorem sh_mem (H : Shift S T p b) {m m' i0 : Nat} (hv : ∀ i, i0 < i → i < S.size → Sim b p S.size (valF S m i) (valF T m' (p + i))) : Step_ S T p b i0 (memS S (valF S m)) (memS T (valF T m')) where
  sim := fun x i h0 hi => by
    have hsz := H.size
    have h := sh_strF H (i := i) (by omega)
    unfold memS
    cases hq : strF S i with
    | error f =>
      rw [hq] at h
      exact sim_fault h fun g hg => by rw [hg]
    | ok q =>
      obtain ⟨s, j⟩ := q
      rw [hq] at h
      have h : strF T (p + i) = .ok (s, p + j) := h
      obtain ⟨g1, g2⟩ := str_gain hq
      rw [h]
      simp only
      by_cases hd : (x.any fun m => m.1.toList == s.toList) = true
      · rw [if_pos hd, if_pos hd]; exact sim_err hi rfl
      rw [if_neg hd, if_neg hd]
      obtain ⟨h1, h2⟩ := sh_blk H g2
      have hle : blk S j ≤ S.size := run_le _ g2
      have hge : j ≤ blk S j := run_ge _ _ _
      rcases Nat.eq_or_lt_of_le hle with he | he
      · have e : wordF S [58] (blk S j) = .error (19, (S.size : Int)) := by
          unfold wordF
          rw [he, nx_past (by omega), if_neg (by decide)]
        rw [e]
        refine sim_end fun hb => ?_
        have : wordF T [58] T.size = .error (19, ((T.size : Nat) : Int)) := by unfold wordF; rw [nx_past (by omega), if_neg (by decide)]
        rw [h2 he, H.tail hb, this]
        exact bad_mk _ _ (by decide)
      have hw := sh_word H [58] (by decide) _ hle
      rw [h1 he]
      cases hq2 : wordF S [58] (blk S j) with
      | error f =>
        rw [hq2] at hw
        exact simN_fault hw fun g hg => by rw [hg]
      | ok k =>
        rw [hq2] at hw
        have hw : wordF T [58] (p + blk S j) = .ok (p + k) := hw
        obtain ⟨g5, g6⟩ := word1 (by decide) hq2
        rw [hw]
        simp only
        have hk : k ≤ S.size := by omega
        obtain ⟨k1, k2⟩ := sh_blk H hk
        have hkl : blk S k ≤ S.size := run_le _ hk
        have hkg : k ≤ blk S k := run_ge _ _ _
        rcases Nat.eq_or_lt_of_le hkl with hf | hf
        · rw [hf, val_end]
          refine sim_end fun hb => ?_
          rw [k2 hf, H.tail hb, val_end]
          exact bad_mk _ _ (by decide)
        · rw [k1 hf]
          have hvv := hv (blk S k) (by omega) hf
          cases hq3 : valF S m (blk S k) with
          | error f =>
            rw [hq3] at hvv
            exact sim_fault hvv fun g hg => by rw [hg]
          | ok q =>
            obtain ⟨d, z⟩ := q
            rw [hq3] at hvv
            have hvv : valF T m' (p + blk S k) = .ok (d, p + z) := hvv
            rw [hvv]; rfl
  ends := fun x => by unfold memS; rw [str_end]
  endt := fun x => by unfold memS; rw [str_end]; exact bad_mk _ _ (by decide)
  gains := mem_gain fun _ _ _ h => val_gain m h
  gaint := mem_gain fun _ _ _ h => val_gain m' h
theorem sh_val (H : Shift S T p b) : ∀ (m m' i : Nat), S.size < i + m → m ≤ m' → i < S.size → Sim b p S.size (valF S m i) (valF T m' (p + i))
  | 0, _, i, h, _, hi => by omega
  | m + 1, 0, i, _, h, _ => by omega
  | m + 1, m' + 1, i, hm, hmm, hi => by
    have hv : ∀ k, i < k → k < S.size → Sim b p S.size (valF S m k) (valF T m' (p + k)) := fun k h1 h2 => sh_val H m m' k (by omega) (by omega) h2
    have e1 := H.in_ i hi
    unfold valF
    rw [e1]
    have hword : ∀ (l : List UInt8) (D : Dt), (∀ c ∈ l, c.toNat ≠ 0 ∧ c.toNat ≠ 13) → Sim b p S.size (match wordF S l i with | .error f => .error f | .ok j => .ok (D, j)) (match wordF T l (p + i) with | .error f => .error f | .ok j => .ok (D, j)) := fun l D hl => by
      have hw := sh_word H l hl i (by omega)
      cases hq : wordF S l i with
      | error f =>
        rw [hq] at hw
        exact simN_fault hw fun g hg => by rw [hg]
      | ok j =>
        rw [hq] at hw
        have hw : wordF T l (p + i) = .ok (p + j) := hw
        rw [hw]; rfl
    by_cases a1 : nx S i = 110
    · rw [if_pos a1, if_pos a1]; exact hword _ _ (by decide)
    rw [if_neg a1, if_neg a1]
    by_cases a2 : nx S i = 116
    · rw [if_pos a2, if_pos a2]; exact hword _ _ (by decide)
    rw [if_neg a2, if_neg a2]
    by_cases a3 : nx S i = 102
    · rw [if_pos a3, if_pos a3]; exact hword _ _ (by decide)
    rw [if_neg a3, if_neg a3]
    by_cases a4 : nx S i = 34
    · rw [if_pos a4, if_pos a4]
      have h := sh_strF H (i := i) (by omega)
      cases hq : strF S i with
      | error f =>
        rw [hq] at h
        exact sim_fault h fun g hg => by rw [hg]
      | ok q =>
        obtain ⟨s, j⟩ := q
        rw [hq] at h
        have h : strF T (p + i) = .ok (s, p + j) := h
        rw [h]; rfl
    rw [if_neg a4, if_neg a4]
    by_cases a5 : nx S i = 45 ∨ digB (nx S i) = true
    · rw [if_pos a5, if_pos a5]
      have h := sh_num H hi
      cases hq : numE S i with
      | error f =>
        rw [hq] at h
        exact sim_fault h fun g hg => by rw [hg]
      | ok q =>
        obtain ⟨s, j⟩ := q
        rw [hq] at h
        have h : numE T (p + i) = .ok (s, p + j) := h
        rw [h]; rfl
    rw [if_neg a5, if_neg a5]
    by_cases a6 : nx S i = 91
    · rw [if_pos a6, if_pos a6]
      have h := sh_sevF H (c := 93) (by decide) (sh_item hv) [] hi
      cases hq : sevF S 93 (itemS (valF S m)) [] i with
      | error f =>
        rw [hq] at h
        exact sim_fault h fun g hg => by rw [hg]
      | ok q =>
        obtain ⟨s, j⟩ := q
        rw [hq] at h
        have h : sevF T 93 (itemS (valF T m')) [] (p + i) = .ok (s, p + j) := h
        rw [h]; rfl
    rw [if_neg a6, if_neg a6]
    by_cases a7 : nx S i = 123
    · rw [if_pos a7, if_pos a7]
      have h := sh_sevF H (c := 125) (by decide) (sh_mem H hv) [] hi
      cases hq : sevF S 125 (memS S (valF S m)) [] i with
      | error f =>
        rw [hq] at h
        exact sim_fault h fun g hg => by rw [hg]
      | ok q =>
        obtain ⟨s, j⟩ := q
        rw [hq] at h
        have h : sevF T 125 (memS T (valF T m')) [] (p + i) = .ok (s, p + j) := h
        rw [h]; rfl
    · rw [if_neg a7, if_neg a7]; exact sim_err hi rfl
end
/-- Data that a reader made: sound but for its depth; at most so many levels. -/
def Good : Nat → Dt → Prop
  | 0, _ => False
  | m + 1, d => (d = mkD (kD d) (nD d) (sD d) (iD d) (mD d)) ∧ ((kD d = 1 ∨ kD d = 2 ∨ kD d = 3 ∨ kD d = 4) ∧ iD d = [] ∧ mD d = [] ∧ ownD d = 0 ∨ kD d = 5 ∧ mD d = [] ∧ (∀ x ∈ iD d, Good m x) ∨ kD d = 6 ∧ iD d = [] ∧ (∀ x ∈ mD d, Good m x.2) ∧ ∀ s, (filK Prod.fst s (mD d)).length ≤ 1)
theorem Good.up : ∀ {m : Nat} {d : Dt}, Good m d → Good (m + 1) d
  | 0, _, h => h.elim
  | m + 1, d, ⟨h0, h⟩ => by
    refine ⟨h0, ?_⟩
    rcases h with h | ⟨h1, h2, h3⟩ | ⟨h1, h2, h3, h4⟩
    · exact .inl h
    · exact .inr (.inl ⟨h1, h2, fun x hx => Good.up (h3 x hx)⟩)
    · exact .inr (.inr ⟨h1, h2, fun x hx => Good.up (h3 x hx), h4⟩)
theorem num_range {S : ByteArray} {i : Nat} {u : Int} {j : Nat} (h : numE S i = .ok (u, j)) : validB u = true := by
  rw [numE_k] at h
  split at h
  · cases h
  split at h
  · cases h
  unfold numK at h
  split at h
  · cases h
  split at h
  · cases h
  · injection h with h
    injection h with h1 h2
    subst h1
    unfold validB
    split <;> (simp; omega)
theorem leaf_good (m : Nat) (k n : Int) (s : ByteArray) (hk : k = 1 ∨ k = 2 ∨ k = 3 ∨ k = 4) (h : ownD (leafD k n s) = 0) : Good (m + 1) (leafD k n s) := ⟨rfl, .inl ⟨hk, rfl, rfl, h⟩⟩
theorem num_own {u : Int} (h : validB u = true) : ownD (leafD 3 u ⟨#[]⟩) = 0 := by
  have h1 : plainB (leafD 3 u ⟨#[]⟩) = true := by kernel_rfl
  have h2 : rangeB (leafD 3 u ⟨#[]⟩) = false := by
    show ((false && _ && _) || (true && !validB u)) = false
    rw [h]; rfl
  have h3 : ascB (mD (leafD 3 u ⟨#[]⟩)) = true := rfl
  unfold ownD
  rw [h1, h2, h3]; rfl
theorem val_good {S : ByteArray} : ∀ (m : Nat) {i : Nat} {d : Dt} {j : Nat}, valF S m i = .ok (d, j) → Good m d
  | 0, _, _, _, h => by unfold valF at h; cases h
  | m + 1, i, d, j, h => by
    have ih : ∀ {k : Nat} {d : Dt} {j : Nat}, valF S m k = .ok (d, j) → Good m d := fun h => val_good m h
    unfold valF at h
    split at h
    · cases hw : wordF S [110, 117, 108, 108] i with
      | error f => rw [hw] at h; cases h
      | ok k =>
        rw [hw] at h
        injection h with h; injection h with h1 h2
        subst h1
        exact leaf_good m 1 0 _ (by omega) (by kernel_rfl)
    split at h
    · cases hw : wordF S [116, 114, 117, 101] i with
      | error f => rw [hw] at h; cases h
      | ok k =>
        rw [hw] at h
        injection h with h; injection h with h1 h2
        subst h1
        exact leaf_good m 2 1 _ (by omega) (by kernel_rfl)
    split at h
    · cases hw : wordF S [102, 97, 108, 115, 101] i with
      | error f => rw [hw] at h; cases h
      | ok k =>
        rw [hw] at h
        injection h with h; injection h with h1 h2
        subst h1
        exact leaf_good m 2 0 _ (by omega) (by kernel_rfl)
    split at h
    · cases hw : strF S i with
      | error f => rw [hw] at h; cases h
      | ok q =>
        obtain ⟨s, k⟩ := q
        rw [hw] at h
        injection h with h; injection h with h1 h2
        subst h1
        exact leaf_good m 4 0 s (by omega) (by kernel_rfl)
    split at h
    · cases hw : numE S i with
      | error f => rw [hw] at h; cases h
      | ok q =>
        obtain ⟨u, k⟩ := q
        rw [hw] at h
        injection h with h; injection h with h1 h2
        subst h1
        exact leaf_good m 3 u _ (by omega) (num_own (num_range hw))
    split at h
    · cases hw : sevF S 93 (itemS (valF S m)) [] i with
      | error f => rw [hw] at h; cases h
      | ok q =>
        obtain ⟨l, k⟩ := q
        rw [hw] at h
        injection h with h; injection h with h1 h2
        subst h1
        have := (sev_inv (Q := fun (x : List Dt) _ => ∀ y ∈ x, Good m y) (fun x i y j hx hs => by
          unfold itemS at hs
          cases hv : valF S m i with
          | error f => rw [hv] at hs; cases hs
          | ok q =>
            obtain ⟨d, k⟩ := q
            rw [hv] at hs
            injection hs with hs; injection hs with h1 h2
            subst h1
            intro y hy
            rcases List.mem_append.1 hy with hy | hy
            · exact hx y hy
            · have : y = d := by simpa using hy
              subst this; exact ih hv) (fun _ _ _ _ h => h) (by decide) (val_ig S m) (by simp) hw).1
        exact ⟨by simp, .inr (.inl ⟨rfl, by simp, this⟩)⟩
    split at h
    · cases hw : sevF S 125 (memS S (valF S m)) [] i with
      | error f => rw [hw] at h; cases h
      | ok q =>
        obtain ⟨l, k⟩ := q
        rw [hw] at h
        injection h with h; injection h with h1 h2
        subst h1
        have := (sev_inv (Q := fun (x : List (ByteArray × Dt)) _ => (∀ y ∈ x, Good m y.2) ∧ ∀ s, (filK Prod.fst s x).length ≤ 1) (fun x i y j hx hs => by
          unfold memS at hs
          cases hq : strF S i with
          | error f => rw [hq] at hs; cases hs
          | ok q =>
            obtain ⟨s, a⟩ := q
            rw [hq] at hs
            simp only at hs
            split at hs
            · cases hs
            rename_i hd
            cases hw : wordF S [58] (blk S a) with
            | error f => rw [hw] at hs; cases hs
            | ok k =>
              rw [hw] at hs
              simp only at hs
              cases hv : valF S m (blk S k) with
              | error f => rw [hv] at hs; cases hs
              | ok q =>
                obtain ⟨d, z⟩ := q
                rw [hv] at hs
                injection hs with hs; injection hs with h1 h2
                subst h1
                refine ⟨fun y hy => ?_, fun s' => ?_⟩
                · rcases List.mem_append.1 hy with hy | hy
                  · exact hx.1 y hy
                  · have : y = (s, d) := by simpa using hy
                    subst this; exact ih hv
                · have hnil : filK Prod.fst s x = [] := filK_nil_of fun y hy e => hd (by
                    rw [List.any_eq_true]
                    exact ⟨y, hy, by rw [e]; simp⟩)
                  rw [filK_append, List.length_append]
                  by_cases e : s = s'
                  · subst e
                    rw [hnil]
                    have : (filK Prod.fst s [(s, d)]).length ≤ 1 := by unfold filK; exact List.length_filter_le ..
                    simpa using this
                  · have h2 : filK Prod.fst s' [(s, d)] = [] := filK_nil_of fun y hy => by
                      have : y = (s, d) := by simpa using hy
                      subst this; exact e
                    rw [h2]
                    exact hx.2 s') (fun _ _ _ _ h => h) (by decide) (mem_gain fun _ _ _ h => val_gain m h) ⟨by simp, fun s => by simp [filK]⟩ hw).1
        exact ⟨by simp, .inr (.inr ⟨rfl, rfl, by rw [mD_mk]; exact this.1, by rw [mD_mk]; exact this.2⟩)⟩
    · cases h
end Go.Proofs.YtmmbbndoimleaaaGreatDoor

/- into of the reference: a member is laid behind all whose labels are not greater. -/
namespace Go.Proofs.YtmmbbndoimleaaaGreatDoor
open Go.RowKit

theorem insK_take (x : ByteArray × Dt) : ∀ (L : List (ByteArray × Dt)) (k : Nat), k ≤ L.length → (∀ i (h : i < L.length), i < k → ltB x.1 L[i].1 = false) → (∀ h : k < L.length, ltB x.1 L[k].1 = true) → insK Prod.fst x L = L.take k ++ x :: L.drop k
  | [], k, hk, _, _ => by
    have : k = 0 := by simpa using hk
    subst this; rfl
  | y :: L, 0, _, _, h2 => by
    have := h2 (by simp)
    simp at this
    unfold insK
    rw [if_pos this]; rfl
  | y :: L, k + 1, hk, h1, h2 => by
    have h0 := h1 0 (by simp) (by omega)
    simp at h0
    unfold insK
    rw [if_neg (by rw [h0]; simp), insK_take x L k (by simpa using hk) (fun i h hi => h1 (i + 1) (by simpa using h) (by omega)) (fun h => h2 (by simpa using h))]
    rfl

theorem own_newsM {w : World} {b n c size : Nat} {e : TypeId} {A : Option Addr} {xs : List Value} (h : w.ownsRow b e size (.slice A n c) n xs) : (A = none → n = 0 ∧ c = 0) ∧ ∀ W, Below w.heap.size w W → ∀ ad, A = some ad → ∀ j u, xs[j]? = some u → W.cell? (ad.add j) = some u := by
  rcases h.2 with ⟨e1, h0⟩ | ⟨g, cap, cur, e1, _, hh, _⟩
  · injection e1 with e1 e2 e3
    subst e1 e3
    exact ⟨fun _ => ⟨h0, rfl⟩, fun W _ ad e => (by cases e)⟩
  · injection e1 with e1 e2 e3
    subst e1
    refine ⟨fun e => (by cases e), fun W hB ad e j u hu => ?_⟩
    injection e with e
    subst e
    exact (own_below h hB).cells rfl j u hu
theorem take_get {α : Type} {l : List α} {k j : Nat} {u : α} (h : (l.take k)[j]? = some u) : l[j]? = some u := by
  rw [List.getElem?_take] at h
  split at h
  · exact h
  · cases h
theorem flat_cut {R : Reads} : ∀ {xs : List Value} {l : List (ByteArray × Dt)} (i : Nat), FlatM R xs l → FlatM R (xs.take (i * 6)) (l.take i) ∧ FlatM R (xs.drop (i * 6)) (l.drop i)
  | xs, l, 0, h => by simpa using And.intro (show FlatM R [] [] from rfl) h
  | xs, [], i + 1, h => by
    have h : xs = [] := h
    subst h; simp; exact rfl
  | _, d :: l, i + 1, ⟨a, c, a', c', ys, e, hR, h⟩ => by
    obtain ⟨h1, h2⟩ := flat_cut i h
    subst e
    have e6 : (Value.string d.1 :: datCs d.2 a c a' c').length = 6 := rfl
    constructor
    · refine ⟨a, c, a', c', ys.take (i * 6), ?_, hR, h1⟩
      rw [List.take_append, e6, show (i + 1) * 6 - 6 = i * 6 by omega, List.take_of_length_le (by rw [e6]; omega)]
    · rw [List.drop_append, e6, show (i + 1) * 6 - 6 = i * 6 by omega, List.drop_of_length_le (by rw [e6]; omega), List.nil_append]
      exact h2
theorem own_join {R : Reads} {w : World} {b b' k i : Nat} {v : Value} {xs : List Value} {L : List (ByteArray × Dt)} {x : ByteArray × Dt} {a c a' c'} (h0 : w.ownsRow b 57 6 v k (xs.take (i * 6) ++ .string x.1 :: (datCs x.2 a c a' c' ++ xs.drop (i * 6)))) (hf : FlatM R xs L) (hx : R x.2 a c a' c') (hb : b' ≤ b) :
    OwnM R w b' v (L.take i ++ x :: L.drop i) := by
  have h : w.ownsRow b 57 6 v k (xs.take (i * 6) ++ (.string x.1 :: datCs x.2 a c a' c') ++ xs.drop (i * 6)) := by simpa using h0
  obtain ⟨h1, h2⟩ := flat_cut i hf
  have hfl := (h1.append (FlatM.one (m := x) hx)).append h2
  have e : L.take i ++ [x] ++ L.drop i = L.take i ++ x :: L.drop i := by simp
  rw [e] at hfl
  have hlen : k = (L.take i ++ x :: L.drop i).length := by
    have h3 := h.1
    have h4 := hfl.length
    omega
  exact ⟨_, by rw [← hlen]; exact own_mono h hb, hfl⟩
theorem leq_true {x y : ByteArray} (h : ltB x y = false) : (Op.bytesLess y.toList x.toList || y.toList == x.toList) = true := by
  rcases Bool.eq_false_or_eq_true (ltB y x) with e | e
  · have : Op.bytesLess y.toList x.toList = true := e
    rw [this]; rfl
  · rw [ltB_antisymm e h]; simp
theorem leq_false {x y : ByteArray} (h : ltB x y = true) : (Op.bytesLess y.toList x.toList || y.toList == x.toList) = false := by
  have h1 : Op.bytesLess y.toList x.toList = false := bl_asymm _ _ h
  rw [h1, Bool.false_or, beq_eq_false_iff_ne]
  intro e
  have : ltB x y = false := by unfold ltB; rw [e]; exact bl_irr _
  rw [this] at h; cases h

end Go.Proofs.YtmmbbndoimleaaaGreatDoor

/- clear of the reference: data with sorted members and without unused fields, whatever its depth. -/
namespace Go.Proofs.YtmmbbndoimleaaaGreatDoor
open Go.RowKit

def clearF : Nat → Dt → Dt
  | 0, _ => zeroD
  | m + 1, d => mkD (kD d) (if kD d = 2 ∨ kD d = 3 then nD d else 0) (if kD d = 4 then sD d else ⟨#[]⟩) (if kD d = 5 then (iD d).map (clearF m) else [])
        (if kD d = 6 then sortK Prod.fst ((mD d).map fun x => (x.1, clearF m x.2)) else [])
theorem OwnM.mzC {lo base : Nat} {w : World} {m : Nat} {u : Value} {l : List (ByteArray × Dt)} (h : OwnM (PZ base none w m) w base u l) (hl : lo ≤ base) : MZ lo w m u l := by
  obtain ⟨A, c, rfl, h1, h2, _⟩ := h.mems
  refine ⟨A, c, rfl, h1, h2, fun W g1 g2 => ?_⟩
  obtain ⟨xs, ho, hf⟩ := h
  rcases Nat.eq_zero_or_pos l.length with h0 | h0
  · rw [List.eq_nil_of_length_eq_zero h0]; intro i x hx; simp at hx
  · obtain ⟨g, rfl, hg, hg2⟩ := own_lo ho h0
    refine MemsAt.of_flat (hf.turn fun x a c a' c' hp => hp W g1 fun k k1 k2 _ => g2 k (by omega) k2) (by show g < _; omega) fun j v hv => ?_
    have hc := ho.cells (g := g) rfl j v hv
    rw [add_head] at hc ⊢
    exact (World.cell?_of_block (g2 g (by omega) hg2)).trans hc
/-- The members behind a store to a box. -/
theorem into_set {b0 g5 m i : Nat} {w : World} {u : Value} {l : List (ByteArray × Dt)} (h : OwnM (PZ b0 none w m) w b0 u l) (hg : g5 < b0) (v : Value) : OwnM (PZ b0 none (w.setCell ⟨g5, i, none⟩ v) m) (w.setCell ⟨g5, i, none⟩ v) b0 u l := by
  obtain ⟨xs, ho, hf⟩ := h
  refine ⟨xs, own_set ho hg v, hf.turn fun x a c a' c' hp => hp.turn (by rw [csize_set]; exact Nat.le_refl _) fun k k1 _ _ => ⟨Below.heap_setCell _ _ _ _ (by show k ≠ g5; omega), k1, by simp⟩⟩
theorem pz_below {b0 m : Nat} {w w' : World} {d : Dt} {a c a' c'} (h : PZ b0 none w m d a c a' c') (hb : Below w.heap.size w w') : PZ b0 none w' m d a c a' c' :=
  h.turn hb.size fun k k1 k2 _ => ⟨hb.block k k2, k1, by simp⟩
theorem pz_lo {b0 H m : Nat} {w : World} {d : Dt} {a c a' c'} (h : PZ H none w m d a c a' c') (hb : b0 ≤ H) : PZ b0 none w m d a c a' c' :=
  h.turn (Nat.le_refl _) fun k k1 _ _ => ⟨rfl, by omega, by simp⟩

end Go.Proofs.YtmmbbndoimleaaaGreatDoor

/- check and Check of the reference. -/
namespace Go.Proofs.YtmmbbndoimleaaaGreatDoor
open Go.RowKit

set_option maxRecDepth 20000 in
set_option maxHeartbeats 2000000 in
theorem refcheck_run : ∀ (r m : Nat) (d : Dt) (A : Option Addr) (c : Nat) (A' : Option Addr) (c' : Nat) (lv : Int) (w : World), lv = 17 - r → r ≤ 16 → Parts w w.heap.size m d A c A' c' →
    Calls Tryz.prog 29 #[datV d A c A' c', .int .i64 lv] w fun e w' => e = .returned (.int .i64 (checkF r d)) ∧ Below w.heap.size w w' := by
  intro r
  induction r with
  | zero =>
    intro m d A c A' c' lv w hlv _ hp
    have hl := hp.lens
    obtain ⟨h1, h2, h3, h4⟩ := hl
    have hm := maxLen_le h2; have hm' := maxLen_le h4
    obtain rfl : lv = 17 := by simpa using hlv
    unfold datV datCs checkF
    clear hp h2 h4 hlv
    go_enter Tryz.func29, Tryz.ntmps29
    go_wp2_with fail
    go_ret
    exact ⟨rfl, below_al (Below.refl _ _) _⟩
  | succ r ih =>
    intro m d A c A' c' lv w hlv hr hp
    obtain _ | m := m
    · exact hp.elim
    obtain ⟨h1, h2, h3, h4⟩ := hp.lens
    have hm := maxLen_le h2; have hm' := maxLen_le h4
    have HO := hide fun w' => plain_run d A c A' c' w' hp.lens
    have HI := Lib.hid hp.2.1; have HM := Lib.hid hp.2.2
    have g1 : decide (lv > 16) = false := by simp; omega
    have wlv : IntKind.i64.wrap (lv + 1) = lv + 1 := IntWalk.i64_in _ (by omega)
    have HLV := Lib.hid (show lv + 1 = 17 - (r : Int) by omega)
    obtain ⟨res, hres⟩ : ∃ k, k = checkF (r + 1) d := ⟨_, rfl⟩
    rw [← hres]
    unfold checkF ownD rangeB kids at hres
    unfold datV datCs at HO
    unfold datV datCs
    obtain ⟨b, hb⟩ : ∃ b, b = plainB d := ⟨_, rfl⟩
    obtain ⟨k, hk⟩ : ∃ k, k = kD d := ⟨_, rfl⟩
    obtain ⟨n, hn⟩ : ∃ k, k = nD d := ⟨_, rfl⟩
    obtain ⟨s, hs⟩ : ∃ k, k = sD d := ⟨_, rfl⟩
    obtain ⟨IS, hIS⟩ : ∃ k, k = iD d := ⟨_, rfl⟩
    obtain ⟨MS, hMS⟩ : ∃ k, k = mD d := ⟨_, rfl⟩
    rw [← hk, ← hn, ← hb, ← hIS, ← hMS] at hres
    rw [← hk, ← hn, ← hs, ← hb, ← hIS, ← hMS] at HO
    rw [← hk, ← hn, ← hs, ← hIS, ← hMS]
    rw [← hIS] at h1 HI
    rw [← hMS] at h3 HM
    obtain ⟨x, hx⟩ : ∃ k, k = IS.length := ⟨_, rfl⟩
    obtain ⟨y, hy⟩ : ∃ k, k = MS.length := ⟨_, rfl⟩
    rw [← hx, ← hy] at HO ⊢
    rw [← hx] at h1
    rw [← hy] at h3
    obtain ⟨v, hv⟩ : ∃ b, b = validB n := ⟨_, rfl⟩
    have HV := hide fun w => refValid_run n w
    rw [← hv] at hres HV
    have HRES := Lib.hid hres; have HX := Lib.hid hx; have HY := Lib.hid hy
    clear hk hn hs hx hy hb hv hIS hMS h2 h4 hres hp hlv
    go_enter Tryz.func29, Tryz.ntmps29
    go_upto_region 1 with fail
    obtain ⟨w1, g, e1, e2, hBL, c0, c1, c2, c3, c4, hROW⟩ := boxD w k n s (.slice A x c) (.slice A' y c')
    rw [e1, e2]
    have HBL := hide hBL; have HROW := hide hROW
    clear e1 e2 hBL hROW
    go_wp2_with fail
    refine (HO.out _).mono ?_; rintro e w2 ⟨rfl, hB2⟩
    have HROW2 := hide (HROW.out.below hB2)
    obtain ⟨c0', c1', c2', c3', c4'⟩ := row5 HROW2.out
    have HB2 := hide (HBL.out.trans (hB2.mono HBL.out.size))
    have HGL := hide (show g < w2.heap.size from HROW2.out.lt)
    clear c0 c1 c2 c3 c4 HO hB2 HROW HBL
    cases b with
    | false =>
      have hz : res = 11 := by rw [HRES.out]; simp
      have HZ := Lib.hid hz
      clear hz
      go_wp2_with fail
      go_ret
      exact ⟨ret_int HZ.out.symm, HB2.out⟩
    | true =>
      obtain ⟨q, hq⟩ : ∃ q, q = ((k == 2 && n != 0 && n != 1) || (k == 3 && !v)) := ⟨_, rfl⟩
      have hr2 := HRES.out
      rw [← hq] at hr2
      have HR2 := Lib.hid hr2; have HQ := Lib.hid hq
      clear HRES hr2 hq
      go_upto_region 5 with fail
      go_cut [38] from 15 to 37 (fun a wc => a = .bool q ∧ wc = w2)
      case first =>
        cases v with
        | true =>
          go_wp2_with (first | (go_at_call 56; refine (HV.out _).mono ?_; rintro e w3 ⟨rfl, rfl⟩) | fail)
          all_goals
            subst_vars
            go_meet
            case rel =>
              refine ⟨?_, rfl⟩
              simp_all
        | false =>
          go_wp2_with (first | (go_at_call 56; refine (HV.out _).mono ?_; rintro e w3 ⟨rfl, rfl⟩) | fail)
          all_goals
            subst_vars
            go_meet
            case rel =>
              refine ⟨?_, rfl⟩
              simp_all
      case rest =>
        obtain ⟨rfl, rfl⟩ := hcut
        obtain ⟨w2, rfl⟩ : ∃ we, we = wc := ⟨_, rfl⟩
        cases q with
        | true =>
          have hz : res = 1 := by rw [HR2.out]; simp
          have HZ := Lib.hid hz
          clear hz
          go_wp2_with fail
          go_ret
          exact ⟨ret_int HZ.out.symm, HB2.out⟩
        | false =>
          have HA := hide (show ascB MS = false → res = 6 from fun h => by rw [HR2.out, h]; simp)
          have HOK := hide (show ascB MS = true → res = firstE (checkF r) (IS ++ MS.map Prod.snd) from fun h => by rw [HR2.out, h]; simp)
          clear HR2 HQ HV
          go_wp2_with fail
          go_loopw [5] (fun iv wr => ∃ i m : Nat, iv = .int .i64 i ∧ wr = w2.drewN m ∧ 1 ≤ i ∧ (i ≤ y ∨ i = 1) ∧ Hid (∀ h : i - 1 < MS.length, ascB MS = ascL (MS[i - 1]).1 (MS.drop i))) (fun iv _ => y + 1 - (intOf iv).toNat)
          case atStart => exact ⟨1, 0, rfl, rfl, by omega, .inr rfl, hide fun h => asc_start h⟩
          case round =>
            obtain ⟨i, m0, rfl, rfl, h1i, hiy, hI⟩ := hrel
            by_cases hlt : i < y
            · have hlt' : i < MS.length := by rw [← HY.out]; exact hlt
              obtain ⟨j, hj⟩ : ∃ j, i = j + 1 := ⟨i - 1, by omega⟩
              have hjl : j < MS.length := by omega
              have hjy : j < y := by omega
              obtain ⟨ad, rfl, hb, hc, hF1⟩ := HM.out i _ (List.getElem?_eq_getElem hlt')
              obtain ⟨ad', e', hb', hc', hF2⟩ := HM.out j _ (List.getElem?_eq_getElem hjl)
              obtain rfl : ad = ad' := Option.some.inj e'
              have hq := hI.out (by omega)
              have hij : MS[i - 1]'(by omega) = MS[j] := by congr 1; omega
              rw [hij, drop_at hlt', ascL] at hq
              obtain ⟨La, hLa⟩ : ∃ l, l = (MS[j]).1 := ⟨_, rfl⟩
              obtain ⟨Lb, hLb⟩ : ∃ l, l = (MS[i]).1 := ⟨_, rfl⟩
              have HLB := Lib.hid hLb
              rw [← hLb] at hc hq
              rw [← hLa] at hc' hq
              have hca := (HB2.out.cell (p := ad.add (j * 6)) (by rw [block_of_add]; exact hb)).trans hc'
              have hcb := (HB2.out.cell (p := ad.add (i * 6)) (by rw [block_of_add]; exact hb)).trans hc
              have wj : IntKind.i64.wrap ((i : Int) - 1) = (j : Int) := by rw [IntWalk.i64_in _ (by omega)]; omega
              unfold ltB at hq
              have HQQ := Lib.hid hq
              clear hLa hLb hij hq hc hc' hb' e' hI hj hF1 hF2 hjl
              cases hlab : Op.bytesLess La.toList Lb.toList with
              | false =>
                have HZ := hide (show res = 6 from HA.out (by rw [HQQ.out, hlab]; simp))
                go_wp2_with fail
                go_quiet (fail)
                go_wp2_with fail
                go_ret
                exact ⟨ret_int HZ.out.symm, by first | exact below_drewN (below_drewN HB2.out _) _ | exact below_drewN HB2.out _⟩
              | true =>
                have HZ := hide (show ascB MS = ascL Lb (MS.drop (i + 1)) by rw [HQQ.out, hlab]; simp)
                go_wp2_with fail
                go_quiet (fail)
                go_wp2_with fail
                go_roundw
                case rel => exact ⟨i + 1, _, by go_num, by first | exact (drew2 _ _ _).choose_spec | rfl, by omega, .inl hlt, hide fun h => by rw [HZ.out, HLB.out]; rfl⟩
                case measure => simp [intOf]; omega
            · have hasc : ascB MS = true := by
                rcases Nat.eq_zero_or_pos y with h | h
                · have : MS = [] := List.eq_nil_of_length_eq_zero (by rw [← HY.out]; exact h)
                  rw [this]; rfl
                · have hY := HY.out
                  have hq := hI.out (by omega)
                  rw [hq, List.drop_eq_nil_of_le (by omega)]; rfl
              have HZ := Lib.hid (HOK.out hasc)
              have HB3 := hide (below_drewN HB2.out m0)
              have HROW3 := hide (HROW2.out.drewN m0)
              obtain ⟨w3, hw3⟩ : ∃ w3, w3 = w2.drewN m0 := ⟨_, rfl⟩
              rw [← hw3] at HB3 HROW3 ⊢
              clear hasc hI HA HOK hw3 hiy h1i HROW2 HB2
              obtain ⟨c0, c1, c2, c3, c4⟩ := row5 HROW3.out
              clear c0' c1' c2' c3' c4'
              go_wp2_with fail
              clear c0 c1 c2 c3 c4
              go_loopw [6, 7] (fun iv _ wr => ∃ i : Nat, iv = .int .i64 i ∧ i ≤ x ∧ Hid (res = firstE (checkF r) (IS.drop i ++ MS.map Prod.snd)) ∧ Hid (Below w3.heap.size w3 wr)) (fun iv _ _ => x - (intOf iv).toNat)
              case atStart => exact ⟨0, rfl, Nat.zero_le _, HZ, hide (Below.refl _ _)⟩
              case round =>
                clear HZ
                obtain ⟨i, rfl, hi, hI, hB⟩ := hrel
                obtain ⟨c0, c1, c2, c3, c4⟩ := row5 (HROW3.out.below hB.out)
                by_cases hlt : i < x
                · have hlt' : i < IS.length := by rw [← HX.out]; exact hlt
                  obtain ⟨ad, rfl, hb, a, q, a', q', hfive, hpts⟩ := HI.out i _ (List.getElem?_eq_getElem hlt')
                  have hq := hI.out
                  rw [drop_at hlt', List.cons_append, firstE] at hq
                  obtain ⟨X, hX⟩ : ∃ X, X = IS[i] := ⟨_, rfl⟩
                  rw [← hX] at hfive hpts hq
                  have hbb : (ad.add (i * 5)).block < w.heap.size := by rw [block_of_add]; exact hb
                  have hBB := HB3.out.trans (hB.out.mono HB3.out.size)
                  obtain ⟨s0, s1, s2, s3, s4⟩ := hfive.same hbb (Same.of_below hBB)
                  have HCK := hide (ih m X a q a' q' (lv + 1) wr HLV.out (by omega) (hpts.turn (Same.of_below hBB) hBB.size))
                  have HQ := Lib.hid hq
                  clear hfive hpts hX hlt' hb hbb hI hq hBB
                  unfold datV datCs at HCK
                  obtain ⟨z, hz⟩ : ∃ z, z = checkF r X := ⟨_, rfl⟩
                  rw [← hz] at HCK HQ
                  clear hz
                  go_wp2_with fail
                  refine (unhide HCK).mono ?_; rintro e w4 ⟨rfl, hB4⟩
                  have HB4 := hide (hB.out.trans (hB4.mono hB.out.size))
                  clear hB4 HCK s0 s1 s2 s3 s4 c0 c1 c2 c3 c4
                  by_cases hz0 : z = 0
                  · subst hz0
                    have HQ2 := hide (show res = firstE (checkF r) (IS.drop (i + 1) ++ MS.map Prod.snd) by rw [HQ.out, if_pos rfl])
                    go_wp2_with fail
                    go_roundw
                    case rel => exact ⟨i + 1, by go_num, by omega, HQ2, HB4⟩
                    case measure => simp [intOf]; omega
                  · have hzz : res = z := by rw [HQ.out, if_neg hz0]
                    have HZ := Lib.hid hzz
                    have g2 : (z != 0) = true := by simpa using hz0
                    clear hzz hz0
                    go_wp2_with fail
                    go_ret
                    exact ⟨ret_int HZ.out.symm, HB3.out.trans (HB4.out.mono HB3.out.size)⟩
                · have HZ := hide (show res = firstE (checkF r) ((MS.drop 0).map Prod.snd) by rw [hI.out, List.drop_eq_nil_of_le (by rw [← HX.out]; omega)]; rfl)
                  have HB4 := hide (HB3.out.trans (hB.out.mono HB3.out.size))
                  have HROW4 := hide (HROW3.out.below hB.out)
                  clear hI HROW3 HB3 hB
                  obtain ⟨w4, rfl⟩ : ∃ w4, w4 = wr := ⟨_, rfl⟩
                  go_wp2_with fail
                  clear c0 c1 c2 c3 c4
                  go_loopw [8, 9] (fun iv _ wr => ∃ i : Nat, iv = .int .i64 i ∧ i ≤ y ∧ Hid (res = firstE (checkF r) ((MS.drop i).map Prod.snd)) ∧ Hid (Below w4.heap.size w4 wr)) (fun iv _ _ => y - (intOf iv).toNat)
                  case atStart => exact ⟨0, rfl, Nat.zero_le _, HZ, hide (Below.refl _ _)⟩
                  case round =>
                    clear HZ
                    obtain ⟨i, rfl, hi, hI, hB⟩ := hrel
                    obtain ⟨c0, c1, c2, c3, c4⟩ := row5 (HROW4.out.below hB.out)
                    by_cases hlt : i < y
                    · have hlt' : i < MS.length := by rw [← HY.out]; exact hlt
                      obtain ⟨ad, rfl, hb, hlab, a, q, a', q', hfive, hpts⟩ := HM.out i _ (List.getElem?_eq_getElem hlt')
                      have hq := hI.out
                      rw [drop_at hlt', List.map_cons, firstE] at hq
                      obtain ⟨X, hX⟩ : ∃ X, X = MS[i] := ⟨_, rfl⟩
                      rw [← hX] at hfive hpts hq hlab
                      have hbb : (ad.add (i * 6)).block < w.heap.size := by rw [block_of_add]; exact hb
                      have hBB := HB4.out.trans (hB.out.mono HB4.out.size)
                      obtain ⟨s0, s1, s2, s3, s4, s5⟩ := six_of ((hBB.cell (p := ad.add (i * 6)) hbb).trans hlab) (hfive.same (p := ⟨_, _, none⟩) hbb (Same.of_below hBB))
                      have HCK := hide (ih m X.2 a q a' q' (lv + 1) wr HLV.out (by omega) (hpts.turn (Same.of_below hBB) hBB.size))
                      have HQ := Lib.hid hq
                      clear hfive hpts hX hlt' hb hbb hI hq hBB hlab
                      unfold datV datCs at HCK
                      obtain ⟨z, hz⟩ : ∃ z, z = checkF r X.2 := ⟨_, rfl⟩
                      rw [← hz] at HCK HQ
                      clear hz
                      go_wp2_with fail
                      refine (unhide HCK).mono ?_; rintro e w5 ⟨rfl, hB5⟩
                      have HB5 := hide (hB.out.trans (hB5.mono hB.out.size))
                      clear hB5 HCK s0 s1 s2 s3 s4 s5 c0 c1 c2 c3 c4
                      by_cases hz0 : z = 0
                      · subst hz0
                        have HQ2 := hide (show res = firstE (checkF r) ((MS.drop (i + 1)).map Prod.snd) by rw [HQ.out, if_pos rfl])
                        go_wp2_with fail
                        go_roundw
                        case rel => exact ⟨i + 1, by go_num, by omega, HQ2, HB5⟩
                        case measure => simp [intOf]; omega
                      · have hzz : res = z := by rw [HQ.out, if_neg hz0]
                        have HZ := Lib.hid hzz
                        have g2 : (z != 0) = true := by simpa using hz0
                        clear hzz hz0
                        go_wp2_with fail
                        go_ret
                        exact ⟨ret_int HZ.out.symm, HB4.out.trans (HB5.out.mono HB4.out.size)⟩
                    · have HZ := hide (show res = 0 by rw [hI.out, List.drop_eq_nil_of_le (by rw [← HY.out]; omega)]; rfl)
                      clear hI
                      go_wp2_with fail
                      go_ret
                      exact ⟨ret_int HZ.out.symm, HB4.out.trans (hB.out.mono HB4.out.size)⟩

set_option maxRecDepth 20000 in
theorem refCheck_run (m : Nat) (d : Dt) (A : Option Addr) (c : Nat) (A' : Option Addr) (c' : Nat) (w : World) (hp : Parts w w.heap.size m d A c A' c') :
    Calls Tryz.prog 16 #[datV d A c A' c'] w fun e w' => e = .returned (.int .i64 (checkD d)) ∧ Below w.heap.size w w' := by
  have HC := hide fun w' (hB : Below w.heap.size w w') => refcheck_run 16 m d A c A' c' 1 w' rfl (by omega) (hp.turn (Same.of_below hB) hB.size)
  unfold checkD
  unfold datV datCs at HC
  unfold datV datCs
  clear hp
  go_enter Tryz.func16, Tryz.ntmps16
  go_wp2_with fail
  have hB0 := below_al (Below.refl w.heap.size w) (Obj.cells #[Value.int IntKind.i64 (kD d), Value.int IntKind.i64 (nD d), Value.string (sD d), Value.slice A (iD d).length c, Value.slice A' (mD d).length c'] 25)
  refine (HC.out _ hB0).mono ?_; rintro e w1 ⟨rfl, hB⟩
  go_wp2_with fail
  go_ret
  exact ⟨rfl, hB0.trans (hB.mono hB0.size)⟩
end Go.Proofs.YtmmbbndoimleaaaGreatDoor

/- Make of the reference. -/
namespace Go.Proofs.YtmmbbndoimleaaaGreatDoor
open Go.RowKit

/-- A kid of the cleared data is a cleared kid. -/
theorem clear_kid {m : Nat} {d x : Dt} (h : x ∈ kids (clearF (m + 1) d)) : ∃ y ∈ kids d, x = clearF m y := by
  unfold clearF at h
  rw [kids_mk] at h
  rcases List.mem_append.1 h with h | h
  · split at h
    · obtain ⟨y, hy, rfl⟩ := List.mem_map.1 h; exact ⟨y, is_kid hy, rfl⟩
    · cases h
  · obtain ⟨z, hz, rfl⟩ := List.mem_map.1 h
    split at hz
    · have := (sortK_ok (k := Prod.fst) _).2.mem hz
      obtain ⟨y, hy, rfl⟩ := List.mem_map.1 this
      exact ⟨y.2, ms_kid hy, rfl⟩
    · cases hz
theorem clear_kids_length (m : Nat) (d : Dt) : (iD (clearF (m + 1) d)).length ≤ (iD d).length ∧ (mD (clearF (m + 1) d)).length ≤ (mD d).length := by
  unfold clearF
  rw [iD_mk, mD_mk]
  constructor
  · split <;> simp
  · split
    · rw [sortK_length, List.length_map]; exact Nat.le_refl _
    · simp
theorem fitC_clear : ∀ (r m : Nat) {d : Dt}, FitC r d → FitC r (clearF m d)
  | 0, _, _, _ => trivial
  | r + 1, 0, _, _ => fitC_zero (r + 1)
  | r + 1, m + 1, d, h => ⟨⟨Nat.le_trans (clear_kids_length m d).1 h.1.1, Nat.le_trans (clear_kids_length m d).2 h.1.2⟩, fun x hx => by
    obtain ⟨y, hy, rfl⟩ := clear_kid hx
    exact fitC_clear r m (h.2 y hy)⟩

end Go.Proofs.YtmmbbndoimleaaaGreatDoor

/- Get. -/
namespace Go.Proofs.YtmmbbndoimleaaaGreatDoor
open Go.RowKit

abbrev Sp := ByteArray × Int
/-- From the address on lie these steps, two cells each. -/
def StepsAt (w : World) (B : Nat) (A : Option Addr) (l : List Sp) : Prop :=
  ∀ i s, l[i]? = some s → ∃ ad, A = some ad ∧ ad.block < B ∧ w.cell? (ad.add (i * 2)) = some (.string s.1) ∧ w.cell? ⟨(ad.add (i * 2)).block, (ad.add (i * 2)).off + 1, none⟩ = some (.int .i64 s.2)
def StepsR (w : World) (B : Nat) (v : Value) (l : List Sp) : Prop := ∃ A c, v = .slice A l.length c ∧ l.length ≤ c ∧ c ≤ maxLen ∧ StepsAt w B A l
theorem StepsR.turn {w w' : World} {B B' : Nat} {v : Value} {l : List Sp} (h : StepsR w B v l) (hs : Same B w w') (hB : B ≤ B') : StepsR w' B' v l := by
  obtain ⟨A, c, e, h1, h2, h3⟩ := h
  refine ⟨A, c, e, h1, h2, fun i s hi => ?_⟩
  obtain ⟨ad, e, hb, c0, c1⟩ := h3 i s hi
  have hb' : (ad.add (i * 2)).block < B := by rw [block_of_add]; exact hb
  exact ⟨ad, e, by omega, (hs.cell hb').trans c0, (hs.cell (p := ⟨_, _, none⟩) hb').trans c1⟩
def goD : Dt → List Sp → Option Dt
  | d, [] => some d
  | d, s :: l => match stepD d s.1 s.2 with
    | none => none
    | some x => goD x l
def getF (m : Nat) (d : Dt) (l : List Sp) : Option Dt := if checkD d = 0 then (goD d l).map (cleanF m 1) else none
theorem findM_mem {lab : ByteArray} : ∀ {l : List (ByteArray × Dt)} {x : Dt}, findM lab l = some x → x ∈ l.map Prod.snd
  | [], _, h => by cases h
  | y :: l, x, h => by
    unfold findM at h
    split at h
    · injection h with h; subst h; simp
    · exact List.mem_cons_of_mem _ (findM_mem h)
theorem stepD_kid {d x : Dt} {lab : ByteArray} {ix : Int} (h : stepD d lab ix = some x) : x ∈ kids d := by
  unfold stepD at h
  split at h
  · split at h
    · exact is_kid (List.mem_of_getElem? h)
    · cases h
  · exact List.mem_append.2 (.inr (findM_mem h))
theorem fitC_kid {d x : Dt} (h : ∀ r, FitC r d) (hx : x ∈ kids d) : ∀ r, FitC r x := fun r => (h (r + 1)).2 x hx
def GetPost (w : World) (m : Nat) (o : Option Dt) (e : Ending) (w' : World) : Prop :=
  ∃ X a q a' q', e = .returned (.tuple #[datV X a q a' q', .bool o.isSome]) ∧ X = o.getD zeroD ∧ Parts w' w'.heap.size m X a q a' q' ∧ Below w.heap.size w w'

end Go.Proofs.YtmmbbndoimleaaaGreatDoor

/- find and Get of the reference. -/
namespace Go.Proofs.YtmmbbndoimleaaaGreatDoor
open Go.RowKit

end Go.Proofs.YtmmbbndoimleaaaGreatDoor

/- depth, Depth and Size of the reference. -/
namespace Go.Proofs.YtmmbbndoimleaaaGreatDoor
open Go.RowKit

/-- size counts all parts where these are few enough. -/
theorem loopS_sum (f : Dt → Int → Int) (g : Dt → Int) (most : Int) : ∀ (l : List Dt) (n : Int), (∀ x ∈ l, 0 ≤ g x ∧ ∀ b, 0 ≤ b → (f x b ≤ b → f x b = g x) ∧ (g x ≤ b → f x b = g x) ∧ (b < f x b ∨ f x b = g x)) → loopS f most l n ≤ most → loopS f most l n = n + sumL g l
  | [], n, _, _ => by simp [loopS, sumL]
  | x :: l, n, h, hle => by
    unfold loopS at hle ⊢
    obtain ⟨h0, hx⟩ := h x (List.mem_cons_self ..)
    split at hle
    · rename_i hn
      rw [if_pos hn]
      rcases (hx (most - n) (by omega)).2.2 with h1 | h1
      · exfalso
        have : ¬ n + f x (most - n) ≤ most := by omega
        cases l with
        | nil => simp [loopS] at hle; omega
        | cons y l => rw [loopS, if_neg this] at hle; exact this hle
      · have := loopS_sum f g most l (n + f x (most - n)) (fun y hy => h y (List.mem_cons_of_mem _ hy)) hle
        rw [this, h1, sumL]; omega
    · rename_i hn; exact absurd hle hn
theorem loopS_all (f : Dt → Int → Int) (g : Dt → Int) (most : Int) : ∀ (l : List Dt) (n : Int), (∀ x ∈ l, 1 ≤ g x ∧ ∀ b, 0 ≤ b → g x ≤ b + 1 → f x b = g x) → n + sumL g l ≤ most + 1 → loopS f most l n = n + sumL g l
  | [], n, _, _ => by simp [loopS, sumL]
  | x :: l, n, h, hle => by
    obtain ⟨h0, hx⟩ := h x (List.mem_cons_self ..)
    have hs : 0 ≤ sumL g l := by
      have := length_le_sumL (f := g) l fun y hy => (h y (List.mem_cons_of_mem _ hy)).1
      omega
    unfold sumL at hle ⊢
    unfold loopS
    rw [if_pos (by omega), hx (most - n) (by omega) (by omega), loopS_all f g most l _ (fun y hy => h y (List.mem_cons_of_mem _ hy)) (by omega)]
    omega
theorem sizeF_all {w : World} {B : Nat} : ∀ (m : Nat) {d : Dt} {A c A' c'} (b : Int), Parts w B m d A c A' c' → 0 ≤ b → partsF m d ≤ b + 1 → sizeF m d b = partsF m d
  | 0, _, _, _, _, _, _, h, _, _ => h.elim
  | m + 1, d, _, _, _, _, b, h, hb, hle => by
    unfold partsF at hle ⊢
    unfold sizeF
    exact loopS_all (sizeF m) (partsF m) b (kids d) 1 (fun x hx => by
      obtain ⟨a, q, a', q', hp⟩ := parts_kid h hx
      exact ⟨partsF_pos hp, fun b hb hle => sizeF_all m b hp hb hle⟩) hle
theorem parts_of_size {w : World} {B : Nat} : ∀ (m : Nat) {d : Dt} {A c A' c'} (b : Int), Parts w B m d A c A' c' → 0 ≤ b → (b < sizeF m d b ∨ sizeF m d b = partsF m d)
  | 0, _, _, _, _, _, _, h, _ => h.elim
  | m + 1, d, _, _, _, _, b, h, hb => by
    by_cases h1 : b < sizeF (m + 1) d b
    · exact .inl h1
    · right
      have h1 : sizeF (m + 1) d b ≤ b := by omega
      have := loopS_sum (sizeF m) (partsF m) b (kids d) 1 (fun x hx => by
        obtain ⟨a, q, a', q', hp⟩ := parts_kid h hx
        refine ⟨partsF_nonneg m x, fun b' hb' => ⟨fun hle => ?_, fun hle => sizeF_all m b' hp hb' (by omega), parts_of_size m b' hp hb'⟩⟩
        rcases parts_of_size m b' hp hb' with h2 | h2
        · omega
        · exact h2) h1
      exact this
theorem small_parts {w : World} {B m : Nat} {d : Dt} {A c A' c'} (h : Parts w B m d A c A' c') (hs : smallF m d = true) : partsF m d ≤ 40 := by
  have h1 : sizeF m d 40 ≤ 40 := by
    unfold smallF at hs
    have := (Bool.and_eq_true _ _ ▸ hs).1
    simpa using this
  rcases parts_of_size m 40 h (by omega) with h2 | h2 <;> omega
end Go.Proofs.YtmmbbndoimleaaaGreatDoor

/- Same. -/
namespace Go.Proofs.YtmmbbndoimleaaaGreatDoor
open Go.RowKit

def zipD (f : Dt → Dt → Bool) : List Dt → List Dt → Bool
  | x :: l, y :: k => f x y && zipD f l k
  | _, _ => true
def zipM (f : Dt → Dt → Bool) : List (ByteArray × Dt) → List (ByteArray × Dt) → Bool
  | x :: l, y :: k => (x.1.toList == y.1.toList) && f x.2 y.2 && zipM f l k
  | _, _ => true
def diffQ (k k' n n' : Int) (s s' : ByteArray) (x x' y y' : Nat) : Bool :=
  (k != k') || (n != n') || !(s.toList == s'.toList) || ((x : Int) != x') || ((y : Int) != y')
def sameF : Nat → Dt → Dt → Bool
  | 0, _, _ => true
  | m + 1, a, b => !diffQ (kD a) (kD b) (nD a) (nD b) (sD a) (sD b) (iD a).length (iD b).length (mD a).length (mD b).length && (zipD (sameF m) (iD a) (iD b) && zipM (sameF m) (mD a) (mD b))

set_option maxRecDepth 20000 in
set_option maxHeartbeats 4000000 in
theorem same_run : ∀ (m : Nat) (d : Dt) (A : Option Addr) (c : Nat) (A' : Option Addr) (c' : Nat) (e : Dt) (E : Option Addr) (f : Nat) (E' : Option Addr) (f' : Nat) (w : World), Parts w w.heap.size m d A c A' c' → Parts w w.heap.size m e E f E' f' →
    Calls Tryz.prog 15 #[datV d A c A' c', datV e E f E' f'] w fun r w' => r = .returned (.bool (sameF m d e)) ∧ Below w.heap.size w w' := by
  intro m
  induction m with
  | zero => intro d  A  c  A'  c'  e  E  f  E'  f'  w  hp  _; exact hp.elim
  | succ m ih =>
    intro d  A  c  A'  c'  e  E  f  E'  f'  w  hp  hp'
    obtain ⟨res, hres⟩ : ∃ k, k = sameF (m + 1) d e := ⟨_, rfl⟩
    rw [← hres]
    unfold sameF at hres
    unfold datV datCs
    obtain ⟨h1, h2, h3, h4⟩ := hp.lens
    have hm := maxLen_le h2; have hn := maxLen_le h4
    have HI := Lib.hid hp.2.1; have HM := Lib.hid hp.2.2
    obtain ⟨k, hk⟩ : ∃ k, k = kD d := ⟨_, rfl⟩
    obtain ⟨n, hnn⟩ : ∃ k, k = nD d := ⟨_, rfl⟩
    obtain ⟨s, hs⟩ : ∃ k, k = sD d := ⟨_, rfl⟩
    obtain ⟨IS, hIS⟩ : ∃ k, k = iD d := ⟨_, rfl⟩
    obtain ⟨MS, hMS⟩ : ∃ k, k = mD d := ⟨_, rfl⟩
    rw [← hk, ← hnn, ← hs, ← hIS, ← hMS] at hres
    rw [← hk, ← hnn, ← hs, ← hIS, ← hMS]
    rw [← hIS] at h1 HI
    rw [← hMS] at h3 HM
    obtain ⟨x, hx⟩ : ∃ k, k = IS.length := ⟨_, rfl⟩
    obtain ⟨y, hy⟩ : ∃ k, k = MS.length := ⟨_, rfl⟩
    rw [← hx, ← hy]
    rw [← hx] at h1
    rw [← hy] at h3
    rw [← hx, ← hy] at hres
    have HX := Lib.hid hx; have HY := Lib.hid hy
    clear hk hnn hs hx hy hIS hMS h2 h4
    obtain ⟨h12, h22, h32, h42⟩ := hp'.lens
    have hm2 := maxLen_le h22; have hn2 := maxLen_le h42
    have HI2 := Lib.hid hp'.2.1; have HM2 := Lib.hid hp'.2.2
    obtain ⟨k2, hk2⟩ : ∃ k, k = kD e := ⟨_, rfl⟩
    obtain ⟨n2, hnn2⟩ : ∃ k, k = nD e := ⟨_, rfl⟩
    obtain ⟨s2, hs2⟩ : ∃ k, k = sD e := ⟨_, rfl⟩
    obtain ⟨IS2, hIS2⟩ : ∃ k, k = iD e := ⟨_, rfl⟩
    obtain ⟨MS2, hMS2⟩ : ∃ k, k = mD e := ⟨_, rfl⟩
    rw [← hk2, ← hnn2, ← hs2, ← hIS2, ← hMS2] at hres
    rw [← hk2, ← hnn2, ← hs2, ← hIS2, ← hMS2]
    rw [← hIS2] at h12 HI2
    rw [← hMS2] at h32 HM2
    obtain ⟨x2, hx2⟩ : ∃ k, k = IS2.length := ⟨_, rfl⟩
    obtain ⟨y2, hy2⟩ : ∃ k, k = MS2.length := ⟨_, rfl⟩
    rw [← hx2, ← hy2]
    rw [← hx2] at h12
    rw [← hy2] at h32
    rw [← hx2, ← hy2] at hres
    have HX2 := Lib.hid hx2; have HY2 := Lib.hid hy2
    clear hk2 hnn2 hs2 hx2 hy2 hIS2 hMS2 h22 h42
    obtain ⟨q, hq⟩ : ∃ q, q = diffQ k k2 n n2 s s2 x x2 y y2 := ⟨_, rfl⟩
    rw [← hq] at hres
    unfold diffQ at hq
    have HRES := Lib.hid hres; have HQ := Lib.hid hq
    clear hres hq hp hp'
    go_enter Tryz.func15, Tryz.ntmps15
    go_upto_region 1 with fail
    obtain ⟨w1, g, e1, e2, hBL, _, _, _, _, _, hROW⟩ := boxD w k n s (.slice A x c) (.slice A' y c')
    obtain ⟨w2, g2, e3, e4, hBL2, _, _, _, _, _, hROW2⟩ := boxD w1 k2 n2 s2 (.slice E x2 f) (.slice E' y2 f')
    have e5 : g + 1 = g2 := by rw [← e4, ← e1, ← e2]; simp
    rw [e1, e2, e3, e5]
    have HBL := hide (hBL.trans (hBL2.mono hBL.size)); have HROW := hide (hROW.below hBL2); have HROW2 := hide hROW2
    clear e1 e2 e3 e4 e5 hBL hBL2 hROW hROW2
    rename_i z0 z1 z2 z3 z4 z5 z6 z7 z8 z9
    clear z0 z1 z2 z3 z4 z5 z6 z7 z8 z9
    obtain ⟨c0, c1, c2, c3, c4⟩ := row5 HROW.out
    obtain ⟨b0, b1, b2, b3, b4⟩ := row5 HROW2.out
    go_cut [43] from 7 to 42 (fun a wc => a = .bool q ∧ wc = w2)
    case first =>
      go_wp2_with fail
      all_goals
        subst_vars
        go_meet
        case rel =>
          refine ⟨?_, rfl⟩
          simp_all
    case rest =>
      obtain ⟨rfl, rfl⟩ := hcut
      obtain ⟨w2, rfl⟩ : ∃ we, we = wc := ⟨_, rfl⟩
      cases q with
      | true =>
        have HZ := hide (show res = false by rw [HRES.out]; rfl)
        go_wp2_with fail
        go_ret
        exact ⟨ret_bool HZ.out.symm, HBL.out⟩
      | false =>
        have hz : res = (zipD (sameF m) IS IS2 && zipM (sameF m) MS MS2) := by rw [HRES.out]; rfl
        have hqq := HQ.out.symm
        simp only [Bool.or_eq_false_iff] at hqq
        obtain ⟨⟨_, hxx⟩, hyy⟩ := hqq
        obtain rfl : x = x2 := Int.ofNat.inj (show (x : Int) = x2 by simpa using hxx)
        obtain rfl : y = y2 := Int.ofNat.inj (show (y : Int) = y2 by simpa using hyy)
        have HZ := Lib.hid hz
        clear hz HRES HQ hxx hyy
        go_wp2_with fail
        clear c0 c1 c2 c3 c4 b0 b1 b2 b3 b4
        go_loopw [5] (fun iv wr => ∃ i : Nat, iv = .int .i64 i ∧ i ≤ x ∧ Hid (res = (zipD (sameF m) (IS.drop i) (IS2.drop i) && zipM (sameF m) MS MS2)) ∧ Hid (Below w2.heap.size w2 wr)) (fun iv _ => x - (intOf iv).toNat)
        case atStart => exact ⟨0, rfl, Nat.zero_le _, HZ, hide (Below.refl _ _)⟩
        case round =>
          clear HZ
          obtain ⟨i, rfl, hi, hI, hB⟩ := hrel
          obtain ⟨c0, c1, c2, c3, c4⟩ := row5 (HROW.out.below hB.out)
          obtain ⟨b0, b1, b2, b3, b4⟩ := row5 (HROW2.out.below hB.out)
          by_cases hlt : i < x
          · have hl1 : i < IS.length := by rw [← HX.out]; exact hlt
            have hl2 : i < IS2.length := by rw [← HX2.out]; exact hlt
            obtain ⟨ad, rfl, hb, a, q, a', q', hfive, hpts⟩ := HI.out i _ (List.getElem?_eq_getElem hl1)
            obtain ⟨ad2, rfl, hb2, a2, q2, a2', q2', hfive2, hpts2⟩ := HI2.out i _ (List.getElem?_eq_getElem hl2)
            have hq := hI.out
            rw [drop_at hl1, drop_at hl2, zipD] at hq
            obtain ⟨X, hX⟩ : ∃ X, X = IS[i] := ⟨_, rfl⟩
            obtain ⟨X2, hX2⟩ : ∃ X, X = IS2[i] := ⟨_, rfl⟩
            rw [← hX] at hfive hpts hq
            rw [← hX2] at hfive2 hpts2 hq
            have hbb : (ad.add (i * 5)).block < w.heap.size := by rw [block_of_add]; exact hb
            have hbb2 : (ad2.add (i * 5)).block < w.heap.size := by rw [block_of_add]; exact hb2
            have hBB := HBL.out.trans (hB.out.mono HBL.out.size)
            obtain ⟨s0, s1, s2', s3, s4⟩ := hfive.same hbb (Same.of_below hBB)
            obtain ⟨t0, t1, t2, t3, t4⟩ := hfive2.same hbb2 (Same.of_below hBB)
            have HCK := hide (ih X a q a' q' X2 a2 q2 a2' q2' wr.drew (hpts.turn (Same.of_below hBB.drew) hBB.drew.size) (hpts2.turn (Same.of_below hBB.drew) hBB.drew.size))
            have HQ := Lib.hid hq
            clear hfive hpts hX hl1 hb hbb hfive2 hpts2 hX2 hl2 hb2 hbb2 hI hq hBB
            unfold datV datCs at HCK
            obtain ⟨z, hz⟩ : ∃ z, z = sameF m X X2 := ⟨_, rfl⟩
            rw [← hz] at HCK HQ
            clear hz
            go_wp2_with fail
            refine wp_region_still_tail 10 (by kernel_rfl) (by kernel_rfl) ?_
            simp only [List.take_succ_cons, List.take_zero, List.drop_succ_cons, List.drop_zero]
            repeat still_step
            refine wpStill_nil ?_
            go_wp2_with fail
            refine (unhide HCK).mono ?_; rintro r w4 ⟨rfl, hB4⟩
            have HB4 := hide (hB.out.drew.trans (hB4.mono hB.out.drew.size))
            clear hB4 HCK s0 s1 s2' s3 s4 t0 t1 t2 t3 t4 c0 c1 c2 c3 c4 b0 b1 b2 b3 b4
            cases z with
            | true =>
              have HQ2 := hide (show res = (zipD (sameF m) (IS.drop (i + 1)) (IS2.drop (i + 1)) && zipM (sameF m) MS MS2) by rw [HQ.out, Bool.true_and])
              go_wp2_with fail
              go_roundw
              case rel => exact ⟨i + 1, by go_num, by omega, HQ2, HB4⟩
              case measure => simp [intOf]; omega
            | false =>
              have HZ := hide (show res = false by rw [HQ.out]; rfl)
              go_wp2_with fail
              go_ret
              exact ⟨ret_bool HZ.out.symm, HBL.out.trans (HB4.out.mono HBL.out.size)⟩
          · have HZ := hide (show res = zipM (sameF m) (MS.drop 0) (MS2.drop 0) by rw [hI.out, List.drop_eq_nil_of_le (by rw [← HX.out]; omega)]; rfl)
            have HB4 := hide (HBL.out.trans (hB.out.mono HBL.out.size))
            have HROW4 := hide (HROW.out.below hB.out); have HROW5 := hide (HROW2.out.below hB.out)
            clear hI HROW HROW2 HBL hB
            obtain ⟨w4, rfl⟩ : ∃ w4, w4 = wr := ⟨_, rfl⟩
            go_wp2_with fail
            clear c0 c1 c2 c3 c4 b0 b1 b2 b3 b4
            go_loopw [6] (fun iv wr => ∃ i : Nat, iv = .int .i64 i ∧ i ≤ y ∧ Hid (res = zipM (sameF m) (MS.drop i) (MS2.drop i)) ∧ Hid (Below w4.heap.size w4 wr)) (fun iv _ => y - (intOf iv).toNat)
            case atStart => exact ⟨0, rfl, Nat.zero_le _, HZ, hide (Below.refl _ _)⟩
            case round =>
              clear HZ
              obtain ⟨i, rfl, hi, hI, hB⟩ := hrel
              obtain ⟨c0, c1, c2, c3, c4⟩ := row5 (HROW4.out.below hB.out)
              obtain ⟨b0, b1, b2, b3, b4⟩ := row5 (HROW5.out.below hB.out)
              by_cases hlt : i < y
              · have hl1 : i < MS.length := by rw [← HY.out]; exact hlt
                have hl2 : i < MS2.length := by rw [← HY2.out]; exact hlt
                obtain ⟨ad, rfl, hb, hlab, a, q, a', q', hfive, hpts⟩ := HM.out i _ (List.getElem?_eq_getElem hl1)
                obtain ⟨ad2, rfl, hb2, hlab2, a2, q2, a2', q2', hfive2, hpts2⟩ := HM2.out i _ (List.getElem?_eq_getElem hl2)
                have hq := hI.out
                rw [drop_at hl1, drop_at hl2, zipM] at hq
                obtain ⟨X, hX⟩ : ∃ X, X = MS[i] := ⟨_, rfl⟩
                obtain ⟨X2, hX2⟩ : ∃ X, X = MS2[i] := ⟨_, rfl⟩
                rw [← hX] at hfive hpts hq hlab
                rw [← hX2] at hfive2 hpts2 hq hlab2
                have hbb : (ad.add (i * 6)).block < w.heap.size := by rw [block_of_add]; exact hb
                have hbb2 : (ad2.add (i * 6)).block < w.heap.size := by rw [block_of_add]; exact hb2
                have hBB := HB4.out.trans (hB.out.mono HB4.out.size)
                obtain ⟨s0, s1, s2', s3, s4, s5⟩ := six_of ((hBB.cell (p := ad.add (i * 6)) hbb).trans hlab) (hfive.same (p := ⟨_, _, none⟩) hbb (Same.of_below hBB))
                obtain ⟨t0, t1, t2, t3, t4, t5⟩ := six_of ((hBB.cell (p := ad2.add (i * 6)) hbb2).trans hlab2) (hfive2.same (p := ⟨_, _, none⟩) hbb2 (Same.of_below hBB))
                have HCK := hide (ih X.2 a q a' q' X2.2 a2 q2 a2' q2' wr.drew (hpts.turn (Same.of_below hBB.drew) hBB.drew.size) (hpts2.turn (Same.of_below hBB.drew) hBB.drew.size))
                have HQ := Lib.hid hq
                clear hfive hpts hX hl1 hb hbb hlab hfive2 hpts2 hX2 hl2 hb2 hbb2 hlab2 hI hq hBB
                unfold datV datCs at HCK
                obtain ⟨z, hz⟩ : ∃ z, z = sameF m X.2 X2.2 := ⟨_, rfl⟩
                rw [← hz] at HCK HQ
                clear hz
                cases hlb : (X.1.toList == X2.1.toList) with
                | false =>
                  have HZ := hide (show res = false by rw [HQ.out, hlb]; rfl)
                  go_wp2_with fail
                  go_quiet (fail)
                  go_wp2_with fail
                  go_ret
                  exact ⟨ret_bool HZ.out.symm, below_drewN (HB4.out.trans (hB.out.mono HB4.out.size)) _⟩
                | true =>
                  have HQ1 := hide (show res = (z && zipM (sameF m) (MS.drop (i + 1)) (MS2.drop (i + 1))) by rw [HQ.out, hlb, Bool.true_and])
                  clear HQ
                  go_wp2_with fail
                  refine wp_region_still_tail 26 (by kernel_rfl) (by kernel_rfl) ?_
                  simp only [List.take_succ_cons, List.take_zero, List.drop_succ_cons, List.drop_zero]
                  repeat (first
                    | still_step
                    | (with_reducible refine wpStill_want ?_ (fun K hK => ?_); kernel_rfl; go_simp; refine hK _ ?_; clear hK K))
                  refine wpStill_nil ?_
                  go_wp2_with fail
                  refine (unhide HCK).mono ?_; rintro r w5 ⟨rfl, hB5⟩
                  have HB5 := hide (hB.out.drew.trans (hB5.mono hB.out.drew.size))
                  clear hB5 HCK s0 s1 s2' s3 s4 s5 t0 t1 t2 t3 t4 t5 c0 c1 c2 c3 c4 b0 b1 b2 b3 b4
                  cases z with
                  | true =>
                    have HQ2 := hide (show res = zipM (sameF m) (MS.drop (i + 1)) (MS2.drop (i + 1)) by rw [HQ1.out, Bool.true_and])
                    go_wp2_with fail
                    go_roundw
                    case rel => exact ⟨i + 1, by go_num, by omega, HQ2, HB5⟩
                    case measure => simp [intOf]; omega
                  | false =>
                    have HZ := hide (show res = false by rw [HQ1.out]; rfl)
                    go_wp2_with fail
                    go_ret
                    exact ⟨ret_bool HZ.out.symm, HB4.out.trans (HB5.out.mono HB4.out.size)⟩
              · have HZ := hide (show res = true by rw [hI.out, List.drop_eq_nil_of_le (by rw [← HY.out]; omega)]; rfl)
                clear hI
                go_wp2_with fail
                go_ret
                exact ⟨ret_bool HZ.out.symm, HB4.out.trans (hB.out.mono HB4.out.size)⟩
end Go.Proofs.YtmmbbndoimleaaaGreatDoor

/- items and members of the reference. -/
namespace Go.Proofs.YtmmbbndoimleaaaGreatDoor
open Go.RowKit

end Go.Proofs.YtmmbbndoimleaaaGreatDoor

/- compare, Compare and Equal of the reference. -/
namespace Go.Proofs.YtmmbbndoimleaaaGreatDoor
open Go.RowKit

def rcompF : Nat → Dt → Dt → Int
  | 0, _, _ => 0
  | m + 1, d, e =>
    if kD d ≠ kD e then cmpI (kD d) (kD e)
    else if kD d = 2 ∨ kD d = 3 then cmpI (nD d) (nD e)
    else if kD d = 4 then cmpS (sD d) (sD e)
    else if kD d = 5 then cmpL (rcompF m) (iD d) (iD e)
    else if kD d = 6 then cmpL (compM (rcompF m)) (mD d) (mD e)
    else 0

end Go.Proofs.YtmmbbndoimleaaaGreatDoor

/- Compare and Equal of the reference, and that they are the program's. -/
namespace Go.Proofs.YtmmbbndoimleaaaGreatDoor
open Go.RowKit

def rcompareB (z v : Bool) (cc : Int) : Int := if z = true then (if v = true then cc else 0) else 0
def requalB (z v : Bool) (cc : Int) : Bool := z && (v && (cc == 0))

/-- The two orders agree on valid data. -/
theorem firstE_zero {f : Dt → Int} : ∀ {l : List Dt}, firstE f l = 0 → ∀ x ∈ l, f x = 0
  | y :: l, h, x, hx => by
    unfold firstE at h
    split at h
    · rename_i hy
      rcases List.mem_cons.1 hx with rfl | hx
      · exact hy
      · exact firstE_zero h x hx
    · rename_i hy; exact absurd h hy
theorem cmpL_congr {α : Type} {f g : α → α → Int} : ∀ (l k : List α), (∀ x ∈ l, ∀ y ∈ k, f x y = g x y) → cmpL f l k = cmpL g l k
  | [], [], _ => rfl
  | [], _ :: _, _ => rfl
  | _ :: _, [], _ => rfl
  | x :: l, y :: k, h => by
    unfold cmpL
    rw [h x (List.mem_cons_self ..) y (List.mem_cons_self ..), cmpL_congr l k fun a ha b hb => h a (List.mem_cons_of_mem _ ha) b (List.mem_cons_of_mem _ hb)]
theorem cmpS_self (s : ByteArray) : cmpS s s = 0 := by
  unfold cmpS gtB
  have : ∀ l : List UInt8, Op.bytesLess l l = false := by
    intro l
    induction l with
    | nil => rfl
    | cons a l ih => simp [Op.bytesLess, ih]
  simp [this]
theorem plain_of {d : Dt} {r : Nat} (h : checkF (r + 1) d = 0) : plainB d = true ∧ ∀ x ∈ kids d, checkF r x = 0 := by
  unfold checkF at h
  split at h
  · rename_i ho
    refine ⟨?_, firstE_zero h⟩
    unfold ownD at ho
    cases hp : plainB d with
    | true => rfl
    | false => rw [hp, if_pos rfl] at ho; exact absurd ho (by decide)
  · rename_i ho; exact absurd h ho
theorem rcomp_eq : ∀ (m r : Nat) (d e : Dt), checkF r d = 0 → checkF r e = 0 → rcompF m d e = compF m d e
  | 0, _, _, _, _, _ => rfl
  | _ + 1, 0, _, _, h, _ => by simp [checkF] at h
  | m + 1, r + 1, d, e, hd, he => by
    obtain ⟨pd, kd⟩ := plain_of hd
    obtain ⟨pe, ke⟩ := plain_of he
    have hI : cmpL (rcompF m) (iD d) (iD e) = cmpL (compF m) (iD d) (iD e) := cmpL_congr _ _ fun x hx y hy => rcomp_eq m r x y (kd x (is_kid hx)) (ke y (is_kid hy))
    have hM : cmpL (compM (rcompF m)) (mD d) (mD e) = cmpL (compM (compF m)) (mD d) (mD e) := cmpL_congr _ _ fun x hx y hy => by
      unfold compM
      rw [rcomp_eq m r x.2 y.2 (kd _ (ms_kid hx)) (ke _ (ms_kid hy))]
    unfold rcompF compF
    rw [hI, hM]
    by_cases hk : kD d = kD e
    · rw [if_neg (by simpa using hk), if_pos hk]
      unfold plainB plainQ at pd pe
      rw [← hk] at pe
      simp only [Bool.and_eq_true, Bool.or_eq_true, decide_eq_true_eq, beq_iff_eq] at pd pe
      obtain ⟨⟨⟨⟨⟨p1, p2⟩, p3⟩, p4⟩, p5⟩, p6⟩ := pd
      obtain ⟨⟨⟨⟨⟨q1, q2⟩, q3⟩, q4⟩, q5⟩, q6⟩ := pe
      have hnil : ∀ {a : ByteArray}, a.toList = [] → ∀ {b : ByteArray}, b.toList = [] → cmpS a b = 0 := fun ha _ hb => by
        unfold cmpS gtB; rw [ha, hb]; rfl
      have hil : ∀ {l k : List Dt}, (l.length : Int) = 0 → (k.length : Int) = 0 → cmpL (compF m) l k = 0 := fun {l k} h1 h2 => by
        obtain rfl : l = [] := List.eq_nil_of_length_eq_zero (by omega)
        obtain rfl : k = [] := List.eq_nil_of_length_eq_zero (by omega)
        rfl
      have hml : ∀ {l k : List (ByteArray × Dt)}, (l.length : Int) = 0 → (k.length : Int) = 0 → cmpL (compM (compF m)) l k = 0 := fun {l k} h1 h2 => by
        obtain rfl : l = [] := List.eq_nil_of_length_eq_zero (by omega)
        obtain rfl : k = [] := List.eq_nil_of_length_eq_zero (by omega)
        rfl
      have hn : kD d ≠ 2 → kD d ≠ 3 → cmpI (nD d) (nD e) = 0 := fun a b => by
        have h1 : nD d = 0 := by rcases p3 with (h | h) | h; exact absurd h a; exact absurd h b; exact h
        have h2 : nD e = 0 := by rcases q3 with (h | h) | h; exact absurd h a; exact absurd h b; exact h
        rw [h1, h2]; rfl
      have hs : kD d ≠ 4 → cmpS (sD d) (sD e) = 0 := fun a => hnil (by rcases p4 with h | h; exact absurd h a; exact h) (by rcases q4 with h | h; exact absurd h a; exact h)
      have hi : kD d ≠ 5 → cmpL (compF m) (iD d) (iD e) = 0 := fun a => hil (by rcases p5 with h | h; exact absurd h a; exact h) (by rcases q5 with h | h; exact absurd h a; exact h)
      have hm : kD d ≠ 6 → cmpL (compM (compF m)) (mD d) (mD e) = 0 := fun a => hml (by rcases p6 with h | h; exact absurd h a; exact h) (by rcases q6 with h | h; exact absurd h a; exact h)
      have e0 : ∀ a : Int, (if orI a 0 = 0 then orI 0 0 else orI a 0) = a := fun a => by unfold orI; split <;> (try split) <;> simp_all
      by_cases c23 : kD d = 2 ∨ kD d = 3
      · rw [if_pos c23, hs (by omega), hi (by omega), hm (by omega), e0]
      · rw [if_neg c23, hn (by omega) (by omega)]
        have e1 : ∀ a : Int, orI 0 a = a := fun a => by simp [orI]
        by_cases c4 : kD d = 4
        · rw [if_pos c4, hi (by omega), hm (by omega), e1, e1]
          split
          · rename_i h; exact h
          · rfl
        · rw [if_neg c4, hs c4, e1, if_pos rfl]
          by_cases c5 : kD d = 5
          · rw [if_pos c5, hm (by omega)]
            unfold orI; split
            · rename_i h; exact h
            · rfl
          · rw [if_neg c5, hi c5, e1]
            by_cases c6 : kD d = 6
            · rw [if_pos c6]
            · rw [if_neg c6, hm c6]
    · rw [if_pos hk, if_neg hk]
theorem rcompare_eq (m : Nat) (d e : Dt) : rcompareB (checkD d == 0) (checkD e == 0) (rcompF m d e) = compareD m d e := by
  unfold rcompareB compareD
  by_cases hd : checkD d = 0
  · by_cases he : checkD e = 0
    · rw [if_pos (by simpa using hd), if_pos (by simpa using he), if_pos hd, if_pos he, rcomp_eq m 16 d e hd he]
    · rw [if_pos (by simpa using hd), if_neg (by simpa using he), if_pos hd, if_neg he]
  · rw [if_neg (by simpa using hd), if_neg hd]
theorem requal_eq (m : Nat) (d e : Dt) : requalB (checkD d == 0) (checkD e == 0) (rcompF m d e) = equalD m d e := by
  unfold requalB equalD
  by_cases hd : checkD d = 0
  · by_cases he : checkD e = 0
    · rw [rcomp_eq m 16 d e hd he]
    · have h2 : (checkD e == 0) = false := by simpa using he
      rw [h2]; rfl
  · have h2 : (checkD d == 0) = false := by simpa using hd
    rw [h2]; rfl
end Go.Proofs.YtmmbbndoimleaaaGreatDoor
