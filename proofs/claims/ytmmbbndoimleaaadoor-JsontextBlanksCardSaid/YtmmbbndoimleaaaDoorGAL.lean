/- A text that stands in another text is read alike: plain; A value that stands in another text is read alike; what is read, is sound but for its depth: plain; into of the reference: a member is laid behind all whose labels are not greater; clear of the reference: data with sorted members and without unused fields, whatever its depth; Make of the reference; Get; find and Get of the reference; items and members of the reference; compare, Compare and Equal of the reference; Compare and Equal of the reference, and that they are the program's; A valid part, cleaned, is the same part: plain; clean and clear, as plain functions: the same first error, the same data where there is none; what is cleaned stays as it is; The law of blanks, plain; The law of blanks: the three answers. -/
import Derived.Test.YtmmbbndoimleaaaDoorGAJ
import Derived.Test.YtmmbbndoimleaaaDoorGAG
import Derived.Test.YtmmbbndoimleaaaDoorGAC
import Derived.Test.YtmmbbndoimleaaaDoorGAI
import Derived.Test.YtmmbbndoimleaaaDoorGAD
import Derived.Test.YtmmbbndoimleaaaDoorGAE

/- A text that stands in another text is read alike: plain. -/
namespace Go.Proofs.YtmmbbndoimleaaaDoor
open Go.RowKit

/-- S stands in T at p; behind it nothing goes on with a number; b: blanks follow up to the end. -/
structure Shift (S T : ByteArray) (p : Nat) (b : Bool) : Prop where
  in_ : ∀ i, i < S.size → nx T (p + i) = nx S i
  size : p + S.size ≤ T.size
  dig : digB (nx T (p + S.size)) = false
  dot : nx T (p + S.size) ≠ 46
  next : b = true → nx T (p + S.size) = 13
  tail : b = true → blk T (p + S.size) = T.size
def Bad {α : Type} (t : Except Flt α) : Prop := ∃ f, t = .error f ∧ f.1 ≠ 0
/-- The answers of the two texts. -/
def Sim {α : Type} (b : Bool) (p n : Nat) (r t : Except Flt (α × Nat)) : Prop :=
  match r with
  | .ok (x, j) => t = .ok (x, p + j)
  | .error (e, a) => (e ≠ 0 ∧ 0 ≤ a ∧ a ≤ (n : Int)) ∧ (b = true → (a = (n : Int) → Bad t) ∧ (a ≠ (n : Int) → t = .error (e, a + (p : Int))))
def SimN (b : Bool) (p n : Nat) (r t : Except Flt Nat) : Prop :=
  match r with
  | .ok j => t = .ok (p + j)
  | .error (e, a) => (e ≠ 0 ∧ 0 ≤ a ∧ a ≤ (n : Int)) ∧ (b = true → (a = (n : Int) → Bad t) ∧ (a ≠ (n : Int) → t = .error (e, a + (p : Int))))
section
variable {S T : ByteArray} {p : Nat} {b : Bool}
theorem bad_mk {α : Type} (e a : Int) (h : e ≠ 0) : Bad (.error (e, a) : Except Flt α) := ⟨_, rfl, h⟩
/-- A fault at a place inside. -/
theorem sim_err {α : Type} {n : Nat} {e : Int} {i k : Nat} (hi : i < n) (hk : k = p + i) (he : e ≠ 0 := by decide) : Sim b p n (.error (e, (i : Int)) : Except Flt (α × Nat)) (.error (e, (k : Int))) := ⟨⟨he, by omega, by omega⟩, fun _ =>
  ⟨fun h => absurd h (by omega), fun _ => by rw [show (k : Int) = (i : Int) + (p : Int) by omega]⟩⟩
/-- A fault at the end. -/
theorem sim_end {α : Type} {n : Nat} {e : Int} {t : Except Flt (α × Nat)} (h : b = true → Bad t) (he : e ≠ 0 := by decide) : Sim b p n (.error (e, (n : Int)) : Except Flt (α × Nat)) t := ⟨⟨he, by omega, by omega⟩, fun hb =>
  ⟨fun _ => h hb, fun hn => absurd rfl hn⟩⟩
theorem simN_fault {α : Type} {n : Nat} {f : Flt} {t : Except Flt Nat} {u : Except Flt (α × Nat)} (h : SimN b p n (.error f) t) (hu : ∀ g, t = .error g → u = .error g) : Sim b p n (.error f : Except Flt (α × Nat)) u := ⟨h.1, fun hb => by
  obtain ⟨w1, w2⟩ := h.2 hb
  refine ⟨fun e => ?_, fun e => hu _ (w2 e)⟩
  obtain ⟨g, hg, hg2⟩ := w1 e
  exact ⟨g, hu _ hg, hg2⟩⟩
theorem sim_fault {α β : Type} {n : Nat} {f : Flt} {t : Except Flt (β × Nat)} {u : Except Flt (α × Nat)} (h : Sim b p n (.error f) t) (hu : ∀ g, t = .error g → u = .error g) : Sim b p n (.error f : Except Flt (α × Nat)) u := ⟨h.1, fun hb => by
  obtain ⟨w1, w2⟩ := h.2 hb
  refine ⟨fun e => ?_, fun e => hu _ (w2 e)⟩
  obtain ⟨g, hg, hg2⟩ := w1 e
  exact ⟨g, hu _ hg, hg2⟩⟩
theorem sh_run (H : Shift S T p b) {q : Nat → Bool} (h0 : q 0 = false) : ∀ (k i : Nat), S.size - i = k → i ≤ S.size → (runF q S i < S.size → runF q T (p + i) = p + runF q S i) ∧ (runF q S i = S.size → runF q T (p + i) = runF q T (p + S.size))
  | 0, i, hk, hi => by
    obtain rfl : i = S.size := by omega
    have e : runF q S S.size = S.size := run_stop (by rw [nx_past (by omega)]; exact h0)
    exact ⟨fun h => by omega, fun _ => rfl⟩
  | k + 1, i, hk, hi => by
    cases hq : q (nx S i) with
    | true =>
      have h2 : q (nx T (p + i)) = true := by rw [H.in_ i (by omega)]; exact hq
      rw [run_step h0 hq, run_step h0 h2, Nat.add_assoc]
      exact sh_run H h0 k (i + 1) (by omega) (by omega)
    | false =>
      have h2 : q (nx T (p + i)) = false := by rw [H.in_ i (by omega)]; exact hq
      rw [run_stop hq, run_stop h2]
      exact ⟨fun _ => rfl, fun h => by omega⟩
theorem sh_dge (H : Shift S T p b) {i : Nat} (hi : i ≤ S.size) : dge T (p + i) = p + dge S i := by
  obtain ⟨h1, h2⟩ := sh_run H (q := digB) rfl _ i rfl hi
  rcases Nat.lt_or_ge (runF digB S i) S.size with h | h
  · exact h1 h
  · have h3 : runF digB S i = S.size := by have := run_le digB hi; omega
    have h4 := h2 h3
    show runF digB T (p + i) = p + runF digB S i
    rw [h4, h3, run_stop H.dig]
theorem sh_blk (H : Shift S T p b) {i : Nat} (hi : i ≤ S.size) : (blk S i < S.size → blk T (p + i) = p + blk S i) ∧ (blk S i = S.size → blk T (p + i) = blk T (p + S.size)) := sh_run H rfl _ i rfl hi
theorem sh_word (H : Shift S T p b) : ∀ (l : List UInt8), (∀ c ∈ l, c.toNat ≠ 0 ∧ c.toNat ≠ 13) → ∀ i, i ≤ S.size → SimN b p S.size (wordF S l i) (wordF T l (p + i))
  | [], _, i, _ => rfl
  | c :: l, hl, i, hi => by
    obtain ⟨h0, h13⟩ := hl c (List.mem_cons_self ..)
    unfold wordF
    by_cases h : nx S i = c.toNat
    · have hi2 : i < S.size := nx_in (by rw [h]; exact h0)
      rw [if_pos h, if_pos (by rw [H.in_ i hi2]; exact h), Nat.add_assoc]
      exact sh_word H l (fun x hx => hl x (List.mem_cons_of_mem _ hx)) (i + 1) hi2
    · rw [if_neg h]
      refine ⟨⟨by decide, by omega, by omega⟩, fun hb => ?_⟩
      rcases Nat.eq_or_lt_of_le hi with rfl | hi2
      · rw [if_neg (by rw [H.next hb]; exact fun e => h13 e.symm)]
        exact ⟨fun _ => bad_mk _ _ (by decide), fun hn => absurd rfl hn⟩
      · rw [if_neg (by rw [H.in_ i hi2]; exact h)]
        exact ⟨fun e => absurd e (by omega), fun _ => by rw [show ((p + i : Nat) : Int) = (i : Int) + (p : Int) by omega]⟩
theorem sh_esc (H : Shift S T p b) {i : Nat} (hi : i < S.size) : Sim b p S.size (escF S i) (escF T (p + i)) := by
  rcases Nat.lt_or_ge (i + 1) S.size with h1 | h1
  · have e1 : nx T (p + i + 1) = nx S (i + 1) := by rw [Nat.add_assoc]; exact H.in_ _ h1
    unfold escF
    simp only [e1]
    generalize nx S (i + 1) = c
    by_cases a1 : c = 34 ∨ c = 92 ∨ c = 47
    · rw [if_pos a1, if_pos a1]; exact congrArg _ (by rw [Nat.add_assoc])
    rw [if_neg a1, if_neg a1]
    by_cases a2 : c = 98
    · rw [if_pos a2, if_pos a2]; exact congrArg _ (by rw [Nat.add_assoc])
    rw [if_neg a2, if_neg a2]
    by_cases a3 : c = 116
    · rw [if_pos a3, if_pos a3]; exact congrArg _ (by rw [Nat.add_assoc])
    rw [if_neg a3, if_neg a3]
    by_cases a4 : c = 110
    · rw [if_pos a4, if_pos a4]; exact congrArg _ (by rw [Nat.add_assoc])
    rw [if_neg a4, if_neg a4]
    by_cases a5 : c = 102
    · rw [if_pos a5, if_pos a5]; exact congrArg _ (by rw [Nat.add_assoc])
    rw [if_neg a5, if_neg a5]
    by_cases a6 : c = 114
    · rw [if_pos a6, if_pos a6]; exact congrArg _ (by rw [Nat.add_assoc])
    rw [if_neg a6, if_neg a6]
    by_cases a7 : c = 117
    · rw [if_pos a7, if_pos a7]
      have hw := sh_word H [48, 48] (by decide) (i + 2) h1
      rw [← Nat.add_assoc] at hw
      cases hq : wordF S [48, 48] (i + 2) with
      | error f =>
        rw [hq] at hw
        exact simN_fault hw fun g hg => by rw [hg]
      | ok j =>
        rw [hq] at hw
        have hw : wordF T [48, 48] (p + i + 2) = .ok (p + j) := hw
        have hj : j ≤ S.size := word_in hq (by decide) (by simp)
        rw [hw]
        simp only
        rcases Nat.eq_or_lt_of_le hj with rfl | hj2
        · rw [show hexV (nx S S.size) = none by rw [nx_past (by omega)]; rfl]
          refine sim_end fun hb => ?_
          rw [H.next hb]
          exact bad_mk _ _ (by decide)
        · rw [H.in_ j hj2]
          cases hexV (nx S j) with
          | none => exact sim_err hj2 rfl
          | some a =>
            simp only
            rcases Nat.lt_or_ge (j + 1) S.size with h2 | h2
            · rw [Nat.add_assoc, H.in_ (j + 1) h2]
              cases hexV (nx S (j + 1)) with
              | none => exact sim_err h2 rfl
              | some b' => exact congrArg (fun z => Except.ok (16 * a + b', z)) (Nat.add_assoc _ _ _)
            · obtain e2 : j + 1 = S.size := by omega
              rw [Nat.add_assoc, e2, show hexV (nx S S.size) = none by rw [nx_past (by omega)]; rfl]
              refine sim_end fun hb => ?_
              rw [H.next hb]
              exact bad_mk _ _ (by decide)
    · rw [if_neg a7, if_neg a7]
      exact sim_err h1 (by omega)
  · have e1 : i + 1 = S.size := by omega
    have e2 : escF S i = .error (19, ((S.size : Nat) : Int)) := by
      unfold escF
      rw [e1, nx_past (S := S) (i := S.size) (by omega)]
      rfl
    rw [e2]
    refine sim_end fun hb => ?_
    unfold escF
    rw [show p + i + 1 = p + S.size by omega, H.next hb]
    exact bad_mk _ _ (by decide)
theorem sh_str (H : Shift S T p b) : ∀ (k i : Nat) (o : ByteArray), S.size - i ≤ k → i ≤ S.size → Sim b p S.size (strR S i o) (strR T (p + i) o)
  | k, i, o, hk, hi => by
    have hsz := H.size
    rcases Nat.eq_or_lt_of_le hi with rfl | hi2
    · rw [strR_eq (Nat.le_refl _), nx_past (S := S) (i := S.size) (by omega), if_neg (by decide), if_neg (by decide), if_pos (.inl (Nat.le_refl _))]
      refine sim_end fun hb => ?_
      rw [strR_eq hsz, H.next hb, if_neg (by decide), if_neg (by decide), if_pos (.inr (.inl (by decide)))]
      exact bad_mk _ _ (by decide)
    obtain ⟨k, rfl⟩ : ∃ q, k = q + 1 := ⟨k - 1, by omega⟩
    rw [strR_eq hi, strR_eq (S := T) (by omega), H.in_ i hi2]
    by_cases a1 : nx S i = 34
    · rw [if_pos a1, if_pos a1]; exact congrArg _ (by rw [Nat.add_assoc])
    rw [if_neg a1, if_neg a1]
    by_cases a2 : nx S i = 92
    · rw [if_pos a2, if_pos a2]
      have he := sh_esc H hi2
      cases hq : escF S i with
      | error f =>
        rw [hq] at he
        exact sim_fault he fun g hg => by rw [hg]
      | ok q =>
        obtain ⟨c, j⟩ := q
        rw [hq] at he
        have he : escF T (p + i) = .ok (c, p + j) := he
        rw [he]
        have := esc_ok hq
        exact sh_str H k j _ (by omega) (by omega)
    rw [if_neg a2, if_neg a2]
    by_cases a3 : S.size ≤ i ∨ nx S i < 32 ∨ 126 < nx S i
    · rw [if_pos a3, if_pos (by omega)]
      exact sim_err hi2 rfl
    · rw [if_neg a3, if_neg (by omega), Nat.add_assoc]
      exact sh_str H k (i + 1) _ (by omega) hi2
theorem sh_strF (H : Shift S T p b) {i : Nat} (hi : i ≤ S.size) : Sim b p S.size (strF S i) (strF T (p + i)) := by
  have hw := sh_word H [34] (by decide) i hi
  unfold strF
  cases hq : wordF S [34] i with
  | error f =>
    rw [hq] at hw
    exact simN_fault hw fun g hg => by rw [hg]
  | ok j =>
    rw [hq] at hw
    have hw : wordF T [34] (p + i) = .ok (p + j) := hw
    rw [hw]
    have := word1 (by decide) hq
    exact sh_str H _ j _ (Nat.le_refl _) (by omega)
theorem sh_digN (H : Shift S T p b) (a : Nat) : ∀ k, a + k ≤ S.size → digN T (p + a) k = digN S a k
  | 0, _ => rfl
  | k + 1, h => by
    unfold digN
    rw [sh_digN H a k (by omega), Nat.add_assoc, H.in_ (a + k) (by omega)]
theorem sh_fracN (H : Shift S T p b) {a e : Nat} (he : e ≤ S.size) (u : Nat) : ∀ k, fracN T (p + a) (p + e) u k = fracN S a e u k
  | 0 => rfl
  | k + 1 => by
    unfold fracN
    rw [sh_fracN H he u k]
    congr 1
    by_cases h : a + k < e
    · rw [if_pos h, if_pos (by omega), Nat.add_assoc, H.in_ (a + k) (by omega)]
    · rw [if_neg h, if_neg (by omega)]
def numI (S : ByteArray) (i : Nat) : Nat := if nx S i = 45 then i + 1 else i
def numJ (S : ByteArray) (a : Nat) : Nat := if nx S a = 48 then a + 1 else dge S a
def numZ (S : ByteArray) (j : Nat) : Nat := if nx S j = 46 then dge S (j + 1) else j
def numK (S : ByteArray) (i a j e : Nat) : Except Flt (Int × Nat) :=
  if 5 < e - j ∨ 15 < j - a then .error (1, (i : Int)) else if 1000000000000000 < fracN S (j + 1) e (digN S a (j - a)) 4 then .error (1, (i : Int)) else
    .ok (if a = i then ((fracN S (j + 1) e (digN S a (j - a)) 4 : Nat) : Int) else -((fracN S (j + 1) e (digN S a (j - a)) 4 : Nat) : Int), e)
theorem numE_k (S : ByteArray) (i : Nat) : numE S i = if digB (nx S (numI S i)) = false then .error (19, ((numI S i : Nat) : Int)) else
    if nx S (numJ S (numI S i)) = 46 ∧ digB (nx S (numJ S (numI S i) + 1)) = false then .error (19, ((numJ S (numI S i) + 1 : Nat) : Int)) else
      numK S i (numI S i) (numJ S (numI S i)) (numZ S (numJ S (numI S i))) := rfl
theorem sh_num (H : Shift S T p b) {i : Nat} (hi : i < S.size) : Sim b p S.size (numE S i) (numE T (p + i)) := by
  have hI : numI T (p + i) = p + numI S i := by
    unfold numI
    rw [H.in_ i hi]
    by_cases h : nx S i = 45
    · rw [if_pos h, if_pos h, Nat.add_assoc]
    · rw [if_neg h, if_neg h]
  obtain ⟨a, ha⟩ : ∃ a, a = numI S i := ⟨_, rfl⟩
  have ha1 : i ≤ a ∧ a ≤ i + 1 := by rw [ha]; unfold numI; split <;> omega
  rw [numE_k, numE_k, hI, ← ha]
  have hda : digB (nx T (p + a)) = digB (nx S a) := by
    rcases Nat.lt_or_ge a S.size with h | h
    · rw [H.in_ a h]
    · obtain rfl : a = S.size := by omega
      rw [H.dig, nx_past (by omega)]; rfl
  rw [hda]
  cases hd : digB (nx S a) with
  | false =>
    rw [if_pos rfl, if_pos rfl]
    rcases Nat.lt_or_ge a S.size with h | h
    · exact sim_err h rfl
    · obtain rfl : a = S.size := by omega
      exact sim_end fun _ => bad_mk _ _ (by decide)
  | true =>
    have htf : ¬ (true = false) := by decide
    rw [if_neg htf, if_neg htf]
    have has : a < S.size := nx_in fun e => by rw [e] at hd; cases hd
    have hJ : numJ T (p + a) = p + numJ S a := by
      unfold numJ
      rw [H.in_ a has]
      by_cases h : nx S a = 48
      · rw [if_pos h, if_pos h, Nat.add_assoc]
      · rw [if_neg h, if_neg h]; exact sh_dge H (by omega)
    obtain ⟨j, hj⟩ : ∃ j, j = numJ S a := ⟨_, rfl⟩
    have hj1 : a ≤ j ∧ j ≤ S.size := by
      rw [hj]; unfold numJ
      split
      · omega
      · exact ⟨run_ge _ _ _, run_le _ (by omega)⟩
    rw [hJ, ← hj]
    have hdot : nx T (p + j) = 46 ↔ nx S j = 46 := by
      rcases Nat.lt_or_ge j S.size with h | h
      · rw [H.in_ j h]
      · obtain rfl : j = S.size := by omega
        rw [nx_past (S := S) (i := S.size) (by omega)]
        exact ⟨fun h => absurd h H.dot, fun h => absurd h (by decide)⟩
    have hZ : numZ T (p + j) = p + numZ S j := by
      unfold numZ
      by_cases h : nx S j = 46
      · have : j < S.size := nx_in (by rw [h]; decide)
        rw [if_pos h, if_pos (hdot.2 h), Nat.add_assoc]; exact sh_dge H (by omega)
      · rw [if_neg h, if_neg (fun e => h (hdot.1 e))]
    obtain ⟨e, he⟩ : ∃ e, e = numZ S j := ⟨_, rfl⟩
    have he1 : j ≤ e ∧ e ≤ S.size := by
      rw [he]; unfold numZ
      by_cases h : nx S j = 46
      · have h1 : j < S.size := nx_in (by rw [h]; decide)
        have h2 : j + 1 ≤ dge S (j + 1) := run_ge digB S (j + 1)
        have h3 : dge S (j + 1) ≤ S.size := run_le digB (by omega)
        rw [if_pos h]; omega
      · rw [if_neg h]; omega
    rw [hZ, ← he]
    by_cases hb : nx S j = 46 ∧ digB (nx S (j + 1)) = false
    · have h1 : j < S.size := nx_in (by rw [hb.1]; decide)
      have h2 : digB (nx T (p + j + 1)) = false := by
        rw [Nat.add_assoc]
        rcases Nat.lt_or_ge (j + 1) S.size with h | h
        · rw [H.in_ _ h]; exact hb.2
        · obtain h3 : j + 1 = S.size := by omega
          rw [h3]; exact H.dig
      rw [if_pos hb, if_pos ⟨hdot.2 hb.1, h2⟩]
      rcases Nat.lt_or_ge (j + 1) S.size with h | h
      · exact sim_err h (by omega)
      · obtain h3 : j + 1 = S.size := by omega
        rw [h3]
        exact sim_end fun _ => bad_mk _ _ (by decide)
    · rw [if_neg hb, if_neg (fun hc => hb ⟨hdot.1 hc.1, by
        have h1 : j < S.size := nx_in (by rw [hdot.1 hc.1]; decide)
        have h2 := hc.2
        rw [Nat.add_assoc] at h2
        rcases Nat.lt_or_ge (j + 1) S.size with h | h
        · rw [H.in_ _ h] at h2; exact h2
        · rw [nx_past (by omega)]; rfl⟩)]
      have hN : digN T (p + a) (p + j - (p + a)) = digN S a (j - a) := by
        rw [show p + j - (p + a) = j - a by omega]
        exact sh_digN H a (j - a) (by omega)
      have hF := sh_fracN H (a := j + 1) (e := e) he1.2 (digN S a (j - a)) 4
      unfold numK
      rw [hN, show p + j + 1 = p + (j + 1) by omega, hF, show p + e - (p + j) = e - j by omega, show p + j - (p + a) = j - a by omega]
      by_cases c1 : 5 < e - j ∨ 15 < j - a
      · rw [if_pos c1, if_pos c1]; exact sim_err hi rfl
      rw [if_neg c1, if_neg c1]
      by_cases c2 : 1000000000000000 < fracN S (j + 1) e (digN S a (j - a)) 4
      · rw [if_pos c2, if_pos c2]; exact sim_err hi rfl
      rw [if_neg c2, if_neg c2]
      by_cases c3 : a = i
      · rw [if_pos c3, if_pos (by omega)]; rfl
      · rw [if_neg c3, if_neg (by omega)]; rfl
/-- A step that is read alike in both texts. -/
structure Step_ {α : Type} (S T : ByteArray) (p : Nat) (b : Bool) (i0 : Nat) (s t : α → Nat → Except Flt (α × Nat)) : Prop where
  sim : ∀ x i, i0 < i → i < S.size → Sim b p S.size (s x i) (t x (p + i))
  ends : ∀ x, s x S.size = .error (19, (S.size : Int))
  endt : ∀ x, Bad (t x T.size)
  gains : Gain S s
  gaint : Gain T t
theorem sh_comma (H : Shift S T p b) {j : Nat} (hj : j ≤ S.size) : SimN b p S.size (wordF S [44] (blk S j)) (wordF T [44] (blk T (p + j))) ∧ (blk S j = S.size → wordF S [44] (blk S j) = .error (19, (S.size : Int))) := by
  obtain ⟨h1, h2⟩ := sh_blk H hj
  have hle : blk S j ≤ S.size := run_le _ hj
  rcases Nat.eq_or_lt_of_le hle with h | h
  · have e : wordF S [44] (blk S j) = .error (19, (S.size : Int)) := by
      unfold wordF
      rw [h, nx_past (by omega), if_neg (by decide)]
    refine ⟨?_, fun _ => e⟩
    rw [e, h2 h]
    refine ⟨⟨by decide, by omega, by omega⟩, fun hb => ⟨fun _ => ?_, fun hn => absurd rfl hn⟩⟩
    rw [H.tail hb]
    unfold wordF
    rw [nx_past (by omega), if_neg (by decide)]
    exact bad_mk _ _ (by decide)
  · rw [h1 h]
    exact ⟨sh_word H [44] (by decide) _ hle, fun e => by omega⟩
theorem sh_sevR {α : Type} (H : Shift S T p b) {s t : α → Nat → Except Flt (α × Nat)} {c i0 : Nat} (hc : c ≠ 0) (hs : Step_ S T p b i0 s t) : ∀ (k : Nat) (x : α) (i : Nat), S.size - i ≤ k → i ≤ S.size → i0 < i → Sim b p S.size (sevR S c s x i) (sevR T c t x (p + i))
  | k, x, i, hk, hi, h0 => by
    have hsz := H.size
    have hge : i ≤ blk S i := run_ge _ _ _
    have hle : blk S i ≤ S.size := run_le _ hi
    obtain ⟨h1, h2⟩ := sh_blk H hi
    rw [sevR_eq hs.gains x hi, sevR_eq hs.gaint x (show p + i ≤ T.size by omega)]
    rcases Nat.eq_or_lt_of_le hle with h | h
    · rw [h, hs.ends x, h2 h]
      refine sim_end fun hb => ?_
      rw [H.tail hb]
      obtain ⟨f, hf, hf2⟩ := hs.endt x
      rw [hf]; exact ⟨f, rfl, hf2⟩
    · have hst := hs.sim x (blk S i) (by omega) h
      rw [h1 h]
      cases hq : s x (blk S i) with
      | error f =>
        rw [hq] at hst
        exact sim_fault hst fun g hg => by rw [hg]
      | ok q =>
        obtain ⟨y, j⟩ := q
        rw [hq] at hst
        have hst : t x (p + blk S i) = .ok (y, p + j) := hst
        obtain ⟨g1, g2⟩ := hs.gains _ _ _ _ hq
        rw [hst]
        simp only
        obtain ⟨b1, b2⟩ := sh_blk H g2
        have hbl : blk S j ≤ S.size := run_le _ g2
        obtain ⟨c1, c2⟩ := sh_comma H g2
        by_cases hn : nx S (blk S j) = c
        · have hlt : blk S j < S.size := nx_in (by rw [hn]; exact hc)
          rw [if_pos hn, b1 hlt, if_pos (by rw [H.in_ _ hlt]; exact hn)]
          exact congrArg (fun z => Except.ok (y, z)) (Nat.add_assoc _ _ _)
        · rw [if_neg hn]
          rcases Nat.eq_or_lt_of_le hbl with hj | hj
          · rw [c2 hj]
            refine sim_end fun hb => ?_
            rw [b2 hj, H.tail hb, nx_past (by omega), if_neg (by exact fun e => hc e.symm)]
            have : wordF T [44] T.size = .error (19, ((T.size : Nat) : Int)) := by unfold wordF; rw [nx_past (by omega), if_neg (by decide)]
            rw [this]
            exact bad_mk _ _ (by decide)
          · rw [if_neg (by rw [b1 hj, H.in_ _ hj]; exact hn)]
            cases hw : wordF S [44] (blk S j) with
            | error f =>
              rw [hw] at c1
              exact simN_fault c1 fun g hg => by rw [hg]
            | ok q =>
              rw [hw] at c1
              have c1 : wordF T [44] (blk T (p + j)) = .ok (p + q) := c1
              rw [c1]
              have hj3 : j ≤ blk S j := run_ge _ _ _
              obtain ⟨g5, g6⟩ := word1 (by decide) hw
              obtain ⟨k, rfl⟩ : ∃ z, k = z + 1 := ⟨k - 1, by omega⟩
              exact sh_sevR H hc hs k y q (by omega) (by omega) (by omega)
theorem sh_sevF {α : Type} (H : Shift S T p b) {s t : α → Nat → Except Flt (α × Nat)} {c i : Nat} (hc : c ≠ 0) (hs : Step_ S T p b i s t) (x : α) (hi : i < S.size) : Sim b p S.size (sevF S c s x i) (sevF T c t x (p + i)) := by
  have hsz := H.size
  have hge : i + 1 ≤ blk S (i + 1) := run_ge _ _ _
  have hle : blk S (i + 1) ≤ S.size := run_le _ hi
  obtain ⟨h1, h2⟩ := sh_blk H (i := i + 1) hi
  unfold sevF
  rw [Nat.add_assoc]
  by_cases hn : nx S (blk S (i + 1)) = c
  · have hlt : blk S (i + 1) < S.size := nx_in (by rw [hn]; exact hc)
    rw [if_pos hn, h1 hlt, if_pos (by rw [H.in_ _ hlt]; exact hn)]
    exact congrArg (fun z => Except.ok (x, z)) (Nat.add_assoc _ _ _)
  · rw [if_neg hn]
    rcases Nat.eq_or_lt_of_le hle with h | h
    · have e : sevR S c s x (blk S (i + 1)) = .error (19, (S.size : Int)) := by
        rw [sevR_eq hs.gains x hle]
        have : blk S (blk S (i + 1)) = S.size := by
          have h3 := run_ge blkB S (blk S (i + 1))
          have h4 := run_le blkB hle
          show runF blkB S (blk S (i + 1)) = S.size
          omega
        rw [this, hs.ends x]
      rw [e]
      refine sim_end fun hb => ?_
      rw [h2 h, H.tail hb, nx_past (by omega), if_neg (fun e => hc e.symm), sevR_eq hs.gaint x (Nat.le_refl _)]
      have : blk T T.size = T.size := run_stop (by rw [nx_past (by omega)]; rfl)
      rw [this]
      obtain ⟨f, hf, hf2⟩ := hs.endt x
      rw [hf]; exact ⟨f, rfl, hf2⟩
    · rw [h1 h, if_neg (by rw [H.in_ _ h]; exact hn)]
      exact sh_sevR H hc hs _ x _ (Nat.le_refl _) hle (by omega)
end
end Go.Proofs.YtmmbbndoimleaaaDoor

/- A value that stands in another text is read alike; what is read, is sound but for its depth: plain. -/
namespace Go.Proofs.YtmmbbndoimleaaaDoor
open Go.RowKit

section
variable {S T : ByteArray} {p : Nat} {b : Bool}
theorem val_end (S : ByteArray) (m : Nat) : valF S m S.size = .error (19, (S.size : Int)) := by
  cases m with
  | zero => rfl
  | succ m =>
    unfold valF
    rw [nx_past (by omega)]
    rfl
theorem str_end (S : ByteArray) : strF S S.size = .error (19, (S.size : Int)) := by
  unfold strF wordF
  rw [nx_past (by omega)]
  rfl
theorem sh_item {m m' i0 : Nat} (hv : ∀ i, i0 < i → i < S.size → Sim b p S.size (valF S m i) (valF T m' (p + i))) : Step_ S T p b i0 (itemS (valF S m)) (itemS (valF T m')) where
  sim := fun x i h0 hi => by
    have h := hv i h0 hi
    unfold itemS
    cases hq : valF S m i with
    | error f =>
      rw [hq] at h
      exact sim_fault h fun g hg => by rw [hg]
    | ok q =>
      obtain ⟨d, j⟩ := q
      rw [hq] at h
      have h : valF T m' (p + i) = .ok (d, p + j) := h
      rw [h]; rfl
  ends := fun x => by unfold itemS; rw [val_end]
  endt := fun x => by unfold itemS; rw [val_end]; exact bad_mk _ _ (by decide)
  gains := item_gain fun _ _ _ h => val_gain m h
  gaint := item_gain fun _ _ _ h => val_gain m' h
theorem sh_mem (H : Shift S T p b) {m m' i0 : Nat} (hv : ∀ i, i0 < i → i < S.size → Sim b p S.size (valF S m i) (valF T m' (p + i))) : Step_ S T p b i0 (memS S (valF S m)) (memS T (valF T m')) where
  sim := fun x i h0 hi => by
    have hsz := H.size
    have h := sh_strF H (i := i) (by omega)
    unfold memS
    cases hq : strF S i with
    | error f =>
      rw [hq] at h
      exact sim_fault h fun g hg => by rw [hg]
    | ok q =>
      obtain ⟨s, j⟩ := q
      rw [hq] at h
      have h : strF T (p + i) = .ok (s, p + j) := h
      obtain ⟨g1, g2⟩ := str_gain hq
      rw [h]
      simp only
      by_cases hd : (x.any fun m => m.1.toList == s.toList) = true
      · rw [if_pos hd, if_pos hd]; exact sim_err hi rfl
      rw [if_neg hd, if_neg hd]
      obtain ⟨h1, h2⟩ := sh_blk H g2
      have hle : blk S j ≤ S.size := run_le _ g2
      have hge : j ≤ blk S j := run_ge _ _ _
      rcases Nat.eq_or_lt_of_le hle with he | he
      · have e : wordF S [58] (blk S j) = .error (19, (S.size : Int)) := by
          unfold wordF
          rw [he, nx_past (by omega), if_neg (by decide)]
        rw [e]
        refine sim_end fun hb => ?_
        have : wordF T [58] T.size = .error (19, ((T.size : Nat) : Int)) := by unfold wordF; rw [nx_past (by omega), if_neg (by decide)]
        rw [h2 he, H.tail hb, this]
        exact bad_mk _ _ (by decide)
      have hw := sh_word H [58] (by decide) _ hle
      rw [h1 he]
      cases hq2 : wordF S [58] (blk S j) with
      | error f =>
        rw [hq2] at hw
        exact simN_fault hw fun g hg => by rw [hg]
      | ok k =>
        rw [hq2] at hw
        have hw : wordF T [58] (p + blk S j) = .ok (p + k) := hw
        obtain ⟨g5, g6⟩ := word1 (by decide) hq2
        rw [hw]
        simp only
        have hk : k ≤ S.size := by omega
        obtain ⟨k1, k2⟩ := sh_blk H hk
        have hkl : blk S k ≤ S.size := run_le _ hk
        have hkg : k ≤ blk S k := run_ge _ _ _
        rcases Nat.eq_or_lt_of_le hkl with hf | hf
        · rw [hf, val_end]
          refine sim_end fun hb => ?_
          rw [k2 hf, H.tail hb, val_end]
          exact bad_mk _ _ (by decide)
        · rw [k1 hf]
          have hvv := hv (blk S k) (by omega) hf
          cases hq3 : valF S m (blk S k) with
          | error f =>
            rw [hq3] at hvv
            exact sim_fault hvv fun g hg => by rw [hg]
          | ok q =>
            obtain ⟨d, z⟩ := q
            rw [hq3] at hvv
            have hvv : valF T m' (p + blk S k) = .ok (d, p + z) := hvv
            rw [hvv]; rfl
  ends := fun x => by unfold memS; rw [str_end]
  endt := fun x => by unfold memS; rw [str_end]; exact bad_mk _ _ (by decide)
  gains := mem_gain fun _ _ _ h => val_gain m h
  gaint := mem_gain fun _ _ _ h => val_gain m' h
theorem sh_val (H : Shift S T p b) : ∀ (m m' i : Nat), S.size < i + m → m ≤ m' → i < S.size → Sim b p S.size (valF S m i) (valF T m' (p + i))
  | 0, _, i, h, _, hi => by omega
  | m + 1, 0, i, _, h, _ => by omega
  | m + 1, m' + 1, i, hm, hmm, hi => by
    have hv : ∀ k, i < k → k < S.size → Sim b p S.size (valF S m k) (valF T m' (p + k)) := fun k h1 h2 => sh_val H m m' k (by omega) (by omega) h2
    have e1 := H.in_ i hi
    unfold valF
    rw [e1]
    have hword : ∀ (l : List UInt8) (D : Dt), (∀ c ∈ l, c.toNat ≠ 0 ∧ c.toNat ≠ 13) → Sim b p S.size (match wordF S l i with | .error f => .error f | .ok j => .ok (D, j)) (match wordF T l (p + i) with | .error f => .error f | .ok j => .ok (D, j)) := fun l D hl => by
      have hw := sh_word H l hl i (by omega)
      cases hq : wordF S l i with
      | error f =>
        rw [hq] at hw
        exact simN_fault hw fun g hg => by rw [hg]
      | ok j =>
        rw [hq] at hw
        have hw : wordF T l (p + i) = .ok (p + j) := hw
        rw [hw]; rfl
    by_cases a1 : nx S i = 110
    · rw [if_pos a1, if_pos a1]; exact hword _ _ (by decide)
    rw [if_neg a1, if_neg a1]
    by_cases a2 : nx S i = 116
    · rw [if_pos a2, if_pos a2]; exact hword _ _ (by decide)
    rw [if_neg a2, if_neg a2]
    by_cases a3 : nx S i = 102
    · rw [if_pos a3, if_pos a3]; exact hword _ _ (by decide)
    rw [if_neg a3, if_neg a3]
    by_cases a4 : nx S i = 34
    · rw [if_pos a4, if_pos a4]
      have h := sh_strF H (i := i) (by omega)
      cases hq : strF S i with
      | error f =>
        rw [hq] at h
        exact sim_fault h fun g hg => by rw [hg]
      | ok q =>
        obtain ⟨s, j⟩ := q
        rw [hq] at h
        have h : strF T (p + i) = .ok (s, p + j) := h
        rw [h]; rfl
    rw [if_neg a4, if_neg a4]
    by_cases a5 : nx S i = 45 ∨ digB (nx S i) = true
    · rw [if_pos a5, if_pos a5]
      have h := sh_num H hi
      cases hq : numE S i with
      | error f =>
        rw [hq] at h
        exact sim_fault h fun g hg => by rw [hg]
      | ok q =>
        obtain ⟨s, j⟩ := q
        rw [hq] at h
        have h : numE T (p + i) = .ok (s, p + j) := h
        rw [h]; rfl
    rw [if_neg a5, if_neg a5]
    by_cases a6 : nx S i = 91
    · rw [if_pos a6, if_pos a6]
      have h := sh_sevF H (c := 93) (by decide) (sh_item hv) [] hi
      cases hq : sevF S 93 (itemS (valF S m)) [] i with
      | error f =>
        rw [hq] at h
        exact sim_fault h fun g hg => by rw [hg]
      | ok q =>
        obtain ⟨s, j⟩ := q
        rw [hq] at h
        have h : sevF T 93 (itemS (valF T m')) [] (p + i) = .ok (s, p + j) := h
        rw [h]; rfl
    rw [if_neg a6, if_neg a6]
    by_cases a7 : nx S i = 123
    · rw [if_pos a7, if_pos a7]
      have h := sh_sevF H (c := 125) (by decide) (sh_mem H hv) [] hi
      cases hq : sevF S 125 (memS S (valF S m)) [] i with
      | error f =>
        rw [hq] at h
        exact sim_fault h fun g hg => by rw [hg]
      | ok q =>
        obtain ⟨s, j⟩ := q
        rw [hq] at h
        have h : sevF T 125 (memS T (valF T m')) [] (p + i) = .ok (s, p + j) := h
        rw [h]; rfl
    · rw [if_neg a7, if_neg a7]; exact sim_err hi rfl
end
/-- Data that a reader made: sound but for its depth; at most so many levels. -/
def Good : Nat → Dt → Prop
  | 0, _ => False
  | m + 1, d => (d = mkD (kD d) (nD d) (sD d) (iD d) (mD d)) ∧ ((kD d = 1 ∨ kD d = 2 ∨ kD d = 3 ∨ kD d = 4) ∧ iD d = [] ∧ mD d = [] ∧ ownD d = 0 ∨ kD d = 5 ∧ mD d = [] ∧ (∀ x ∈ iD d, Good m x) ∨ kD d = 6 ∧ iD d = [] ∧ (∀ x ∈ mD d, Good m x.2) ∧ ∀ s, (filK Prod.fst s (mD d)).length ≤ 1)
theorem Good.up : ∀ {m : Nat} {d : Dt}, Good m d → Good (m + 1) d
  | 0, _, h => h.elim
  | m + 1, d, ⟨h0, h⟩ => by
    refine ⟨h0, ?_⟩
    rcases h with h | ⟨h1, h2, h3⟩ | ⟨h1, h2, h3, h4⟩
    · exact .inl h
    · exact .inr (.inl ⟨h1, h2, fun x hx => Good.up (h3 x hx)⟩)
    · exact .inr (.inr ⟨h1, h2, fun x hx => Good.up (h3 x hx), h4⟩)
theorem num_range {S : ByteArray} {i : Nat} {u : Int} {j : Nat} (h : numE S i = .ok (u, j)) : validB u = true := by
  rw [numE_k] at h
  split at h
  · cases h
  split at h
  · cases h
  unfold numK at h
  split at h
  · cases h
  split at h
  · cases h
  · injection h with h
    injection h with h1 h2
    subst h1
    unfold validB
    split <;> (simp; omega)
theorem leaf_good (m : Nat) (k n : Int) (s : ByteArray) (hk : k = 1 ∨ k = 2 ∨ k = 3 ∨ k = 4) (h : ownD (leafD k n s) = 0) : Good (m + 1) (leafD k n s) := ⟨rfl, .inl ⟨hk, rfl, rfl, h⟩⟩
theorem num_own {u : Int} (h : validB u = true) : ownD (leafD 3 u ⟨#[]⟩) = 0 := by
  have h1 : plainB (leafD 3 u ⟨#[]⟩) = true := by kernel_rfl
  have h2 : rangeB (leafD 3 u ⟨#[]⟩) = false := by
    show ((false && _ && _) || (true && !validB u)) = false
    rw [h]; rfl
  have h3 : ascB (mD (leafD 3 u ⟨#[]⟩)) = true := rfl
  unfold ownD
  rw [h1, h2, h3]; rfl
theorem val_good {S : ByteArray} : ∀ (m : Nat) {i : Nat} {d : Dt} {j : Nat}, valF S m i = .ok (d, j) → Good m d
  | 0, _, _, _, h => by unfold valF at h; cases h
  | m + 1, i, d, j, h => by
    have ih : ∀ {k : Nat} {d : Dt} {j : Nat}, valF S m k = .ok (d, j) → Good m d := fun h => val_good m h
    unfold valF at h
    split at h
    · cases hw : wordF S [110, 117, 108, 108] i with
      | error f => rw [hw] at h; cases h
      | ok k =>
        rw [hw] at h
        injection h with h; injection h with h1 h2
        subst h1
        exact leaf_good m 1 0 _ (by omega) (by kernel_rfl)
    split at h
    · cases hw : wordF S [116, 114, 117, 101] i with
      | error f => rw [hw] at h; cases h
      | ok k =>
        rw [hw] at h
        injection h with h; injection h with h1 h2
        subst h1
        exact leaf_good m 2 1 _ (by omega) (by kernel_rfl)
    split at h
    · cases hw : wordF S [102, 97, 108, 115, 101] i with
      | error f => rw [hw] at h; cases h
      | ok k =>
        rw [hw] at h
        injection h with h; injection h with h1 h2
        subst h1
        exact leaf_good m 2 0 _ (by omega) (by kernel_rfl)
    split at h
    · cases hw : strF S i with
      | error f => rw [hw] at h; cases h
      | ok q =>
        obtain ⟨s, k⟩ := q
        rw [hw] at h
        injection h with h; injection h with h1 h2
        subst h1
        exact leaf_good m 4 0 s (by omega) (by kernel_rfl)
    split at h
    · cases hw : numE S i with
      | error f => rw [hw] at h; cases h
      | ok q =>
        obtain ⟨u, k⟩ := q
        rw [hw] at h
        injection h with h; injection h with h1 h2
        subst h1
        exact leaf_good m 3 u _ (by omega) (num_own (num_range hw))
    split at h
    · cases hw : sevF S 93 (itemS (valF S m)) [] i with
      | error f => rw [hw] at h; cases h
      | ok q =>
        obtain ⟨l, k⟩ := q
        rw [hw] at h
        injection h with h; injection h with h1 h2
        subst h1
        have := (sev_inv (Q := fun (x : List Dt) _ => ∀ y ∈ x, Good m y) (fun x i y j hx hs => by
          unfold itemS at hs
          cases hv : valF S m i with
          | error f => rw [hv] at hs; cases hs
          | ok q =>
            obtain ⟨d, k⟩ := q
            rw [hv] at hs
            injection hs with hs; injection hs with h1 h2
            subst h1
            intro y hy
            rcases List.mem_append.1 hy with hy | hy
            · exact hx y hy
            · have : y = d := by simpa using hy
              subst this; exact ih hv) (fun _ _ _ _ h => h) (by decide) (val_ig S m) (by simp) hw).1
        exact ⟨by simp, .inr (.inl ⟨rfl, by simp, this⟩)⟩
    split at h
    · cases hw : sevF S 125 (memS S (valF S m)) [] i with
      | error f => rw [hw] at h; cases h
      | ok q =>
        obtain ⟨l, k⟩ := q
        rw [hw] at h
        injection h with h; injection h with h1 h2
        subst h1
        have := (sev_inv (Q := fun (x : List (ByteArray × Dt)) _ => (∀ y ∈ x, Good m y.2) ∧ ∀ s, (filK Prod.fst s x).length ≤ 1) (fun x i y j hx hs => by
          unfold memS at hs
          cases hq : strF S i with
          | error f => rw [hq] at hs; cases hs
          | ok q =>
            obtain ⟨s, a⟩ := q
            rw [hq] at hs
            simp only at hs
            split at hs
            · cases hs
            rename_i hd
            cases hw : wordF S [58] (blk S a) with
            | error f => rw [hw] at hs; cases hs
            | ok k =>
              rw [hw] at hs
              simp only at hs
              cases hv : valF S m (blk S k) with
              | error f => rw [hv] at hs; cases hs
              | ok q =>
                obtain ⟨d, z⟩ := q
                rw [hv] at hs
                injection hs with hs; injection hs with h1 h2
                subst h1
                refine ⟨fun y hy => ?_, fun s' => ?_⟩
                · rcases List.mem_append.1 hy with hy | hy
                  · exact hx.1 y hy
                  · have : y = (s, d) := by simpa using hy
                    subst this; exact ih hv
                · have hnil : filK Prod.fst s x = [] := filK_nil_of fun y hy e => hd (by
                    rw [List.any_eq_true]
                    exact ⟨y, hy, by rw [e]; simp⟩)
                  rw [filK_append, List.length_append]
                  by_cases e : s = s'
                  · subst e
                    rw [hnil]
                    have : (filK Prod.fst s [(s, d)]).length ≤ 1 := by unfold filK; exact List.length_filter_le ..
                    simpa using this
                  · have h2 : filK Prod.fst s' [(s, d)] = [] := filK_nil_of fun y hy => by
                      have : y = (s, d) := by simpa using hy
                      subst this; exact e
                    rw [h2]
                    exact hx.2 s') (fun _ _ _ _ h => h) (by decide) (mem_gain fun _ _ _ h => val_gain m h) ⟨by simp, fun s => by simp [filK]⟩ hw).1
        exact ⟨by simp, .inr (.inr ⟨rfl, rfl, by rw [mD_mk]; exact this.1, by rw [mD_mk]; exact this.2⟩)⟩
    · cases h
end Go.Proofs.YtmmbbndoimleaaaDoor

/- into of the reference: a member is laid behind all whose labels are not greater. -/
namespace Go.Proofs.YtmmbbndoimleaaaDoor
open Go.RowKit

theorem insK_take (x : ByteArray × Dt) : ∀ (L : List (ByteArray × Dt)) (k : Nat), k ≤ L.length → (∀ i (h : i < L.length), i < k → ltB x.1 L[i].1 = false) → (∀ h : k < L.length, ltB x.1 L[k].1 = true) → insK Prod.fst x L = L.take k ++ x :: L.drop k
  | [], k, hk, _, _ => by
    have : k = 0 := by simpa using hk
    subst this; rfl
  | y :: L, 0, _, _, h2 => by
    have := h2 (by simp)
    simp at this
    unfold insK
    rw [if_pos this]; rfl
  | y :: L, k + 1, hk, h1, h2 => by
    have h0 := h1 0 (by simp) (by omega)
    simp at h0
    unfold insK
    rw [if_neg (by rw [h0]; simp), insK_take x L k (by simpa using hk) (fun i h hi => h1 (i + 1) (by simpa using h) (by omega)) (fun h => h2 (by simpa using h))]
    rfl

theorem own_newsM {w : World} {b n c size : Nat} {e : TypeId} {A : Option Addr} {xs : List Value} (h : w.ownsRow b e size (.slice A n c) n xs) : (A = none → n = 0 ∧ c = 0) ∧ ∀ W, Below w.heap.size w W → ∀ ad, A = some ad → ∀ j u, xs[j]? = some u → W.cell? (ad.add j) = some u := by
  rcases h.2 with ⟨e1, h0⟩ | ⟨g, cap, cur, e1, _, hh, _⟩
  · injection e1 with e1 e2 e3
    subst e1 e3
    exact ⟨fun _ => ⟨h0, rfl⟩, fun W _ ad e => (by cases e)⟩
  · injection e1 with e1 e2 e3
    subst e1
    refine ⟨fun e => (by cases e), fun W hB ad e j u hu => ?_⟩
    injection e with e
    subst e
    exact (own_below h hB).cells rfl j u hu
theorem take_get {α : Type} {l : List α} {k j : Nat} {u : α} (h : (l.take k)[j]? = some u) : l[j]? = some u := by
  rw [List.getElem?_take] at h
  split at h
  · exact h
  · cases h
theorem flat_cut {R : Reads} : ∀ {xs : List Value} {l : List (ByteArray × Dt)} (i : Nat), FlatM R xs l → FlatM R (xs.take (i * 6)) (l.take i) ∧ FlatM R (xs.drop (i * 6)) (l.drop i)
  | xs, l, 0, h => by simpa using And.intro (show FlatM R [] [] from rfl) h
  | xs, [], i + 1, h => by
    have h : xs = [] := h
    subst h; simp; exact rfl
  | _, d :: l, i + 1, ⟨a, c, a', c', ys, e, hR, h⟩ => by
    obtain ⟨h1, h2⟩ := flat_cut i h
    subst e
    have e6 : (Value.string d.1 :: datCs d.2 a c a' c').length = 6 := rfl
    constructor
    · refine ⟨a, c, a', c', ys.take (i * 6), ?_, hR, h1⟩
      rw [List.take_append, e6, show (i + 1) * 6 - 6 = i * 6 by omega, List.take_of_length_le (by rw [e6]; omega)]
    · rw [List.drop_append, e6, show (i + 1) * 6 - 6 = i * 6 by omega, List.drop_of_length_le (by rw [e6]; omega), List.nil_append]
      exact h2
theorem own_join {R : Reads} {w : World} {b b' k i : Nat} {v : Value} {xs : List Value} {L : List (ByteArray × Dt)} {x : ByteArray × Dt} {a c a' c'} (h0 : w.ownsRow b 50 6 v k (xs.take (i * 6) ++ .string x.1 :: (datCs x.2 a c a' c' ++ xs.drop (i * 6)))) (hf : FlatM R xs L) (hx : R x.2 a c a' c') (hb : b' ≤ b) :
    OwnM R w b' v (L.take i ++ x :: L.drop i) := by
  have h : w.ownsRow b 50 6 v k (xs.take (i * 6) ++ (.string x.1 :: datCs x.2 a c a' c') ++ xs.drop (i * 6)) := by simpa using h0
  obtain ⟨h1, h2⟩ := flat_cut i hf
  have hfl := (h1.append (FlatM.one (m := x) hx)).append h2
  have e : L.take i ++ [x] ++ L.drop i = L.take i ++ x :: L.drop i := by simp
  rw [e] at hfl
  have hlen : k = (L.take i ++ x :: L.drop i).length := by
    have h3 := h.1
    have h4 := hfl.length
    omega
  exact ⟨_, by rw [← hlen]; exact own_mono h hb, hfl⟩
theorem leq_true {x y : ByteArray} (h : ltB x y = false) : (Op.bytesLess y.toList x.toList || y.toList == x.toList) = true := by
  rcases Bool.eq_false_or_eq_true (ltB y x) with e | e
  · have : Op.bytesLess y.toList x.toList = true := e
    rw [this]; rfl
  · rw [ltB_antisymm e h]; simp
theorem leq_false {x y : ByteArray} (h : ltB x y = true) : (Op.bytesLess y.toList x.toList || y.toList == x.toList) = false := by
  have h1 : Op.bytesLess y.toList x.toList = false := bl_asymm _ _ h
  rw [h1, Bool.false_or, beq_eq_false_iff_ne]
  intro e
  have : ltB x y = false := by unfold ltB; rw [e]; exact bl_irr _
  rw [this] at h; cases h

end Go.Proofs.YtmmbbndoimleaaaDoor

/- clear of the reference: data with sorted members and without unused fields, whatever its depth. -/
namespace Go.Proofs.YtmmbbndoimleaaaDoor
open Go.RowKit

def clearF : Nat → Dt → Dt
  | 0, _ => zeroD
  | m + 1, d => mkD (kD d) (if kD d = 2 ∨ kD d = 3 then nD d else 0) (if kD d = 4 then sD d else ⟨#[]⟩) (if kD d = 5 then (iD d).map (clearF m) else [])
        (if kD d = 6 then sortK Prod.fst ((mD d).map fun x => (x.1, clearF m x.2)) else [])
theorem OwnM.mzC {lo base : Nat} {w : World} {m : Nat} {u : Value} {l : List (ByteArray × Dt)} (h : OwnM (PZ base none w m) w base u l) (hl : lo ≤ base) : MZ lo w m u l := by
  obtain ⟨A, c, rfl, h1, h2, _⟩ := h.mems
  refine ⟨A, c, rfl, h1, h2, fun W g1 g2 => ?_⟩
  obtain ⟨xs, ho, hf⟩ := h
  rcases Nat.eq_zero_or_pos l.length with h0 | h0
  · rw [List.eq_nil_of_length_eq_zero h0]; intro i x hx; simp at hx
  · obtain ⟨g, rfl, hg, hg2⟩ := own_lo ho h0
    refine MemsAt.of_flat (hf.turn fun x a c a' c' hp => hp W g1 fun k k1 k2 _ => g2 k (by omega) k2) (by show g < _; omega) fun j v hv => ?_
    have hc := ho.cells (g := g) rfl j v hv
    rw [add_head] at hc ⊢
    exact (World.cell?_of_block (g2 g (by omega) hg2)).trans hc
/-- The members behind a store to a box. -/
theorem into_set {b0 g5 m i : Nat} {w : World} {u : Value} {l : List (ByteArray × Dt)} (h : OwnM (PZ b0 none w m) w b0 u l) (hg : g5 < b0) (v : Value) : OwnM (PZ b0 none (w.setCell ⟨g5, i, none⟩ v) m) (w.setCell ⟨g5, i, none⟩ v) b0 u l := by
  obtain ⟨xs, ho, hf⟩ := h
  refine ⟨xs, own_set ho hg v, hf.turn fun x a c a' c' hp => hp.turn (by rw [csize_set]; exact Nat.le_refl _) fun k k1 _ _ => ⟨Below.heap_setCell _ _ _ _ (by show k ≠ g5; omega), k1, by simp⟩⟩
theorem pz_below {b0 m : Nat} {w w' : World} {d : Dt} {a c a' c'} (h : PZ b0 none w m d a c a' c') (hb : Below w.heap.size w w') : PZ b0 none w' m d a c a' c' :=
  h.turn hb.size fun k k1 k2 _ => ⟨hb.block k k2, k1, by simp⟩
theorem pz_lo {b0 H m : Nat} {w : World} {d : Dt} {a c a' c'} (h : PZ H none w m d a c a' c') (hb : b0 ≤ H) : PZ b0 none w m d a c a' c' :=
  h.turn (Nat.le_refl _) fun k k1 _ _ => ⟨rfl, by omega, by simp⟩

end Go.Proofs.YtmmbbndoimleaaaDoor

/- Make of the reference. -/
namespace Go.Proofs.YtmmbbndoimleaaaDoor
open Go.RowKit

/-- A kid of the cleared data is a cleared kid. -/
theorem clear_kid {m : Nat} {d x : Dt} (h : x ∈ kids (clearF (m + 1) d)) : ∃ y ∈ kids d, x = clearF m y := by
  unfold clearF at h
  rw [kids_mk] at h
  rcases List.mem_append.1 h with h | h
  · split at h
    · obtain ⟨y, hy, rfl⟩ := List.mem_map.1 h; exact ⟨y, is_kid hy, rfl⟩
    · cases h
  · obtain ⟨z, hz, rfl⟩ := List.mem_map.1 h
    split at hz
    · have := (sortK_ok (k := Prod.fst) _).2.mem hz
      obtain ⟨y, hy, rfl⟩ := List.mem_map.1 this
      exact ⟨y.2, ms_kid hy, rfl⟩
    · cases hz
theorem clear_kids_length (m : Nat) (d : Dt) : (iD (clearF (m + 1) d)).length ≤ (iD d).length ∧ (mD (clearF (m + 1) d)).length ≤ (mD d).length := by
  unfold clearF
  rw [iD_mk, mD_mk]
  constructor
  · split <;> simp
  · split
    · rw [sortK_length, List.length_map]; exact Nat.le_refl _
    · simp
theorem fitC_clear : ∀ (r m : Nat) {d : Dt}, FitC r d → FitC r (clearF m d)
  | 0, _, _, _ => trivial
  | r + 1, 0, _, _ => fitC_zero (r + 1)
  | r + 1, m + 1, d, h => ⟨⟨Nat.le_trans (clear_kids_length m d).1 h.1.1, Nat.le_trans (clear_kids_length m d).2 h.1.2⟩, fun x hx => by
    obtain ⟨y, hy, rfl⟩ := clear_kid hx
    exact fitC_clear r m (h.2 y hy)⟩

end Go.Proofs.YtmmbbndoimleaaaDoor

/- Get. -/
namespace Go.Proofs.YtmmbbndoimleaaaDoor
open Go.RowKit

abbrev Sp := ByteArray × Int
/-- From the address on lie these steps, two cells each. -/
def StepsAt (w : World) (B : Nat) (A : Option Addr) (l : List Sp) : Prop :=
  ∀ i s, l[i]? = some s → ∃ ad, A = some ad ∧ ad.block < B ∧ w.cell? (ad.add (i * 2)) = some (.string s.1) ∧ w.cell? ⟨(ad.add (i * 2)).block, (ad.add (i * 2)).off + 1, none⟩ = some (.int .i64 s.2)
def StepsR (w : World) (B : Nat) (v : Value) (l : List Sp) : Prop := ∃ A c, v = .slice A l.length c ∧ l.length ≤ c ∧ c ≤ maxLen ∧ StepsAt w B A l
theorem StepsR.turn {w w' : World} {B B' : Nat} {v : Value} {l : List Sp} (h : StepsR w B v l) (hs : Same B w w') (hB : B ≤ B') : StepsR w' B' v l := by
  obtain ⟨A, c, e, h1, h2, h3⟩ := h
  refine ⟨A, c, e, h1, h2, fun i s hi => ?_⟩
  obtain ⟨ad, e, hb, c0, c1⟩ := h3 i s hi
  have hb' : (ad.add (i * 2)).block < B := by rw [block_of_add]; exact hb
  exact ⟨ad, e, by omega, (hs.cell hb').trans c0, (hs.cell (p := ⟨_, _, none⟩) hb').trans c1⟩
def goD : Dt → List Sp → Option Dt
  | d, [] => some d
  | d, s :: l => match stepD d s.1 s.2 with
    | none => none
    | some x => goD x l
def getF (m : Nat) (d : Dt) (l : List Sp) : Option Dt := if checkD d = 0 then (goD d l).map (cleanF m 1) else none
theorem findM_mem {lab : ByteArray} : ∀ {l : List (ByteArray × Dt)} {x : Dt}, findM lab l = some x → x ∈ l.map Prod.snd
  | [], _, h => by cases h
  | y :: l, x, h => by
    unfold findM at h
    split at h
    · injection h with h; subst h; simp
    · exact List.mem_cons_of_mem _ (findM_mem h)
theorem stepD_kid {d x : Dt} {lab : ByteArray} {ix : Int} (h : stepD d lab ix = some x) : x ∈ kids d := by
  unfold stepD at h
  split at h
  · split at h
    · exact is_kid (List.mem_of_getElem? h)
    · cases h
  · exact List.mem_append.2 (.inr (findM_mem h))
theorem fitC_kid {d x : Dt} (h : ∀ r, FitC r d) (hx : x ∈ kids d) : ∀ r, FitC r x := fun r => (h (r + 1)).2 x hx
def GetPost (w : World) (m : Nat) (o : Option Dt) (e : Ending) (w' : World) : Prop :=
  ∃ X a q a' q', e = .returned (.tuple #[datV X a q a' q', .bool o.isSome]) ∧ X = o.getD zeroD ∧ Parts w' w'.heap.size m X a q a' q' ∧ Below w.heap.size w w'

end Go.Proofs.YtmmbbndoimleaaaDoor

/- find and Get of the reference. -/
namespace Go.Proofs.YtmmbbndoimleaaaDoor
open Go.RowKit

end Go.Proofs.YtmmbbndoimleaaaDoor

/- items and members of the reference. -/
namespace Go.Proofs.YtmmbbndoimleaaaDoor
open Go.RowKit

end Go.Proofs.YtmmbbndoimleaaaDoor

/- compare, Compare and Equal of the reference. -/
namespace Go.Proofs.YtmmbbndoimleaaaDoor
open Go.RowKit

def rcompF : Nat → Dt → Dt → Int
  | 0, _, _ => 0
  | m + 1, d, e =>
    if kD d ≠ kD e then cmpI (kD d) (kD e)
    else if kD d = 2 ∨ kD d = 3 then cmpI (nD d) (nD e)
    else if kD d = 4 then cmpS (sD d) (sD e)
    else if kD d = 5 then cmpL (rcompF m) (iD d) (iD e)
    else if kD d = 6 then cmpL (compM (rcompF m)) (mD d) (mD e)
    else 0

end Go.Proofs.YtmmbbndoimleaaaDoor

/- Compare and Equal of the reference, and that they are the program's. -/
namespace Go.Proofs.YtmmbbndoimleaaaDoor
open Go.RowKit

def rcompareB (z v : Bool) (cc : Int) : Int := if z = true then (if v = true then cc else 0) else 0
def requalB (z v : Bool) (cc : Int) : Bool := z && (v && (cc == 0))

/-- The two orders agree on valid data. -/
theorem firstE_zero {f : Dt → Int} : ∀ {l : List Dt}, firstE f l = 0 → ∀ x ∈ l, f x = 0
  | y :: l, h, x, hx => by
    unfold firstE at h
    split at h
    · rename_i hy
      rcases List.mem_cons.1 hx with rfl | hx
      · exact hy
      · exact firstE_zero h x hx
    · rename_i hy; exact absurd h hy
theorem cmpL_congr {α : Type} {f g : α → α → Int} : ∀ (l k : List α), (∀ x ∈ l, ∀ y ∈ k, f x y = g x y) → cmpL f l k = cmpL g l k
  | [], [], _ => rfl
  | [], _ :: _, _ => rfl
  | _ :: _, [], _ => rfl
  | x :: l, y :: k, h => by
    unfold cmpL
    rw [h x (List.mem_cons_self ..) y (List.mem_cons_self ..), cmpL_congr l k fun a ha b hb => h a (List.mem_cons_of_mem _ ha) b (List.mem_cons_of_mem _ hb)]
theorem cmpS_self (s : ByteArray) : cmpS s s = 0 := by
  unfold cmpS gtB
  have : ∀ l : List UInt8, Op.bytesLess l l = false := by
    intro l
    induction l with
    | nil => rfl
    | cons a l ih => simp [Op.bytesLess, ih]
  simp [this]
theorem plain_of {d : Dt} {r : Nat} (h : checkF (r + 1) d = 0) : plainB d = true ∧ ∀ x ∈ kids d, checkF r x = 0 := by
  unfold checkF at h
  split at h
  · rename_i ho
    refine ⟨?_, firstE_zero h⟩
    unfold ownD at ho
    cases hp : plainB d with
    | true => rfl
    | false => rw [hp, if_pos rfl] at ho; exact absurd ho (by decide)
  · rename_i ho; exact absurd h ho
theorem rcomp_eq : ∀ (m r : Nat) (d e : Dt), checkF r d = 0 → checkF r e = 0 → rcompF m d e = compF m d e
  | 0, _, _, _, _, _ => rfl
  | _ + 1, 0, _, _, h, _ => by simp [checkF] at h
  | m + 1, r + 1, d, e, hd, he => by
    obtain ⟨pd, kd⟩ := plain_of hd
    obtain ⟨pe, ke⟩ := plain_of he
    have hI : cmpL (rcompF m) (iD d) (iD e) = cmpL (compF m) (iD d) (iD e) := cmpL_congr _ _ fun x hx y hy => rcomp_eq m r x y (kd x (is_kid hx)) (ke y (is_kid hy))
    have hM : cmpL (compM (rcompF m)) (mD d) (mD e) = cmpL (compM (compF m)) (mD d) (mD e) := cmpL_congr _ _ fun x hx y hy => by
      unfold compM
      rw [rcomp_eq m r x.2 y.2 (kd _ (ms_kid hx)) (ke _ (ms_kid hy))]
    unfold rcompF compF
    rw [hI, hM]
    by_cases hk : kD d = kD e
    · rw [if_neg (by simpa using hk), if_pos hk]
      unfold plainB plainQ at pd pe
      rw [← hk] at pe
      simp only [Bool.and_eq_true, Bool.or_eq_true, decide_eq_true_eq, beq_iff_eq] at pd pe
      obtain ⟨⟨⟨⟨⟨p1, p2⟩, p3⟩, p4⟩, p5⟩, p6⟩ := pd
      obtain ⟨⟨⟨⟨⟨q1, q2⟩, q3⟩, q4⟩, q5⟩, q6⟩ := pe
      have hnil : ∀ {a : ByteArray}, a.toList = [] → ∀ {b : ByteArray}, b.toList = [] → cmpS a b = 0 := fun ha _ hb => by
        unfold cmpS gtB; rw [ha, hb]; rfl
      have hil : ∀ {l k : List Dt}, (l.length : Int) = 0 → (k.length : Int) = 0 → cmpL (compF m) l k = 0 := fun {l k} h1 h2 => by
        obtain rfl : l = [] := List.eq_nil_of_length_eq_zero (by omega)
        obtain rfl : k = [] := List.eq_nil_of_length_eq_zero (by omega)
        rfl
      have hml : ∀ {l k : List (ByteArray × Dt)}, (l.length : Int) = 0 → (k.length : Int) = 0 → cmpL (compM (compF m)) l k = 0 := fun {l k} h1 h2 => by
        obtain rfl : l = [] := List.eq_nil_of_length_eq_zero (by omega)
        obtain rfl : k = [] := List.eq_nil_of_length_eq_zero (by omega)
        rfl
      have hn : kD d ≠ 2 → kD d ≠ 3 → cmpI (nD d) (nD e) = 0 := fun a b => by
        have h1 : nD d = 0 := by rcases p3 with (h | h) | h; exact absurd h a; exact absurd h b; exact h
        have h2 : nD e = 0 := by rcases q3 with (h | h) | h; exact absurd h a; exact absurd h b; exact h
        rw [h1, h2]; rfl
      have hs : kD d ≠ 4 → cmpS (sD d) (sD e) = 0 := fun a => hnil (by rcases p4 with h | h; exact absurd h a; exact h) (by rcases q4 with h | h; exact absurd h a; exact h)
      have hi : kD d ≠ 5 → cmpL (compF m) (iD d) (iD e) = 0 := fun a => hil (by rcases p5 with h | h; exact absurd h a; exact h) (by rcases q5 with h | h; exact absurd h a; exact h)
      have hm : kD d ≠ 6 → cmpL (compM (compF m)) (mD d) (mD e) = 0 := fun a => hml (by rcases p6 with h | h; exact absurd h a; exact h) (by rcases q6 with h | h; exact absurd h a; exact h)
      have e0 : ∀ a : Int, (if orI a 0 = 0 then orI 0 0 else orI a 0) = a := fun a => by unfold orI; split <;> (try split) <;> simp_all
      by_cases c23 : kD d = 2 ∨ kD d = 3
      · rw [if_pos c23, hs (by omega), hi (by omega), hm (by omega), e0]
      · rw [if_neg c23, hn (by omega) (by omega)]
        have e1 : ∀ a : Int, orI 0 a = a := fun a => by simp [orI]
        by_cases c4 : kD d = 4
        · rw [if_pos c4, hi (by omega), hm (by omega), e1, e1]
          split
          · rename_i h; exact h
          · rfl
        · rw [if_neg c4, hs c4, e1, if_pos rfl]
          by_cases c5 : kD d = 5
          · rw [if_pos c5, hm (by omega)]
            unfold orI; split
            · rename_i h; exact h
            · rfl
          · rw [if_neg c5, hi c5, e1]
            by_cases c6 : kD d = 6
            · rw [if_pos c6]
            · rw [if_neg c6, hm c6]
    · rw [if_pos hk, if_neg hk]
theorem rcompare_eq (m : Nat) (d e : Dt) : rcompareB (checkD d == 0) (checkD e == 0) (rcompF m d e) = compareD m d e := by
  unfold rcompareB compareD
  by_cases hd : checkD d = 0
  · by_cases he : checkD e = 0
    · rw [if_pos (by simpa using hd), if_pos (by simpa using he), if_pos hd, if_pos he, rcomp_eq m 16 d e hd he]
    · rw [if_pos (by simpa using hd), if_neg (by simpa using he), if_pos hd, if_neg he]
  · rw [if_neg (by simpa using hd), if_neg hd]
theorem requal_eq (m : Nat) (d e : Dt) : requalB (checkD d == 0) (checkD e == 0) (rcompF m d e) = equalD m d e := by
  unfold requalB equalD
  by_cases hd : checkD d = 0
  · by_cases he : checkD e = 0
    · rw [rcomp_eq m 16 d e hd he]
    · have h2 : (checkD e == 0) = false := by simpa using he
      rw [h2]; rfl
  · have h2 : (checkD d == 0) = false := by simpa using hd
    rw [h2]; rfl
end Go.Proofs.YtmmbbndoimleaaaDoor

/- A valid part, cleaned, is the same part: plain. -/
namespace Go.Proofs.YtmmbbndoimleaaaDoor
open Go.RowKit

theorem zipD_map {f : Dt → Dt → Bool} {g : Dt → Dt} : ∀ {l : List Dt}, (∀ x ∈ l, f (g x) x = true) → zipD f (l.map g) l = true
  | [], _ => rfl
  | x :: l, h => by
    show (f (g x) x && zipD f (l.map g) l) = true
    rw [h x (List.mem_cons_self ..), zipD_map fun y hy => h y (List.mem_cons_of_mem _ hy)]; rfl
theorem zipM_map {f : Dt → Dt → Bool} {g : Dt → Dt} : ∀ {l : List (ByteArray × Dt)}, (∀ x ∈ l, f (g x.2) x.2 = true) → zipM f (l.map fun x => (x.1, g x.2)) l = true
  | [], _ => rfl
  | x :: l, h => by
    show ((x.1.toList == x.1.toList) && f (g x.2) x.2 && zipM f (l.map fun x => (x.1, g x.2)) l) = true
    rw [h x (List.mem_cons_self ..), zipM_map fun y hy => h y (List.mem_cons_of_mem _ hy)]; simp
theorem asc_pair : ∀ {l : List (ByteArray × Dt)} {p : ByteArray}, ascL p l = true → (∀ x ∈ l, ltB p x.1 = true) ∧ l.Pairwise fun x y => ltB x.1 y.1 = true
  | [], _, _ => ⟨by simp, List.Pairwise.nil⟩
  | x :: l, p, h => by
    unfold ascL at h
    split at h
    · rename_i hp
      obtain ⟨h1, h2⟩ := asc_pair h
      refine ⟨fun y hy => ?_, List.pairwise_cons.2 ⟨fun y hy => h1 y hy, h2⟩⟩
      rcases List.mem_cons.1 hy with rfl | hy
      · exact hp
      · rcases Bool.eq_false_or_eq_true (ltB p y.1) with e | e
        · exact e
        · have : ltB p x.1 = false := bl_trans _ _ _ (bl_asymm _ _ (h1 y hy)) e
          rw [hp] at this; cases this
    · cases h
theorem asc_srt {l : List (ByteArray × Dt)} (h : ascB l = true) : SrtK Prod.fst l := by
  cases l with
  | nil => exact List.Pairwise.nil
  | cons x l =>
    have := asc_pair (l := l) (p := x.1) h
    exact (List.pairwise_cons.2 ⟨fun y hy => this.1 y hy, this.2⟩).imp fun h => bl_asymm _ _ h
theorem sorted_id {l : List (ByteArray × Dt)} (h : SrtK Prod.fst l) : sortK Prod.fst l = l := (eq_sortK h (StaK.refl l)).symm
theorem own_zero {d : Dt} (h : ownD d = 0) : plainB d = true ∧ ascB (mD d) = true := by
  unfold ownD at h
  split at h
  · exact absurd h (by decide)
  · rename_i h1
    split at h
    · exact absurd h (by decide)
    · split at h
      · exact absurd h (by decide)
      · rename_i h3; exact ⟨by simpa using h1, by simpa using h3⟩
theorem check_zero' {r : Nat} {d : Dt} (h : checkF r d = 0) : ∃ r', r = r' + 1 ∧ ownD d = 0 ∧ ∀ x ∈ kids d, checkF r' x = 0 := by
  cases r with
  | zero => exact absurd (show (9 : Int) = 0 from h) (by decide)
  | succ r =>
    refine ⟨r, rfl, ?_, (plain_of h).2⟩
    unfold checkF at h
    split at h
    · assumption
    · rename_i h2; exact absurd h h2
theorem plain_fields {d : Dt} (h : plainB d = true) : (kD d = 2 ∨ kD d = 3 ∨ nD d = 0) ∧ (kD d = 4 ∨ (sD d).toList = []) ∧ (kD d = 5 ∨ iD d = []) ∧ (kD d = 6 ∨ mD d = []) := by
  unfold plainB plainQ at h
  simp at h
  obtain ⟨⟨⟨⟨_, h1⟩, h2⟩, h3⟩, h4⟩ := h
  exact ⟨by omega, h2, h3, h4⟩
theorem clean_same {w : World} {B : Nat} : ∀ (m r : Nat) (lv : Int) {d : Dt} {A c A' c'}, Parts w B m d A c A' c' → checkF r d = 0 → lv = 17 - r → sameF m (cleanF m lv d) d = true
  | 0, _, _, _, _, _, _, _, hp, _, _ => hp.elim
  | m + 1, r, lv, d, _, _, _, _, hp, hc, hl => by
    obtain ⟨r', rfl, ho, hk⟩ := check_zero' hc
    obtain ⟨hpl, hasc⟩ := own_zero ho
    obtain ⟨p1, p2, p3, p4⟩ := plain_fields hpl
    have hkid : ∀ x ∈ kids d, sameF m (cleanF m (lv + 1) x) x = true := fun x hx => by
      obtain ⟨a, q, a', q', hq⟩ := parts_kid hp hx
      exact clean_same m r' (lv + 1) hq (hk x hx) (by omega)
    have hsort : sortK Prod.fst ((mD d).map fun x => (x.1, cleanF m (lv + 1) x.2)) = (mD d).map fun x => (x.1, cleanF m (lv + 1) x.2) :=
      sorted_id ((asc_srt hasc).map (k' := Prod.fst) (fun x : ByteArray × Dt => (x.1, cleanF m (lv + 1) x.2)) fun _ => rfl)
    have e : cleanF (m + 1) lv d = mkD (kD d) (if kD d = 2 ∨ kD d = 3 then nD d else 0) (if kD d = 4 then sD d else ⟨#[]⟩) (if kD d = 5 then (iD d).map (cleanF m (lv + 1)) else []) (if kD d = 6 then (mD d).map fun x => (x.1, cleanF m (lv + 1) x.2) else []) := by
      rw [cleanF, if_neg (by omega), hsort]
    have e1 : (if kD d = 2 ∨ kD d = 3 then nD d else 0) = nD d := by split <;> omega
    have e2 : (if kD d = 4 then sD d else ⟨#[]⟩ : ByteArray).toList = (sD d).toList := by
      split
      · rfl
      · rcases p2 with h | h
        · contradiction
        · rw [h, ByteArray.toList_eq]
    have e3 : (if kD d = 5 then (iD d).map (cleanF m (lv + 1)) else []) = (iD d).map (cleanF m (lv + 1)) := by
      split
      · rfl
      · rcases p3 with h | h
        · contradiction
        · rw [h]; rfl
    have e4 : (if kD d = 6 then (mD d).map fun x => (x.1, cleanF m (lv + 1) x.2) else []) = (mD d).map fun x => (x.1, cleanF m (lv + 1) x.2) := by
      split
      · rfl
      · rcases p4 with h | h
        · contradiction
        · rw [h]; rfl
    rw [e, e1, e3, e4]
    unfold sameF
    rw [kD_mk, nD_mk, sD_mk, iD_mk, mD_mk, zipD_map fun x hx => hkid x (is_kid hx), zipM_map fun x hx => hkid x.2 (ms_kid hx)]
    unfold diffQ
    rw [e2]
    simp
theorem same_zero (m : Nat) : sameF m zeroD zeroD = true := by
  cases m with
  | zero => rfl
  | succ m => unfold sameF; simp [zeroD, diffQ, zipD, zipM]
/-- Where steps lead in valid data, the data is valid. -/
theorem go_valid {w : World} {B m : Nat} : ∀ (l : List Sp) (r n : Nat) {d x : Dt} {A c A' c'}, Parts w B n d A c A' c' → n ≤ m → r ≤ 16 → checkF r d = 0 → goD d l = some x → ∃ r' n' a q a' q', r' ≤ 16 ∧ checkF r' x = 0 ∧ n' ≤ m ∧ Parts w B n' x a q a' q'
  | [], r, n, d, x, A, c, A', c', hp, hn, hr, hc, h => by
    injection h with h; subst h
    exact ⟨r, n, A, c, A', c', hr, hc, hn, hp⟩
  | s :: l, r, n, d, x, A, c, A', c', hp, hn, hr, hc, h => by
    rw [goD] at h
    split at h
    · cases h
    · rename_i y hy
      obtain ⟨r', rfl, _, hk⟩ := check_zero' hc
      have hkid := stepD_kid hy
      cases n with
      | zero => exact hp.elim
      | succ n =>
        obtain ⟨a, q, a', q', hq⟩ := parts_kid hp hkid
        exact go_valid l r' n hq (by omega) (by omega) (hk y hkid) h
/-- Fuel beyond the depth makes no difference to Same. -/
theorem clean_level {w : World} {B : Nat} : ∀ (m r : Nat) (lv lv' : Int) {d : Dt} {A c A' c'}, Parts w B m d A c A' c' → checkF r d = 0 → lv ≤ 17 - r → lv' ≤ 17 - r → cleanF m lv d = cleanF m lv' d
  | 0, _, _, _, _, _, _, _, _, hp, _, _, _ => hp.elim
  | m + 1, r, lv, lv', d, _, _, _, _, hp, hc, h1, h2 => by
    obtain ⟨r', rfl, ho, hk⟩ := check_zero' hc
    have hkid : ∀ x ∈ kids d, cleanF m (lv + 1) x = cleanF m (lv' + 1) x := fun x hx => by
      obtain ⟨a, q, a', q', hq⟩ := parts_kid hp hx
      exact clean_level m r' (lv + 1) (lv' + 1) hq (hk x hx) (by omega) (by omega)
    have e3 : (iD d).map (cleanF m (lv + 1)) = (iD d).map (cleanF m (lv' + 1)) := List.map_congr_left fun x hx => hkid x (is_kid hx)
    have e4 : ((mD d).map fun x => (x.1, cleanF m (lv + 1) x.2)) = (mD d).map fun x => (x.1, cleanF m (lv' + 1) x.2) := List.map_congr_left fun x hx => by rw [hkid x.2 (ms_kid hx)]
    have n1 : ¬ 16 < lv := by omega
    have n2 : ¬ 16 < lv' := by omega
    simp only [cleanF]
    rw [if_neg n1, if_neg n2, e3, e4]
end Go.Proofs.YtmmbbndoimleaaaDoor

/- clean and clear, as plain functions: the same first error, the same data where there is none; what is cleaned stays as it is. -/
namespace Go.Proofs.YtmmbbndoimleaaaDoor
open Go.RowKit

theorem sort_map {f : Dt → Dt} (l : List (ByteArray × Dt)) : sortK Prod.fst (l.map fun x => (x.1, f x.2)) = (sortK Prod.fst l).map fun x => (x.1, f x.2) :=
  (eq_sortK (k := Prod.fst) (SrtK.map (k := Prod.fst) (k' := Prod.fst) (fun x : ByteArray × Dt => (x.1, f x.2)) (fun _ => rfl) (sortK_ok (k := Prod.fst) l).1) (StaK.map (k := Prod.fst) (k' := Prod.fst) (fun x : ByteArray × Dt => (x.1, f x.2)) (fun _ => rfl) (sortK_ok (k := Prod.fst) l).2)).symm
theorem firstE_map {f : Dt → Int} {g g' : Dt → Dt} : ∀ (l : List Dt), (∀ x ∈ l, f (g x) = f (g' x)) → firstE f (l.map g) = firstE f (l.map g')
  | [], _ => rfl
  | x :: l, h => by
    show (if f (g x) = 0 then firstE f (l.map g) else f (g x)) = if f (g' x) = 0 then firstE f (l.map g') else f (g' x)
    rw [h x (List.mem_cons_self ..), firstE_map l fun y hy => h y (List.mem_cons_of_mem _ hy)]
theorem ascL_map {f g : Dt → Dt} : ∀ (p : ByteArray) (l : List (ByteArray × Dt)), ascL p (l.map fun x => (x.1, f x.2)) = ascL p (l.map fun x => (x.1, g x.2))
  | _, [] => rfl
  | p, x :: l => by
    show (if ltB p x.1 = true then ascL x.1 (l.map _) else false) = if ltB p x.1 = true then ascL x.1 (l.map _) else false
    rw [ascL_map x.1 l]
theorem ascB_map {f g : Dt → Dt} (l : List (ByteArray × Dt)) : ascB (l.map fun x => (x.1, f x.2)) = ascB (l.map fun x => (x.1, g x.2)) := by
  cases l with
  | nil => rfl
  | cons x l => exact ascL_map x.1 l
/-- The parts of data, with what is done to each. -/
def doneI (d : Dt) (f : Dt → Dt) : List Dt := if kD d = 5 then (iD d).map f else []
def doneM (d : Dt) (f : Dt → Dt) : List (ByteArray × Dt) := if kD d = 6 then (sortK Prod.fst (mD d)).map (fun x => (x.1, f x.2)) else []
def doneD (d : Dt) (f : Dt → Dt) : Dt := mkD (kD d) (if kD d = 2 ∨ kD d = 3 then nD d else 0) (if kD d = 4 then sD d else ⟨#[]⟩) (doneI d f) (doneM d f)
theorem clean_done {m : Nat} {lv : Int} {d : Dt} (h : ¬ 16 < lv) : cleanF (m + 1) lv d = doneD d (cleanF m (lv + 1)) := by
  unfold cleanF doneD doneI doneM
  rw [if_neg h, sort_map]
theorem clear_done {m : Nat} {d : Dt} : clearF (m + 1) d = doneD d (clearF m) := by
  unfold clearF doneD doneI doneM
  rw [sort_map]
theorem doneI_len {d : Dt} (f g : Dt → Dt) : (doneI d f).length = (doneI d g).length := by unfold doneI; split <;> simp
theorem doneM_len {d : Dt} (f g : Dt → Dt) : (doneM d f).length = (doneM d g).length := by unfold doneM; split <;> simp
theorem done_own {d : Dt} (f g : Dt → Dt) : ownD (doneD d f) = ownD (doneD d g) := by
  have e1 : plainB (doneD d f) = plainB (doneD d g) := by
    unfold plainB doneD
    simp only [kD_mk, nD_mk, sD_mk, iD_mk, mD_mk]
    rw [doneI_len f g, doneM_len f g]
  have e2 : rangeB (doneD d f) = rangeB (doneD d g) := rfl
  have e3 : ascB (mD (doneD d f)) = ascB (mD (doneD d g)) := by
    unfold doneD
    simp only [mD_mk]
    unfold doneM
    split
    · exact ascB_map _
    · rfl
  unfold ownD
  rw [e1, e2, e3]
/-- What is done to the parts, as one list. -/
def kidL (d : Dt) : List Dt := (if kD d = 5 then iD d else []) ++ (if kD d = 6 then (sortK Prod.fst (mD d)).map Prod.snd else [])
theorem done_kids {d : Dt} (f : Dt → Dt) : kids (doneD d f) = (kidL d).map f := by
  unfold doneD kidL
  rw [kids_mk, List.map_append]
  congr 1
  · unfold doneI; split <;> simp
  · unfold doneM
    split
    · simp [List.map_map, Function.comp_def]
    · rfl
theorem done_check {r : Nat} {d : Dt} {f g : Dt → Dt} (h : ∀ x, checkF r (f x) = checkF r (g x)) : checkF (r + 1) (doneD d f) = checkF (r + 1) (doneD d g) := by
  unfold checkF
  rw [done_own f g, done_kids, done_kids, firstE_map _ fun x _ => h x]
theorem check_clean : ∀ (r m : Nat) (lv : Int) (d : Dt), lv = 17 - r → checkF r (cleanF m lv d) = checkF r (clearF m d)
  | 0, _, _, _, _ => rfl
  | _ + 1, 0, _, _, _ => rfl
  | r + 1, m + 1, lv, d, h => by
    rw [clean_done (by omega), clear_done]
    exact done_check fun x => check_clean r m (lv + 1) x (by omega)
theorem done_eq {d : Dt} {f g : Dt → Dt} (h : ∀ x ∈ kidL d, f x = g x) : doneD d f = doneD d g := by
  unfold kidL at h
  unfold doneD
  congr 1
  · unfold doneI
    split
    · rename_i h5
      exact List.map_congr_left fun x hx => h x (List.mem_append.2 (.inl (by rw [if_pos h5]; exact hx)))
    · rfl
  · unfold doneM
    split
    · rename_i h6
      exact List.map_congr_left fun x hx => by rw [h x.2 (List.mem_append.2 (.inr (by rw [if_pos h6]; exact List.mem_map.2 ⟨x, hx, rfl⟩)))]
    · rfl
theorem clean_clear : ∀ (r m : Nat) (lv : Int) (d : Dt), lv = 17 - r → checkF r (clearF m d) = 0 → cleanF m lv d = clearF m d
  | 0, _, _, _, _, h => absurd (show (9 : Int) = 0 from h) (by decide)
  | _ + 1, 0, _, _, _, _ => rfl
  | r + 1, m + 1, lv, d, h, hc => by
    rw [clean_done (by omega), clear_done]
    rw [clear_done] at hc
    refine done_eq fun x hx => clean_clear r m (lv + 1) x (by omega) ?_
    obtain ⟨r', e, _, h2⟩ := check_zero' hc
    obtain rfl : r = r' := by omega
    exact h2 _ (by rw [done_kids]; exact List.mem_map.2 ⟨x, hx, rfl⟩)
theorem done_twice {d : Dt} {f : Dt → Dt} (h : ∀ x, f (f x) = f x) : doneD (doneD d f) f = doneD d f := by
  have hk : kD (doneD d f) = kD d := rfl
  have hn : nD (doneD d f) = if kD d = 2 ∨ kD d = 3 then nD d else 0 := rfl
  have hs : sD (doneD d f) = if kD d = 4 then sD d else ⟨#[]⟩ := rfl
  have hi : iD (doneD d f) = doneI d f := rfl
  have hm : mD (doneD d f) = doneM d f := by unfold doneD; rw [mD_mk]
  have e1 : doneI (doneD d f) f = doneI d f := by
    unfold doneI at hi ⊢
    rw [hk, hi]
    split
    · rw [List.map_map]
      exact List.map_congr_left fun x _ => h x
    · rfl
  have e2 : doneM (doneD d f) f = doneM d f := by
    unfold doneM at hm ⊢
    rw [hk, hm]
    split
    · rw [sort_map, sorted_id (sortK_ok (k := Prod.fst) (mD d)).1, List.map_map]
      exact List.map_congr_left fun x _ => by show (x.1, f (f x.2)) = _; rw [h]
    · rfl
  show mkD _ _ _ (doneI (doneD d f) f) (doneM (doneD d f) f) = _
  rw [e1, e2, hk, hn, hs]
  unfold doneD
  congr 1
  · split <;> rfl
  · split <;> rfl
theorem clean_twice : ∀ (m : Nat) (lv : Int) (d : Dt), cleanF m lv (cleanF m lv d) = cleanF m lv d
  | 0, _, _ => rfl
  | m + 1, lv, d => by
    by_cases h : 16 < lv
    · have e : ∀ d, cleanF (m + 1) lv d = mkD (kD d) 0 ⟨#[]⟩ [] [] := fun d => by unfold cleanF; rw [if_pos h]
      rw [e d, e]; rfl
    · rw [clean_done h, clean_done h]
      exact done_twice (clean_twice m (lv + 1))
theorem diff_self (k n : Int) (s : ByteArray) (x y : Nat) : diffQ k k n n s s x x y y = false := by unfold diffQ; simp
theorem same_self : ∀ (m : Nat) (d : Dt), sameF m d d = true
  | 0, _ => rfl
  | m + 1, d => by
    have h1 : ∀ l : List Dt, zipD (sameF m) l l = true := fun l => by
      induction l with
      | nil => rfl
      | cons x l ih => unfold zipD; rw [same_self m x, ih]; rfl
    have h2 : ∀ l : List (ByteArray × Dt), zipM (sameF m) l l = true := fun l => by
      induction l with
      | nil => rfl
      | cons x l ih => unfold zipM; rw [same_self m x.2, ih]; simp
    unfold sameF
    rw [diff_self, h1, h2]; rfl
/-- Both ways to make data. -/
theorem makes_same (m : Nat) (d : Dt) : checkD (cleanF m 1 d) = checkD (clearF m d) ∧ (checkD (clearF m d) = 0 → cleanF m 1 d = clearF m d ∧ cleanF m 1 (clearF m d) = clearF m d) := by
  refine ⟨check_clean 16 m 1 d rfl, fun h => ?_⟩
  have e := clean_clear 16 m 1 d rfl h
  exact ⟨e, by rw [← e]; exact clean_twice m 1 d⟩
end Go.Proofs.YtmmbbndoimleaaaDoor

/- The law of blanks, plain. -/
namespace Go.Proofs.YtmmbbndoimleaaaDoor
open Go.RowKit

theorem asc_of_srt : ∀ {l : List (ByteArray × Dt)}, SrtK Prod.fst l → (∀ s, (filK Prod.fst s l).length ≤ 1) → ascB l = true
  | [], _, _ => rfl
  | [x], _, _ => rfl
  | x :: y :: l, h, hd => by
    obtain ⟨h1, h2⟩ := List.pairwise_cons.1 h
    have hd2 : ∀ s, (filK Prod.fst s (y :: l)).length ≤ 1 := fun s => by
      have h3 := hd s
      unfold filK at h3 ⊢
      rw [List.filter_cons] at h3
      split at h3
      · rw [List.length_cons] at h3; omega
      · exact h3
    have ih := asc_of_srt h2 hd2
    have hlt : ltB x.1 y.1 = true := by
      cases hc : ltB x.1 y.1 with
      | true => rfl
      | false =>
        have e : x.1 = y.1 := ltB_antisymm hc (h1 y (List.mem_cons_self ..))
        have h3 := hd x.1
        unfold filK at h3
        rw [List.filter_cons, if_pos (by simp), List.filter_cons, if_pos (by simp [e])] at h3
        simp at h3
    show ascL x.1 (y :: l) = true
    unfold ascL
    rw [if_pos hlt]
    exact ih
theorem first_two {f : Dt → Int} : ∀ {l : List Dt}, (∀ x ∈ l, f x = 0 ∨ f x = 9) → firstE f l = 0 ∨ firstE f l = 9
  | [], _ => .inl rfl
  | x :: l, h => by
    unfold firstE
    rcases h x (List.mem_cons_self ..) with h1 | h1
    · rw [if_pos h1]; exact first_two fun y hy => h y (List.mem_cons_of_mem _ hy)
    · rw [if_neg (by omega)]; exact .inr h1
theorem str_nil {s : ByteArray} (h : s.toList = []) : s = ⟨#[]⟩ := by
  rw [ba_toList] at h
  apply ByteArray.ext
  exact Array.toList_inj.1 h
theorem leaf_clean {m : Nat} {lv : Int} {d : Dt} (hlv : ¬ 16 < lv) (h0 : d = mkD (kD d) (nD d) (sD d) (iD d) (mD d)) (hk : kD d = 1 ∨ kD d = 2 ∨ kD d = 3 ∨ kD d = 4) (hi : iD d = []) (hm : mD d = []) (ho : ownD d = 0) : cleanF (m + 1) lv d = d := by
  obtain ⟨_, p1, p2, _, _, _⟩ := valid_fields ho
  have e1 : (if kD d = 2 ∨ kD d = 3 then nD d else 0) = nD d := by split <;> omega
  have e2 : (if kD d = 4 then sD d else ⟨#[]⟩ : ByteArray) = sD d := by
    split
    · rfl
    · rcases p2 with h | h
      · contradiction
      · exact (str_nil h).symm
  have e3 : (if kD d = 5 then (iD d).map (cleanF m (lv + 1)) else []) = iD d := by rw [if_neg (by omega), hi]
  have e4 : (if kD d = 6 then sortK Prod.fst ((mD d).map fun x => (x.1, cleanF m (lv + 1) x.2)) else []) = mD d := by rw [if_neg (by omega), hm]
  rw [cleanF, if_neg hlv, e1, e2, e3, e4]
  exact h0.symm
theorem list_clean {m : Nat} {lv : Int} {d : Dt} (hlv : ¬ 16 < lv) (hk : kD d = 5) : cleanF (m + 1) lv d = mkD 5 0 ⟨#[]⟩ ((iD d).map (cleanF m (lv + 1))) [] := by
  rw [cleanF, if_neg hlv, hk, if_neg (by omega), if_neg (by omega), if_pos rfl, if_neg (by omega)]
theorem struct_clean {m : Nat} {lv : Int} {d : Dt} (hlv : ¬ 16 < lv) (hk : kD d = 6) : cleanF (m + 1) lv d = mkD 6 0 ⟨#[]⟩ [] (sortK Prod.fst ((mD d).map fun x => (x.1, cleanF m (lv + 1) x.2))) := by
  rw [cleanF, if_neg hlv, hk, if_neg (by omega), if_neg (by omega), if_neg (by omega), if_pos rfl]
theorem list_own (L : List Dt) : ownD (mkD 5 0 ⟨#[]⟩ L []) = 0 := by kernel_rfl
theorem struct_own {L : List (ByteArray × Dt)} (h : ascB L = true) : ownD (mkD 6 0 ⟨#[]⟩ [] L) = 0 := by
  have h1 : plainB (mkD 6 0 ⟨#[]⟩ [] L) = true := by kernel_rfl
  have h2 : rangeB (mkD 6 0 ⟨#[]⟩ [] L) = false := by kernel_rfl
  unfold ownD
  rw [h1, h2, mD_mk, h]; rfl
/-- What a reader made is sound, or too deep. -/
theorem good_check : ∀ (m : Nat) {d : Dt}, Good m d → ∀ (r m' : Nat) (lv : Int), lv = 17 - r → m ≤ m' → checkF r (cleanF m' lv d) = 0 ∨ checkF r (cleanF m' lv d) = 9
  | 0, _, h, _, _, _, _, _ => h.elim
  | m + 1, d, ⟨h0, hG⟩, 0, m', lv, _, _ => .inr rfl
  | m + 1, d, ⟨h0, hG⟩, r + 1, m', lv, hl, hm => by
    obtain ⟨m', rfl⟩ : ∃ q, m' = q + 1 := ⟨m' - 1, by omega⟩
    have hlv : ¬ 16 < lv := by omega
    rcases hG with ⟨hk, hi, hm0, ho⟩ | ⟨hk, hm0, hx⟩ | ⟨hk, hi, hx, hd⟩
    · rw [leaf_clean hlv h0 hk hi hm0 ho]
      refine .inl ?_
      unfold checkF
      rw [if_pos ho]
      unfold kids
      rw [hi, hm0]; rfl
    · rw [list_clean hlv hk]
      unfold checkF
      rw [if_pos (list_own _)]
      have e : kids (mkD 5 0 ⟨#[]⟩ ((iD d).map (cleanF m' (lv + 1))) []) = (iD d).map (cleanF m' (lv + 1)) := by unfold kids; simp
      rw [e]
      refine first_two fun y hy => ?_
      obtain ⟨x, hx2, rfl⟩ := List.mem_map.1 hy
      exact good_check m (hx x hx2) r m' (lv + 1) (by omega) (by omega)
    · rw [struct_clean hlv hk]
      obtain ⟨s1, s2⟩ := sortK_ok (k := Prod.fst) ((mD d).map fun x => (x.1, cleanF m' (lv + 1) x.2))
      have hasc : ascB (sortK Prod.fst ((mD d).map fun x => (x.1, cleanF m' (lv + 1) x.2))) = true := asc_of_srt s1 fun s => by
        rw [s2 s]
        have : filK Prod.fst s ((mD d).map fun x => (x.1, cleanF m' (lv + 1) x.2)) = (filK Prod.fst s (mD d)).map fun x => (x.1, cleanF m' (lv + 1) x.2) := by
          unfold filK; rw [List.filter_map]; rfl
        rw [this, List.length_map]; exact hd s
      unfold checkF
      rw [if_pos (struct_own hasc)]
      refine first_two fun y hy => ?_
      unfold kids at hy
      rw [iD_mk, mD_mk, List.nil_append] at hy
      obtain ⟨z, hz, rfl⟩ := List.mem_map.1 hy
      have hz2 := StaK.mem s2 hz
      obtain ⟨x, hx2, rfl⟩ := List.mem_map.1 hz2
      exact good_check m (hx x hx2) r m' (lv + 1) (by omega) (by omega)
theorem good_fuel : ∀ (m : Nat) {d : Dt}, Good m d → ∀ (m' : Nat) (lv : Int), m ≤ m' → cleanF m' lv d = cleanF m lv d
  | 0, _, h, _, _, _ => h.elim
  | m + 1, d, ⟨h0, hG⟩, m', lv, hm => by
    obtain ⟨m', rfl⟩ : ∃ q, m' = q + 1 := ⟨m' - 1, by omega⟩
    have hI : (iD d).map (cleanF m' (lv + 1)) = (iD d).map (cleanF m (lv + 1)) := List.map_congr_left fun x hx => by
      rcases hG with ⟨hk, hi, hm0, ho⟩ | ⟨hk, hm0, hx2⟩ | ⟨hk, hi, hx2, hd⟩
      · rw [hi] at hx; cases hx
      · exact good_fuel m (hx2 x hx) m' (lv + 1) (by omega)
      · rw [hi] at hx; cases hx
    have hM : ((mD d).map fun x => (x.1, cleanF m' (lv + 1) x.2)) = (mD d).map fun x => (x.1, cleanF m (lv + 1) x.2) := List.map_congr_left fun x hx => by
      rcases hG with ⟨hk, hi, hm0, ho⟩ | ⟨hk, hm0, hx2⟩ | ⟨hk, hi, hx2, hd⟩
      · rw [hm0] at hx; cases hx
      · rw [hm0] at hx; cases hx
      · rw [good_fuel m (hx2 x hx) m' (lv + 1) (by omega)]
    rw [cleanF, cleanF, hI, hM]
theorem val_err {S : ByteArray} {m i : Nat} {e a : Int} (hi : i < S.size) (hm : S.size < i + m) (h : valF S m i = .error (e, a)) : e ≠ 0 := by
  have H : Shift S (S ++ ⟨#[93]⟩) 0 false := by
    have hs : (S ++ ⟨#[93]⟩ : ByteArray).size = S.size + 1 := by rw [bsize_append]; rfl
    have hin : ∀ i, i < S.size → nx (S ++ ⟨#[93]⟩) (0 + i) = nx S i := fun i hi => by
      rw [Nat.zero_add, nx_at (S := S ++ ⟨#[93]⟩) (by omega), nx_at hi, ByteArray.getElem_append_left hi]
    have hend : nx (S ++ ⟨#[93]⟩) (0 + S.size) = 93 := by
      rw [Nat.zero_add, nx_at (S := S ++ ⟨#[93]⟩) (by omega), ByteArray.getElem_append_right (Nat.le_refl _)]
      simp
      rfl
    exact ⟨hin, by omega, by rw [hend]; rfl, by rw [hend]; decide, fun h => (by cases h), fun h => (by cases h)⟩
  have := sh_val H m m i hm (Nat.le_refl _) hi
  rw [h] at this
  exact this.1.1
end Go.Proofs.YtmmbbndoimleaaaDoor

/- The law of blanks: the three answers. -/
namespace Go.Proofs.YtmmbbndoimleaaaDoor
open Go.RowKit

def preB : ByteArray := ⟨#[32, 9]⟩
def sufB : ByteArray := ⟨#[13, 10, 32]⟩
theorem nx_app_l {A B : ByteArray} {i : Nat} (h : i < A.size) : nx (A ++ B) i = nx A i := by
  rw [nx_at (S := A ++ B) (by rw [bsize_append]; omega), nx_at h, ByteArray.getElem_append_left h]
theorem nx_app_r (A B : ByteArray) (i : Nat) : nx (A ++ B) (A.size + i) = nx B i := by
  by_cases h : i < B.size
  · rw [nx_at (S := A ++ B) (by rw [bsize_append]; omega), nx_at h, ByteArray.getElem_append_right (by omega)]
    simp
  · rw [nx_past (S := A ++ B) (by rw [bsize_append]; omega), nx_past h]
theorem nx_in3 (A S B : ByteArray) {i : Nat} (h : i < S.size) : nx (A ++ S ++ B) (A.size + i) = nx S i := by
  rw [nx_app_l (by rw [bsize_append]; omega), nx_app_r]
theorem nx_behind (A S B : ByteArray) (i : Nat) : nx (A ++ S ++ B) (A.size + S.size + i) = nx B i := by
  have := nx_app_r (A ++ S) B i
  rw [bsize_append] at this; exact this
theorem shift_blank (S : ByteArray) : Shift S (preB ++ S ++ sufB) 2 true := by
  have hs : (preB ++ S ++ sufB).size = 2 + S.size + 3 := by rw [bsize_append, bsize_append]; rfl
  have h0 : nx (preB ++ S ++ sufB) (2 + S.size) = 13 := nx_behind preB S sufB 0
  have h1 : nx (preB ++ S ++ sufB) (2 + S.size + 1) = 10 := nx_behind preB S sufB 1
  have h2 : nx (preB ++ S ++ sufB) (2 + S.size + 2) = 32 := nx_behind preB S sufB 2
  refine ⟨fun i hi => nx_in3 preB S sufB hi, by omega, by rw [h0]; rfl, by rw [h0]; decide, fun _ => h0, fun _ => ?_⟩
  show runF blkB _ _ = _
  rw [run_step rfl (by rw [h0]; rfl), run_step rfl (by rw [h1]; rfl), run_step rfl (by rw [show 2 + S.size + 1 + 1 = 2 + S.size + 2 by omega, h2]; rfl), run_stop (by rw [nx_past (by omega)]; rfl), hs]
theorem shift_list (S : ByteArray) : Shift S (⟨#[91]⟩ ++ S ++ ⟨#[93]⟩) 1 false := by
  have hs : (⟨#[91]⟩ ++ S ++ ⟨#[93]⟩ : ByteArray).size = 1 + S.size + 1 := by rw [bsize_append, bsize_append]; rfl
  have h0 : nx (⟨#[91]⟩ ++ S ++ ⟨#[93]⟩) (1 + S.size) = 93 := nx_behind ⟨#[91]⟩ S ⟨#[93]⟩ 0
  exact ⟨fun i hi => nx_in3 ⟨#[91]⟩ S ⟨#[93]⟩ hi, by omega, by rw [h0]; rfl, by rw [h0]; decide, fun h => (by cases h), fun h => (by cases h)⟩
/-- What the first text and the second answer. -/
def BlankB (n : Nat) (r t : Dt × Flt) : Prop :=
  (r.2 = (0, 0) → t.2 = (0, 0) ∧ t.1 = r.1) ∧ (r.2 ≠ (0, 0) → (0 ≤ r.2.2 ∧ r.2.2 ≤ (n : Int)) ∧ ((r.2.1 = 9 ∨ r.2.2 = (n : Int)) → t.2.1 ≠ 0) ∧ (¬ (r.2.1 = 9 ∨ r.2.2 = (n : Int)) → t.2 = (r.2.1, r.2.2 + 2)))
theorem parse_small {S : ByteArray} (h : S.size ≤ 65536) : parseF S = match valF S (S.size + 1) (blk S 0) with
  | .error f => (zeroD, f)
  | .ok (d, j) => if blk S j < S.size then (zeroD, (19, (blk S j : Nat))) else
    if checkD (cleanF (S.size + 1) 1 d) = 0 then (cleanF (S.size + 1) 1 d, (0, 0)) else (zeroD, (checkD (cleanF (S.size + 1) 1 d), 0)) := by
  unfold parseF
  rw [if_neg (by omega)]
  rfl
theorem blank_b {n : Nat} {e a : Int} {D : Dt} {t : Dt × Flt} (he : e ≠ 0 ∧ 0 ≤ a ∧ a ≤ (n : Int)) (h1 : a = (n : Int) → t.2.1 ≠ 0) (h2 : a ≠ (n : Int) → t.2 = (e, a + 2)) : BlankB n (D, (e, a)) t := by
  refine ⟨fun h => absurd (congrArg Prod.fst h) he.1, fun _ => ⟨he.2, fun h => ?_, fun h => h2 fun e => h (.inr e)⟩⟩
  by_cases ha : a = (n : Int)
  · exact h1 ha
  · rw [h2 ha]; exact he.1
theorem blanks_law {S : ByteArray} (hn : S.size ≤ 300) : BlankB S.size (parseF S) (parseF (preB ++ S ++ sufB)) := by
  have H := shift_blank S
  have hs : (preB ++ S ++ sufB).size = 2 + S.size + 3 := by rw [bsize_append, bsize_append]; rfl
  obtain ⟨T, hT⟩ : ∃ T, T = preB ++ S ++ sufB := ⟨_, rfl⟩
  have q0 : nx T 0 = 32 := by
    rw [hT, nx_app_l (by rw [bsize_append]; show 0 < 2 + _; omega), nx_app_l (by decide)]; rfl
  have q1 : nx T 1 = 9 := by
    rw [hT, nx_app_l (by rw [bsize_append]; show 1 < 2 + _; omega), nx_app_l (by decide)]; rfl
  rw [← hT] at H hs ⊢
  have b0 : blk T 0 = blk T (2 + 0) := by
    show runF blkB T 0 = runF blkB T 2
    rw [run_step rfl (by rw [q0]; rfl), run_step rfl (by rw [q1]; rfl)]
  obtain ⟨c1, c2⟩ := sh_blk H (i := 0) (Nat.zero_le _)
  have hle : blk S 0 ≤ S.size := run_le _ (Nat.zero_le _)
  rw [parse_small (S := S) (by omega), parse_small (S := T) (by omega), b0]
  rcases Nat.eq_or_lt_of_le hle with he | he
  · rw [he, val_end, c2 he, H.tail rfl, val_end]
    exact blank_b ⟨by decide, by omega, by omega⟩ (fun _ => by show (19 : Int) ≠ 0; decide) (fun h => absurd rfl h)
  · rw [c1 he]
    have hv := sh_val H (S.size + 1) (T.size + 1) (blk S 0) (by omega) (by omega) he
    cases hq : valF S (S.size + 1) (blk S 0) with
    | error f =>
      obtain ⟨e, a⟩ := f
      rw [hq] at hv
      obtain ⟨h0, hv⟩ := hv
      obtain ⟨w1, w2⟩ := hv rfl
      refine blank_b h0 (fun h => ?_) (fun h => ?_)
      · obtain ⟨g, hg, hg2⟩ := w1 h
        rw [hg]; exact hg2
      · rw [w2 h]; rfl
    | ok q =>
      obtain ⟨d, j⟩ := q
      rw [hq] at hv
      have hv : valF T (T.size + 1) (2 + blk S 0) = .ok (d, 2 + j) := hv
      rw [hv]
      simp only
      obtain ⟨g1, g2⟩ := val_gain _ hq
      have hG := val_good _ hq
      obtain ⟨d1, d2⟩ := sh_blk H g2
      have hjl : blk S j ≤ S.size := run_le _ g2
      rcases Nat.eq_or_lt_of_le hjl with hj | hj
      · rw [hj, if_neg (Nat.lt_irrefl _), d2 hj, H.tail rfl, if_neg (Nat.lt_irrefl _), good_fuel _ hG (T.size + 1) 1 (by omega)]
        have hc : checkD (cleanF (S.size + 1) 1 d) = 0 ∨ checkD (cleanF (S.size + 1) 1 d) = 9 := good_check _ hG 16 (S.size + 1) 1 rfl (Nat.le_refl _)
        rcases hc with hc | hc
        · rw [if_pos hc]
          exact ⟨fun _ => ⟨rfl, rfl⟩, fun h => absurd rfl h⟩
        · rw [if_neg (by omega), hc]
          exact ⟨fun h => absurd (congrArg Prod.fst h) (by decide), fun _ => ⟨⟨by show (0 : Int) ≤ 0; omega, by show (0 : Int) ≤ _; omega⟩, fun _ => by show (9 : Int) ≠ 0; decide, fun h => absurd (.inl rfl) h⟩⟩
      · rw [if_pos hj, d1 hj, if_pos (by omega)]
        exact blank_b ⟨by decide, by omega, by omega⟩ (fun h => absurd h (by omega)) (fun _ => by show ((19 : Int), _) = _; congr 1; omega)
theorem blk_idem (T : ByteArray) (i : Nat) : blk T (blk T i) = blk T i := blk_stay (run_end blkB rfl T _ i rfl)
/-- What the list around the first text answers. -/
theorem list_law {S : ByteArray} (hn : S.size ≤ 300) (h : (parseF S).2 = (0, 0)) : (parseF (⟨#[91]⟩ ++ S ++ ⟨#[93]⟩)).2 = (9, 0) ∧ (parseF (⟨#[91]⟩ ++ S ++ ⟨#[93]⟩)).1 = zeroD ∨ (parseF (⟨#[91]⟩ ++ S ++ ⟨#[93]⟩)).2 = (0, 0) ∧ iD (parseF (⟨#[91]⟩ ++ S ++ ⟨#[93]⟩)).1 = [(parseF S).1] := by
  have H := shift_list S
  have hs : (⟨#[91]⟩ ++ S ++ ⟨#[93]⟩ : ByteArray).size = 1 + S.size + 1 := by rw [bsize_append, bsize_append]; rfl
  have h93 : nx (⟨#[91]⟩ ++ S ++ ⟨#[93]⟩) (1 + S.size) = 93 := nx_behind ⟨#[91]⟩ S ⟨#[93]⟩ 0
  obtain ⟨T, hT⟩ : ∃ T : ByteArray, T = ⟨#[91]⟩ ++ S ++ ⟨#[93]⟩ := ⟨_, rfl⟩
  have q0 : nx T 0 = 91 := by
    rw [hT, nx_app_l (by rw [bsize_append]; show 0 < 1 + _; omega), nx_app_l (by decide)]; rfl
  rw [← hT] at H hs h93 ⊢
  have hle : blk S 0 ≤ S.size := run_le _ (Nat.zero_le _)
  rw [parse_small (S := S) (by omega)] at h ⊢
  rw [parse_small (S := T) (by omega), blk_stay (S := T) (i := 0) (by rw [q0]; rfl)]
  rcases Nat.eq_or_lt_of_le hle with he | he
  · rw [he, val_end] at h
    exact absurd (congrArg Prod.fst h) (show ¬ (19 : Int) = 0 by decide)
  have hv := sh_val H (S.size + 1) T.size (blk S 0) (by omega) (by omega) he
  cases hq : valF S (S.size + 1) (blk S 0) with
  | error f =>
    obtain ⟨e, a⟩ := f
    rw [hq] at h hv
    exact absurd (congrArg Prod.fst h) hv.1.1
  | ok q =>
    obtain ⟨d, j⟩ := q
    rw [hq] at h hv
    have hv : valF T T.size (1 + blk S 0) = .ok (d, 1 + j) := hv
    simp only at h ⊢
    obtain ⟨g1, g2⟩ := val_gain _ hq
    have hG := val_good _ hq
    have hjl : blk S j ≤ S.size := run_le _ g2
    rcases Nat.eq_or_lt_of_le hjl with hj | hj
    · rw [hj, if_neg (Nat.lt_irrefl _)] at h ⊢
      have hc0 : checkD (cleanF (S.size + 1) 1 d) = 0 := by
        by_cases hc : checkD (cleanF (S.size + 1) 1 d) = 0
        · exact hc
        · rw [if_neg hc] at h
          exact absurd (congrArg Prod.fst h) hc
      rw [if_pos hc0]
      obtain ⟨c1, _⟩ := sh_blk H (i := 0) (Nat.zero_le _)
      obtain ⟨_, d2⟩ := sh_blk H g2
      have e1 : blk T (0 + 1) = 1 + blk S 0 := c1 he
      have hne : nx T (1 + blk S 0) ≠ 93 := by
        rw [H.in_ _ he]
        intro e
        unfold valF at hq
        rw [e] at hq
        cases hq
      have e2 : blk T (1 + blk S 0) = 1 + blk S 0 := by rw [← e1]; exact blk_idem T 1
      have e3 : blk T (1 + j) = 1 + S.size := by rw [d2 hj]; exact blk_stay (by rw [h93]; rfl)
      have hval : valF T (T.size + 1) 0 = .ok (mkD 5 0 ⟨#[]⟩ [d] [], T.size) := by
        rw [val_list q0]
        unfold sevF
        rw [e1, if_neg hne, sevR_eq (val_ig T T.size) _ (by omega), e2]
        unfold itemS
        rw [hv]
        simp only
        rw [e3, h93, if_pos rfl, hs]; rfl
      rw [hval]
      simp only
      rw [blk_stay (S := T) (i := T.size) (by rw [nx_past (by omega)]; rfl), if_neg (Nat.lt_irrefl _)]
      have hGL : Good (S.size + 1 + 1) (mkD 5 0 ⟨#[]⟩ [d] []) := ⟨by simp, .inr (.inl ⟨rfl, by simp, fun x hx => by
        have : x = d := by simpa using hx
        subst this; exact hG⟩)⟩
      have hcl : cleanF (T.size + 1) 1 (mkD 5 0 ⟨#[]⟩ [d] []) = mkD 5 0 ⟨#[]⟩ [cleanF T.size 2 d] [] := list_clean (by decide) rfl
      have hck : checkD (cleanF (T.size + 1) 1 (mkD 5 0 ⟨#[]⟩ [d] [])) = checkF 15 (cleanF T.size 2 d) := by
        rw [hcl]
        unfold checkD checkF
        rw [if_pos (list_own _)]
        have e : kids (mkD 5 0 ⟨#[]⟩ [cleanF T.size 2 d] []) = [cleanF T.size 2 d] := by unfold kids; simp
        rw [e]
        show (if _ = 0 then 0 else _) = _
        split
        · rename_i hz; exact hz.symm
        · rfl
      rw [hck]
      rcases good_check _ hG 15 T.size 2 rfl (by omega) with hc | hc
      · rw [if_pos hc]
        refine .inr ⟨rfl, ?_⟩
        show iD (cleanF _ 1 (mkD 5 0 ⟨#[]⟩ [d] [])) = [cleanF (S.size + 1) 1 d]
        rw [hcl, iD_mk]
        rw [check_clean 15 T.size 2 d rfl] at hc
        have hc0' : checkF 16 (cleanF (T.size) 1 d) = 0 := by rw [good_fuel _ hG T.size 1 (by omega)]; exact hc0
        rw [check_clean 16 T.size 1 d rfl] at hc0'
        rw [clean_clear 15 T.size 2 d rfl hc, ← clean_clear 16 T.size 1 d rfl hc0', good_fuel _ hG T.size 1 (by omega)]
      · rw [if_neg (by omega), hc]
        exact .inl ⟨rfl, rfl⟩
    · rw [if_pos hj] at h
      exact absurd (congrArg Prod.fst h) (show ¬ (19 : Int) = 0 by decide)
end Go.Proofs.YtmmbbndoimleaaaDoor
