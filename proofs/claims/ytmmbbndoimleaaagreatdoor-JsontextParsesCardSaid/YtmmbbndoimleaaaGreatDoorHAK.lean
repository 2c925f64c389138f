/- Two texts are equal exactly if the data is: plain; What is printed is read back, plain: strings and numbers; The reference's reader in memory; fail, more, is, digit; blanks, word, digit, hex of the reference's reader; word, digit, hex of the reference's reader; hex of the reference's reader. -/
import Derived.Test.YtmmbbndoimleaaaGreatDoorHAJ
import Derived.Test.YtmmbbndoimleaaaGreatDoorHAB

/- Two texts are equal exactly if the data is: plain. -/
namespace Go.Proofs.YtmmbbndoimleaaaGreatDoor
open Go.RowKit Go.Shelf

theorem cmpI_zero {a b : Int} : cmpI a b = 0 ↔ a = b := by
  unfold cmpI
  constructor
  · intro h; split at h <;> (try split at h) <;> omega
  · rintro rfl; simp
theorem cmpS_zero {a b : ByteArray} : cmpS a b = 0 ↔ a = b := by
  constructor
  · intro h
    rcases cmpS_cases a b with ⟨_, _, e⟩ | ⟨_, _, e⟩ | ⟨e, _, _⟩
    · rw [h] at e; cases e
    · rw [h] at e; cases e
    · exact e
  · rintro rfl; exact cmpS_self a
theorem orI_zero {a b : Int} : orI a b = 0 ↔ a = 0 ∧ b = 0 := by
  unfold orI
  constructor
  · intro h
    split at h
    · rename_i h0; exact ⟨h0, h⟩
    · rename_i h0; exact absurd h h0
  · rintro ⟨rfl, rfl⟩; simp
theorem comp_zero {m : Nat} {a b : Dt} : compF (m + 1) a b = 0 ↔ kD a = kD b ∧ nD a = nD b ∧ sD a = sD b ∧ cmpL (compF m) (iD a) (iD b) = 0 ∧ cmpL (compM (compF m)) (mD a) (mD b) = 0 := by
  unfold compF
  by_cases hk : kD a = kD b
  · rw [if_pos hk]
    by_cases hn : orI (cmpI (nD a) (nD b)) (cmpS (sD a) (sD b)) = 0
    · rw [if_pos hn, orI_zero]
      rw [orI_zero, cmpI_zero, cmpS_zero] at hn
      exact ⟨fun h => ⟨hk, hn.1, hn.2, h.1, h.2⟩, fun h => ⟨h.2.2.2.1, h.2.2.2.2⟩⟩
    · rw [if_neg hn]
      refine ⟨fun h => absurd h hn, fun h => absurd ?_ hn⟩
      rw [orI_zero, cmpI_zero, cmpS_zero]
      exact ⟨h.2.1, h.2.2.1⟩
  · rw [if_neg hk]
    exact ⟨fun h => absurd (cmpI_zero.1 h) hk, fun h => absurd h.1 hk⟩
theorem cmpL_map {α β : Type} {f : α → α → Int} {g : α → β} : ∀ {l k : List α}, cmpL f l k = 0 → (∀ x ∈ l, ∀ y ∈ k, f x y = 0 → g x = g y) → l.map g = k.map g
  | [], [], _, _ => rfl
  | [], _ :: _, h, _ => by simp [cmpL] at h
  | _ :: _, [], h, _ => by simp [cmpL] at h
  | x :: l, y :: k, h, hf => by
    unfold cmpL at h
    split at h
    · rename_i h0
      rw [List.map_cons, List.map_cons, hf x (List.mem_cons_self ..) y (List.mem_cons_self ..) h0, cmpL_map h fun a ha b hb => hf a (List.mem_cons_of_mem _ ha) b (List.mem_cons_of_mem _ hb)]
    · rename_i h0; exact absurd h h0
theorem text_of_comp : ∀ (m : Nat) {a b : Dt}, compF m a b = 0 → textF m a = textF m b
  | 0, _, _, _ => rfl
  | m + 1, a, b, h => by
    obtain ⟨h1, h2, h3, h4, h5⟩ := comp_zero.1 h
    have e1 := cmpL_map (g := textF m) h4 fun x _ y _ h => text_of_comp m h
    have e2 := cmpL_map (g := mtext (textF m)) h5 fun x _ y _ h => by
      unfold compM at h
      rw [orI_zero, cmpS_zero] at h
      unfold mtext
      rw [h.1, text_of_comp m h.2]
    unfold textF partsL
    rw [h1, h2, h3, e1, e2]

/-! Reading -/
def lst (s : ByteArray) : List UInt8 := s.data.toList
theorem lst_append (a b : ByteArray) : lst (a ++ b) = lst a ++ lst b := by unfold lst; rw [ByteArray.data_append, Array.toList_append]
theorem lst_inj {a b : ByteArray} (h : lst a = lst b) : a = b := ByteArray.ext (Array.toList_inj.1 h)
theorem lst_len (a : ByteArray) : (lst a).length = a.size := Array.length_toList
theorem lst_get (s : ByteArray) {j : Nat} (h : j < s.size) : (lst s)[j]'(by rw [lst_len]; exact h) = s.get! j := by
  rw [get_eq s j h]; unfold lst; rw [Array.getElem_toList]; rfl
theorem mem_get {s : ByteArray} {c : UInt8} (h : c ∈ lst s) : ∃ j, j < s.size ∧ s.get! j = c := by
  obtain ⟨j, hj, e⟩ := List.mem_iff_getElem.1 h
  have hj' : j < s.size := by rw [lst_len] at hj; exact hj
  exact ⟨j, hj', by rw [← lst_get s hj']; exact e⟩
theorem cut_at {p : UInt8 → Prop} : ∀ {a b x y : List UInt8}, (∀ c ∈ a, p c) → (∀ c ∈ b, p c) → (∀ c r, x = c :: r → ¬ p c) → (∀ c r, y = c :: r → ¬ p c) → a ++ x = b ++ y → a = b ∧ x = y
  | [], [], _, _, _, _, _, _, h => ⟨rfl, h⟩
  | [], c :: b, x, y, _, hb, hx, _, h => absurd (hb c (List.mem_cons_self ..)) (hx c (b ++ y) h)
  | c :: a, [], x, y, ha, _, _, hy, h => absurd (ha c (List.mem_cons_self ..)) (hy c (a ++ x) h.symm)
  | c :: a, c' :: b, x, y, ha, hb, hx, hy, h => by
    injection h with e h
    subst e
    obtain ⟨h1, h2⟩ := cut_at (fun d hd => ha d (List.mem_cons_of_mem _ hd)) (fun d hd => hb d (List.mem_cons_of_mem _ hd)) hx hy h
    exact ⟨by rw [h1], h2⟩
def digC (c : UInt8) : Prop := 48 ≤ c.toNat ∧ c.toNat ≤ 57
theorem dec_dig (u : Nat) : ∀ c ∈ Lib.decDigits u, digC c := by
  induction u using Nat.strongRecOn with
  | _ u ih =>
    intro c hc
    by_cases h : u < 10
    · rw [Lib.decDigits_one h] at hc
      have : c = UInt8.ofNat (48 + u) := by simpa using hc
      subst this
      unfold digC; simp; omega
    · rw [dec_split h] at hc
      rcases List.mem_append.1 hc with hc | hc
      · exact ih (u / 10) (by omega) c hc
      · have : c = UInt8.ofNat (48 + u % 10) := by simpa using hc
        subst this
        unfold digC; simp; omega
def valD (l : List UInt8) : Nat := l.foldl (fun a c => 10 * a + (c.toNat - 48)) 0
theorem valD_dec (u : Nat) : valD (Lib.decDigits u) = u := by
  induction u using Nat.strongRecOn with
  | _ u ih =>
    by_cases h : u < 10
    · rw [Lib.decDigits_one h]; unfold valD; simp; omega
    · have := ih (u / 10) (by omega)
      rw [dec_split h]
      unfold valD at this ⊢
      rw [List.foldl_append, this]
      simp; omega
def fv : Nat → List UInt8 → Nat
  | _, [] => 0
  | 0, _ :: _ => 0
  | k + 1, c :: l => (c.toNat - 48) * 10 ^ k + fv k l
theorem fv_rep : ∀ (k j : Nat), fv k (List.replicate j 48) = 0
  | k, 0 => by cases k <;> rfl
  | 0, j + 1 => rfl
  | k + 1, j + 1 => by rw [List.replicate_succ, fv, fv_rep k j]; simp
theorem fv_zeros : ∀ (k : Nat) (l : List UInt8) (j : Nat), fv k (l ++ List.replicate j 48) = fv k l
  | k, [], j => by
    rw [List.nil_append, fv_rep]
    cases k <;> rfl
  | 0, c :: l, j => rfl
  | k + 1, c :: l, j => by rw [List.cons_append, fv, fv, fv_zeros k l j]
theorem trim_rep : ∀ (n : Nat) (s : ByteArray), s.size = n → ∃ k, lst s = lst (trimF n s) ++ List.replicate k 48
  | 0, s, _ => ⟨0, by simp [trimF]⟩
  | n + 1, s, hs => by
    unfold trimF
    split
    · rename_i h48
      obtain ⟨k, hk⟩ := trim_rep n (s.extract 0 n) (by rw [ByteArray.size_extract]; omega)
      refine ⟨k + 1, ?_⟩
      have e : lst s = lst (s.extract 0 n) ++ [48] := by
        have h1 : lst (s.extract 0 n) = (lst s).take n := by
          unfold lst; rw [ByteArray.data_extract]; simp
        have hl := lst_len s
        rw [h1]
        have h2 : (lst s)[n]'(by omega) = 48 := by rw [lst_get s (by omega)]; exact h48
        conv => lhs; rw [← List.take_append_drop n (lst s)]
        congr 1
        rw [List.drop_eq_getElem_cons (by omega), h2, List.drop_of_length_le (by omega)]
      rw [e, hk, List.replicate_succ', List.append_assoc]
    · exact ⟨0, by simp⟩
theorem frac_val (r : Nat) (h : r < 10000) : fv 4 (lst (fracB r)) = r := by
  have hd : (decB (r + 10000)).extract 1 (decB (r + 10000)).size = ⟨#[UInt8.ofNat (48 + r / 1000), UInt8.ofNat (48 + r / 100 % 10), UInt8.ofNat (48 + r / 10 % 10), UInt8.ofNat (48 + r % 10)]⟩ := by
    unfold decB; rw [dec_five r h]; rfl
  unfold fracB
  rw [hd]
  unfold trimB
  obtain ⟨k, hk⟩ := trim_rep _ (⟨#[UInt8.ofNat (48 + r / 1000), UInt8.ofNat (48 + r / 100 % 10), UInt8.ofNat (48 + r / 10 % 10), UInt8.ofNat (48 + r % 10)]⟩ : ByteArray) rfl
  rw [← fv_zeros 4 _ k, ← hk]
  unfold lst
  simp [fv]
  omega
theorem frac_dig (r : Nat) (h : r < 10000) : ∀ c ∈ lst (fracB r), digC c := fun c hc => by
  have hd : (decB (r + 10000)).extract 1 (decB (r + 10000)).size = ⟨#[UInt8.ofNat (48 + r / 1000), UInt8.ofNat (48 + r / 100 % 10), UInt8.ofNat (48 + r / 10 % 10), UInt8.ofNat (48 + r % 10)]⟩ := by
    unfold decB; rw [dec_five r h]; rfl
  unfold fracB at hc
  rw [hd] at hc
  unfold trimB at hc
  obtain ⟨k, hk⟩ := trim_rep _ (⟨#[UInt8.ofNat (48 + r / 1000), UInt8.ofNat (48 + r / 100 % 10), UInt8.ofNat (48 + r / 10 % 10), UInt8.ofNat (48 + r % 10)]⟩ : ByteArray) rfl
  have hm : c ∈ lst (⟨#[UInt8.ofNat (48 + r / 1000), UInt8.ofNat (48 + r / 100 % 10), UInt8.ofNat (48 + r / 10 % 10), UInt8.ofNat (48 + r % 10)]⟩ : ByteArray) := by rw [hk]; exact List.mem_append.2 (.inl hc)
  unfold lst at hm
  simp at hm
  unfold digC
  rcases hm with rfl | rfl | rfl | rfl <;> simp <;> omega
def gF : List UInt8 → Nat
  | [] => 0
  | _ :: l => fv 4 l
theorem dot_cases (f : ByteArray) : (lst f = [] ∧ lst (dotB f) = []) ∨ lst (dotB f) = 46 :: lst f := by
  unfold dotB
  split
  · rename_i h; rw [ba_toList] at h; exact .inl ⟨h, rfl⟩
  · right; rw [lst_append]; rfl
theorem dot_val (r : Nat) (h : r < 10000) : gF (lst (dotB (fracB r))) = r := by
  rcases dot_cases (fracB r) with ⟨h1, h2⟩ | h2
  · have := frac_val r h
    rw [h1] at this
    rw [h2]; exact this
  · rw [h2]; exact frac_val r h
theorem num_list {u : Int} (hu : validB u = true) : lst (numB u) = (if u < 0 then [45] else []) ++ Lib.decDigits (u.natAbs / 10000) ++ lst (dotB (fracB (u.natAbs % 10000))) := by
  unfold numB
  rw [if_neg (by rw [hu]; simp), lst_append]
  congr 1
  unfold signB
  split
  · rw [lst_append]; rfl
  · rfl
def numC (c : UInt8) : Prop := c = 45 ∨ c = 46 ∨ digC c
theorem num_chars {u : Int} (hu : validB u = true) : ∀ c ∈ lst (numB u), numC c := fun c hc => by
  rw [num_list hu] at hc
  rcases List.mem_append.1 hc with hc | hc
  · rcases List.mem_append.1 hc with hc | hc
    · split at hc
      · have : c = 45 := by simpa using hc
        exact .inl this
      · cases hc
    · exact .inr (.inr (dec_dig _ c hc))
  · rcases dot_cases (fracB (u.natAbs % 10000)) with ⟨_, h2⟩ | h2
    · rw [h2] at hc; cases hc
    · rw [h2] at hc
      rcases List.mem_cons.1 hc with rfl | hc
      · exact .inr (.inl rfl)
      · exact .inr (.inr (frac_dig _ (by omega) c hc))
def Stop (x : List UInt8) : Prop := ∀ c r, x = c :: r → c = 44 ∨ c = 93 ∨ c = 125
theorem stop_num {x : List UInt8} (h : Stop x) : ∀ c r, x = c :: r → ¬ numC c := fun c r e hn => by
  rcases h c r e with rfl | rfl | rfl <;> (unfold numC digC at hn; revert hn; decide)
theorem dec_ne (u : Nat) : Lib.decDigits u ≠ [] := fun h => by
  have h1 := Lib.decDigits_length u
  rw [h] at h1
  have := Lib.nDigits_pos u
  simp at h1; omega
theorem dot_head (r : Nat) : ∀ c l, lst (dotB (fracB r)) = c :: l → ¬ digC c := fun c l e hd => by
  rcases dot_cases (fracB r) with ⟨_, h2⟩ | h2
  · rw [h2] at e; cases e
  · rw [h2] at e; injection e with e; subst e
    unfold digC at hd; revert hd; decide
theorem num_inj {u v : Int} (hu : validB u = true) (hv : validB v = true) (h : lst (numB u) = lst (numB v)) : u = v := by
  rw [num_list hu, num_list hv, List.append_assoc, List.append_assoc] at h
  have key : ∀ {D D' F F' : List UInt8}, (∀ c ∈ D, digC c) → D ≠ [] → 45 :: (D' ++ F') = D ++ F → False := by
    intro D D' F F' hD hne e
    cases D with
    | nil => exact hne rfl
    | cons c D =>
      injection e with e1 e2
      have := hD c (List.mem_cons_self ..)
      rw [← e1] at this
      unfold digC at this; revert this; decide
  have fin : Lib.decDigits (u.natAbs / 10000) ++ lst (dotB (fracB (u.natAbs % 10000))) = Lib.decDigits (v.natAbs / 10000) ++ lst (dotB (fracB (v.natAbs % 10000))) → u.natAbs = v.natAbs := by
    intro e
    obtain ⟨e1, e2⟩ := cut_at (dec_dig _) (dec_dig _) (dot_head _) (dot_head _) e
    have q := congrArg valD e1
    rw [valD_dec, valD_dec] at q
    have r := congrArg gF e2
    rw [dot_val _ (by omega), dot_val _ (by omega)] at r
    omega
  by_cases h1 : u < 0
  · by_cases h2 : v < 0
    · rw [if_pos h1, if_pos h2] at h
      have := fin (by simpa using h)
      omega
    · rw [if_pos h1, if_neg h2] at h
      exact (key (dec_dig _) (dec_ne _) h).elim
  · by_cases h2 : v < 0
    · rw [if_neg h1, if_pos h2] at h
      exact (key (dec_dig _) (dec_ne _) h.symm).elim
    · rw [if_neg h1, if_neg h2] at h
      have := fin h
      omega
theorem num_read {u v : Int} (hu : validB u = true) (hv : validB v = true) {x y : List UInt8} (hx : Stop x) (hy : Stop y) (h : lst (numB u) ++ x = lst (numB v) ++ y) : u = v ∧ x = y := by
  obtain ⟨h1, h2⟩ := cut_at (num_chars hu) (num_chars hv) (stop_num hx) (stop_num hy) h
  exact ⟨num_inj hu hv h1, h2⟩

/-! Literals -/
def unhex (c : UInt8) : Nat := if c.toNat < 58 then c.toNat - 48 else c.toNat - 87
def unesc : List UInt8 → Nat
  | c :: r => if c = 92 then (match r with
      | d :: r' => if d = 110 then 10 else if d = 116 then 9 else if d = 114 then 13 else if d = 120 then (match r' with
          | h :: l :: _ => unhex h * 16 + unhex l
          | _ => 0) else d.toNat
      | [] => 0) else c.toNat
  | [] => 0
theorem hex_back : ∀ b : Fin 256, unhex (hexN (b.val / 16)) * 16 + unhex (hexN (b.val % 16)) = b.val := by decide +kernel
theorem unesc_esc (b : Nat) (hb : b < 256) (U : List UInt8) : unesc (lst (escN b) ++ U) = b := by
  unfold escN
  split
  · rename_i h
    rcases h with rfl | rfl <;> rfl
  · rename_i h1
    split
    · rename_i h; subst h; rfl
    · split
      · rename_i h; subst h; rfl
      · split
        · rename_i h; subst h; rfl
        · split
          · exact hex_back ⟨b, hb⟩
          · have h92 : UInt8.ofNat b ≠ 92 := fun e => by
              have := congrArg UInt8.toNat e
              simp at this; omega
            show (if UInt8.ofNat b = 92 then _ else (UInt8.ofNat b).toNat) = b
            rw [if_neg h92]; simp; omega
theorem esc_head (b : Nat) (hb : b < 256) : ∃ c r, lst (escN b) = c :: r ∧ c ≠ 34 := by
  unfold escN
  split
  · exact ⟨_, _, rfl, by decide⟩
  · rename_i h1
    split
    · exact ⟨_, _, rfl, by decide⟩
    · split
      · exact ⟨_, _, rfl, by decide⟩
      · split
        · exact ⟨_, _, rfl, by decide⟩
        · split
          · exact ⟨_, _, rfl, by decide⟩
          · exact ⟨_, _, rfl, fun e => by
              have := congrArg UInt8.toNat e
              simp at this; omega⟩
def eL (c : UInt8) : List UInt8 := lst (escN c.toNat)
theorem esc_read : ∀ (s t : List UInt8) {x y : List UInt8}, s.flatMap eL ++ 34 :: x = t.flatMap eL ++ 34 :: y → s = t ∧ x = y
  | [], [], x, y, h => by injection h with _ h; exact ⟨rfl, h⟩
  | [], b :: t, x, y, h => by
    obtain ⟨c, r, e, hc⟩ := esc_head b.toNat b.toNat_lt
    rw [List.flatMap_cons, eL, e] at h
    injection h with h _
    exact absurd h.symm hc
  | a :: s, [], x, y, h => by
    obtain ⟨c, r, e, hc⟩ := esc_head a.toNat a.toNat_lt
    rw [List.flatMap_cons, eL, e] at h
    injection h with h _
    exact absurd h hc
  | a :: s, b :: t, x, y, h => by
    rw [List.flatMap_cons, List.flatMap_cons, List.append_assoc, List.append_assoc] at h
    have h1 := unesc_esc a.toNat a.toNat_lt (s.flatMap eL ++ 34 :: x)
    have h2 := unesc_esc b.toNat b.toNat_lt (t.flatMap eL ++ 34 :: y)
    change lst (escN a.toNat) ++ (s.flatMap eL ++ 34 :: x) = lst (escN b.toNat) ++ (t.flatMap eL ++ 34 :: y) at h
    rw [h] at h1
    have hab : a = b := UInt8.toNat_inj.1 (h1.symm.trans h2)
    subst hab
    obtain ⟨e1, e2⟩ := esc_read s t (List.append_cancel_left h)
    exact ⟨by rw [e1], e2⟩
theorem escL_flat (S : ByteArray) : escL S = (lst S).flatMap eL := by
  unfold escL uptoL
  have e : lst S = (List.range S.size).map fun j => S.get! j := by
    refine List.ext_getElem (by rw [lst_len]; simp) fun j h1 h2 => ?_
    rw [lst_get S (by rw [lst_len] at h1; exact h1)]; simp
  rw [e, List.flatMap_map, List.flatMap_map]
  rfl
theorem quote_list (S : ByteArray) : lst (quoteB S) = 34 :: ((lst S).flatMap eL ++ [34]) := by
  rw [← escL_flat]
  unfold quoteB
  show (34 :: escL S ++ [34]).toArray.toList = _
  simp
theorem quote_read {s t : ByteArray} {x y : List UInt8} (h : lst (quoteB s) ++ x = lst (quoteB t) ++ y) : s = t ∧ x = y := by
  rw [quote_list, quote_list, List.cons_append, List.cons_append, List.append_assoc, List.append_assoc] at h
  injection h with _ h
  obtain ⟨h1, h2⟩ := esc_read (lst s) (lst t) h
  exact ⟨lst_inj h1, h2⟩

/-! Labels -/
theorem idChar_no {c : UInt8} (h : idChar c.toNat = true) : c ≠ 58 ∧ c ≠ 34 := by
  constructor
  · rintro rfl; revert h; decide
  · rintro rfl; revert h; decide
theorem identT_no {T : ByteArray} (h : identT T = true) : 0 < T.size ∧ ∀ c ∈ lst T, c ≠ 58 ∧ c ≠ 34 := by
  unfold identT at h
  simp only [Bool.and_eq_true, decide_eq_true_eq] at h
  refine ⟨h.1.1, fun c hc => ?_⟩
  obtain ⟨j, hj, e⟩ := mem_get hc
  have := h.2
  unfold idAll at this
  rw [List.all_eq_true] at this
  have h2 := this j (List.mem_range.2 hj)
  rw [e] at h2
  exact idChar_no h2
theorem ident_no {S : ByteArray} (h : identB S = true) : lst S ≠ [] ∧ ∀ c ∈ lst S, c ≠ 58 ∧ c ≠ 34 := by
  unfold identB at h
  rw [Bool.and_eq_true] at h
  have h2 := h.2
  split at h2
  · rename_i hh
    obtain ⟨h3, h4⟩ := identT_no h2
    unfold headB at hh
    simp only [Bool.and_eq_true, decide_eq_true_eq, Bool.or_eq_true, beq_iff_eq] at hh
    have e : lst S = S.get! 0 :: lst (S.extract 1 S.size) := by
      have h1 : lst (S.extract 1 S.size) = (lst S).drop 1 := by
        unfold lst; rw [ByteArray.data_extract]
        simp
        rw [List.take_of_length_le (by simp)]
      have hl := lst_len S
      rw [h1]
      conv => lhs; rw [← List.drop_zero (l := lst S)]
      rw [List.drop_eq_getElem_cons (by omega), lst_get S hh.1]
    rw [e]
    refine ⟨by simp, fun c hc => ?_⟩
    rcases List.mem_cons.1 hc with rfl | hc
    · constructor
      · intro e2; rw [e2] at hh; rcases hh.2 with h | h <;> (revert h; decide)
      · intro e2; rw [e2] at hh; rcases hh.2 with h | h <;> (revert h; decide)
    · exact h4 c hc
  · obtain ⟨h3, h4⟩ := identT_no h2
    exact ⟨fun e => by have := lst_len S; rw [e] at this; simp at this; omega, h4⟩
theorem ident_quote {s t : ByteArray} {x y : List UInt8} (hs : identB s = true) (h : lst s ++ x = lst (quoteB t) ++ y) : False := by
  obtain ⟨h1, h2⟩ := ident_no hs
  rw [quote_list] at h
  cases e : lst s with
  | nil => exact h1 e
  | cons c r =>
    rw [e] at h
    injection h with h _
    exact (h2 c (by rw [e]; exact List.mem_cons_self ..)).2 h
theorem label_read {s t : ByteArray} {x y : List UInt8} (h : lst (labelB s) ++ 58 :: x = lst (labelB t) ++ 58 :: y) : s = t ∧ x = y := by
  have fin : ∀ {x y : List UInt8}, (58 : UInt8) :: x = 58 :: y → x = y := fun h => by injection h
  unfold labelB at h
  split at h
  · rename_i hs
    split at h
    · rename_i ht
      obtain ⟨h1, h2⟩ := cut_at (p := fun c => c ≠ 58) (fun c hc => ((ident_no hs).2 c hc).1) (fun c hc => ((ident_no ht).2 c hc).1) (fun c r e => by injection e with e _; subst e; simp) (fun c r e => by injection e with e _; subst e; simp) h
      exact ⟨lst_inj h1, fin h2⟩
    · exact (ident_quote hs h).elim
  · split at h
    · rename_i ht
      exact (ident_quote ht h.symm).elim
    · obtain ⟨h1, h2⟩ := quote_read h
      exact ⟨h1, fin h2⟩

/-! Lists of texts -/
theorem tails_read {α : Type} {g : α → List UInt8} {f : α → α → Int} {cl : UInt8} (hcl : cl = 93 ∨ cl = 125) : ∀ (l k : List α) {x y : List UInt8}, (∀ a ∈ l, ∀ b ∈ k, ∀ x y, Stop x → Stop y → g a ++ x = g b ++ y → f a b = 0 ∧ x = y) →
    Lib.joinTail [44, 32] (l.map g) ++ cl :: x = Lib.joinTail [44, 32] (k.map g) ++ cl :: y → cmpL f l k = 0 ∧ x = y
  | [], [], x, y, _, h => by
    have h : cl :: x = cl :: y := h
    injection h with _ h
    exact ⟨rfl, h⟩
  | [], b :: k, x, y, _, h => by
    have h : cl :: x = 44 :: _ := h
    injection h with h _
    rcases hcl with e | e <;> (rw [e] at h; exact absurd h (by decide))
  | a :: l, [], x, y, _, h => by
    have h : 44 :: _ = cl :: y := h
    injection h with h _
    rcases hcl with e | e <;> (rw [e] at h; exact absurd h (by decide))
  | a :: l, b :: k, x, y, hr, h => by
    have e : ∀ (a : α) (l : List α) (x : List UInt8), Lib.joinTail [44, 32] ((a :: l).map g) ++ cl :: x = 44 :: 32 :: (g a ++ (Lib.joinTail [44, 32] (l.map g) ++ cl :: x)) := fun a l x => by simp [Lib.joinTail]
    rw [e, e] at h
    injection h with _ h
    injection h with _ h
    have st : ∀ (l : List α) (x : List UInt8), Stop (Lib.joinTail [44, 32] (l.map g) ++ cl :: x) := fun l x c r hc => by
      cases l with
      | nil =>
        have hc : cl :: x = c :: r := hc
        injection hc with hc _
        rw [← hc]; exact .inr hcl
      | cons b l =>
        rw [e] at hc
        injection hc with hc _
        exact .inl hc.symm
    obtain ⟨h1, h2⟩ := hr a (List.mem_cons_self ..) b (List.mem_cons_self ..) _ _ (st l x) (st k y) h
    obtain ⟨h3, h4⟩ := tails_read hcl l k (fun a ha b hb => hr a (List.mem_cons_of_mem _ ha) b (List.mem_cons_of_mem _ hb)) h2
    exact ⟨by unfold cmpL; rw [if_pos h1]; exact h3, h4⟩
theorem list_read {α : Type} {g : α → List UInt8} {f : α → α → Int} {cl : UInt8} (hcl : cl = 93 ∨ cl = 125) (l k : List α) {x y : List UInt8} (hl : ∀ a ∈ l, ∃ c r, g a = c :: r ∧ c ≠ 93 ∧ c ≠ 125) (hk : ∀ a ∈ k, ∃ c r, g a = c :: r ∧ c ≠ 93 ∧ c ≠ 125)
    (hr : ∀ a ∈ l, ∀ b ∈ k, ∀ x y, Stop x → Stop y → g a ++ x = g b ++ y → f a b = 0 ∧ x = y)
    (h : Lib.join (l.map g) [44, 32] ++ cl :: x = Lib.join (k.map g) [44, 32] ++ cl :: y) : cmpL f l k = 0 ∧ x = y := by
  have start : ∀ {c : UInt8} {r z : List UInt8}, c ≠ 93 ∧ c ≠ 125 → cl :: z = c :: r → False := fun hc e => by
    injection e with e _
    rcases hcl with h | h
    · exact hc.1 (by rw [← e, h])
    · exact hc.2 (by rw [← e, h])
  cases l with
  | nil =>
    cases k with
    | nil =>
      have h : cl :: x = cl :: y := h
      injection h with _ h
      exact ⟨rfl, h⟩
    | cons b k =>
      obtain ⟨c, r, e, hc⟩ := hk b (List.mem_cons_self ..)
      rw [List.map_cons, Lib.join_cons, e] at h
      exact (start hc h).elim
  | cons a l =>
    cases k with
    | nil =>
      obtain ⟨c, r, e, hc⟩ := hl a (List.mem_cons_self ..)
      rw [List.map_cons, Lib.join_cons, e] at h
      exact (start hc h.symm).elim
    | cons b k =>
      refine tails_read hcl (a :: l) (b :: k) hr ?_
      rw [List.map_cons, List.map_cons, Lib.join_cons, Lib.join_cons] at h
      have e : ∀ (a : α) (l : List α) (x : List UInt8), Lib.joinTail [44, 32] ((a :: l).map g) ++ cl :: x = 44 :: 32 :: (g a ++ Lib.joinTail [44, 32] (l.map g) ++ cl :: x) := fun a l x => by simp [Lib.joinTail]
      rw [e, e, h]
theorem join_list (o e : ByteArray) (L : List ByteArray) : lst (joinB o e L) = lst o ++ (Lib.join (L.map lst) [44, 32] ++ lst e) := by
  unfold joinB
  rw [lst_append, lst_append, List.append_assoc]; rfl

def cls (c : UInt8) : Int := if c = 110 then 1 else if c = 116 ∨ c = 102 then 2 else if c = 34 then 4 else if c = 91 then 5 else if c = 123 then 6 else if c = 45 ∨ (48 ≤ c.toNat ∧ c.toNat ≤ 57) then 3 else 0
theorem cls_num {c : UInt8} (h : c = 45 ∨ digC c) : cls c = 3 := by
  have : ∀ n : Fin 256, (n.val = 45 ∨ (48 ≤ n.val ∧ n.val ≤ 57)) → cls (UInt8.ofNat n.val) = 3 := by decide +kernel
  have h2 := this ⟨c.toNat, c.toNat_lt⟩ (by
    rcases h with rfl | h
    · exact .inl rfl
    · exact .inr h)
  simpa using h2
theorem cls_close {c : UInt8} {k : Int} (h : cls c = k) (hk : k ≠ 0) : c ≠ 93 ∧ c ≠ 125 := by
  constructor
  · rintro rfl; exact hk (h.symm.trans (by decide))
  · rintro rfl; exact hk (h.symm.trans (by decide))
theorem kinds_of {d : Dt} (h : plainB d = true) : kD d = 1 ∨ kD d = 2 ∨ kD d = 3 ∨ kD d = 4 ∨ kD d = 5 ∨ kD d = 6 := by
  unfold plainB plainQ at h
  simp at h
  omega
theorem range_of {d : Dt} (h : ownD d = 0) : (kD d = 2 → nD d = 0 ∨ nD d = 1) ∧ (kD d = 3 → validB (nD d) = true) := by
  unfold ownD at h
  split at h
  · exact absurd h (by decide)
  · split at h
    · exact absurd h (by decide)
    · rename_i h2
      unfold rangeB at h2
      simp at h2
      refine ⟨fun hk => ?_, fun hk => h2.2 hk⟩
      have := h2.1 hk
      by_cases h0 : nD d = 0
      · exact .inl h0
      · exact .inr (this h0)
theorem text_kind {m : Nat} {d : Dt} : (kD d = 1 → textF (m + 1) d = ⟨#[110, 117, 108, 108]⟩) ∧ (kD d = 2 → textF (m + 1) d = if nD d = 1 then ⟨#[116, 114, 117, 101]⟩ else ⟨#[102, 97, 108, 115, 101]⟩) ∧ (kD d = 3 → textF (m + 1) d = numB (nD d)) ∧ (kD d = 4 → textF (m + 1) d = quoteB (sD d)) ∧
    (kD d = 5 → textF (m + 1) d = joinB ⟨#[91]⟩ ⟨#[93]⟩ (partsL (textF m) d)) ∧ (kD d = 6 → textF (m + 1) d = joinB ⟨#[123]⟩ ⟨#[125]⟩ (partsL (textF m) d)) := by
  refine ⟨fun h => ?_, fun h => ?_, fun h => ?_, fun h => ?_, fun h => ?_, fun h => ?_⟩ <;> (unfold textF textK; rw [h]; rfl)
theorem text_start {m : Nat} {d : Dt} (h : ownD d = 0) : ∃ c r, lst (textF (m + 1) d) = c :: r ∧ cls c = kD d := by
  obtain ⟨hp, _⟩ := own_zero h
  obtain ⟨t1, t2, t3, t4, t5, t6⟩ := text_kind (m := m) (d := d)
  rcases kinds_of hp with k | k | k | k | k | k
  · rw [t1 k, k]; exact ⟨_, _, rfl, rfl⟩
  · rw [t2 k, k]; split
    · exact ⟨_, _, rfl, rfl⟩
    · exact ⟨_, _, rfl, rfl⟩
  · rw [t3 k, k, num_list ((range_of h).2 k)]
    split
    · exact ⟨_, _, rfl, rfl⟩
    · cases e : Lib.decDigits ((nD d).natAbs / 10000) with
      | nil => exact absurd e (dec_ne _)
      | cons c r => exact ⟨c, _, rfl, cls_num (.inr (dec_dig ((nD d).natAbs / 10000) c (by rw [e]; exact List.mem_cons_self ..)))⟩
  · rw [t4 k, k, quote_list]; exact ⟨_, _, rfl, rfl⟩
  · rw [t5 k, k, join_list]; exact ⟨_, _, rfl, rfl⟩
  · rw [t6 k, k, join_list]; exact ⟨_, _, rfl, rfl⟩
theorem cmpL_nil {α : Type} {f : α → α → Int} {l k : List α} (hl : l = []) (hk : k = []) : cmpL f l k = 0 := by subst hl hk; rfl
theorem mtext_list (f : Dt → ByteArray) (x : ByteArray × Dt) : lst (mtext f x) = lst (labelB x.1) ++ 58 :: 32 :: lst (f x.2) := by
  unfold mtext
  rw [lst_append, lst_append, List.append_assoc]; rfl
theorem label_start (s : ByteArray) : ∃ c r, lst (labelB s) = c :: r ∧ c ≠ 93 ∧ c ≠ 125 := by
  unfold labelB
  split
  · rename_i hs
    obtain ⟨h1, _⟩ := ident_no hs
    cases e : lst s with
    | nil => exact absurd e h1
    | cons c r =>
      refine ⟨c, r, rfl, ?_⟩
      have hc : c ∈ lst s := by rw [e]; exact List.mem_cons_self ..
      have hall : ∀ c ∈ lst s, c ≠ 93 ∧ c ≠ 125 := by
        unfold identB at hs
        rw [Bool.and_eq_true] at hs
        have h2 := hs.2
        have key : ∀ T : ByteArray, identT T = true → ∀ c ∈ lst T, c ≠ 93 ∧ c ≠ 125 := fun T hT c hc => by
          unfold identT at hT
          simp only [Bool.and_eq_true, decide_eq_true_eq] at hT
          obtain ⟨j, hj, e⟩ := mem_get hc
          have := hT.2
          unfold idAll at this
          rw [List.all_eq_true] at this
          have h2 := this j (List.mem_range.2 hj)
          rw [e] at h2
          constructor
          · rintro rfl; revert h2; decide
          · rintro rfl; revert h2; decide
        split at h2
        · rename_i hh
          unfold headB at hh
          simp only [Bool.and_eq_true, decide_eq_true_eq, Bool.or_eq_true, beq_iff_eq] at hh
          intro c hc
          obtain ⟨j, hj, e⟩ := mem_get hc
          rcases Nat.eq_zero_or_pos j with h0 | h0
          · subst h0
            constructor
            · intro e2; rw [e, e2] at hh; rcases hh.2 with h | h <;> (revert h; decide)
            · intro e2; rw [e, e2] at hh; rcases hh.2 with h | h <;> (revert h; decide)
          · refine key _ h2 c ?_
            have hj2 : j - 1 < (s.extract 1 s.size).size := by rw [ByteArray.size_extract]; omega
            have : (s.extract 1 s.size).get! (j - 1) = c := by
              rw [get_eq _ _ hj2, ← e, get_eq s j hj]
              rw [ByteArray.getElem_extract]
              congr 1; omega
            rw [← this, ← lst_get _ hj2]
            exact List.getElem_mem _
        · exact key s h2
      exact hall c hc
  · rw [quote_list]; exact ⟨_, _, rfl, by decide, by decide⟩
/-- Texts in front of stops are read in one way. -/
theorem text_read {w w' : World} {B B' : Nat} : ∀ (m r : Nat) {a b : Dt} {A c A' c' E f E' f'} (x y : List UInt8), Parts w B m a A c A' c' → Parts w' B' m b E f E' f' → checkF r a = 0 → checkF r b = 0 → Stop x → Stop y → lst (textF m a) ++ x = lst (textF m b) ++ y → compF m a b = 0 ∧ x = y
  | 0, _, _, _, _, _, _, _, _, _, _, _, _, _, hp, _, _, _, _, _, _ => hp.elim
  | m + 1, r, a, b, A, c, A', c', E, f, E', f', x, y, hp, hq, ha, hb, hx, hy, h => by
    obtain ⟨r', rfl, hoa, hka⟩ := check_zero' ha
    obtain ⟨r2, e2, hob, hkb⟩ := check_zero' hb
    obtain rfl : r' = r2 := by omega
    obtain ⟨hpa, _⟩ := own_zero hoa
    obtain ⟨hpb, _⟩ := own_zero hob
    have hk : kD a = kD b := by
      obtain ⟨c1, r1, e1, k1⟩ := text_start (m := m) hoa
      obtain ⟨c2, r2, e2, k2⟩ := text_start (m := m) hob
      rw [e1, e2] at h
      injection h with h _
      rw [← k1, ← k2, h]
    obtain ⟨p1, p2, p3, p4⟩ := plain_fields hpa
    obtain ⟨q1, q2, q3, q4⟩ := plain_fields hpb
    obtain ⟨t1, t2, t3, t4, t5, t6⟩ := text_kind (m := m) (d := a)
    obtain ⟨u1, u2, u3, u4, u5, u6⟩ := text_kind (m := m) (d := b)
    have str : ∀ {s : ByteArray}, s.toList = [] → s = ByteArray.empty := fun h => lst_inj (by rw [ba_toList] at h; exact h)
    have hs4 : kD a ≠ 4 → sD a = sD b := fun h4 => by
      rw [str (p2.resolve_left h4), str (q2.resolve_left (by rw [← hk]; exact h4))]
    have hi5 : kD a ≠ 5 → iD a = [] ∧ iD b = [] := fun h5 => ⟨p3.resolve_left h5, q3.resolve_left (by rw [← hk]; exact h5)⟩
    have hm6 : kD a ≠ 6 → mD a = [] ∧ mD b = [] := fun h6 => ⟨p4.resolve_left h6, q4.resolve_left (by rw [← hk]; exact h6)⟩
    have hn : kD a ≠ 2 → kD a ≠ 3 → nD a = nD b := fun h2 h3 => by
      have e1 : nD a = 0 := by rcases p1 with h | h | h <;> first | (exact absurd h ‹_›) | exact h
      have e2 : nD b = 0 := by rcases q1 with h | h | h <;> first | (exact absurd (hk.trans h) ‹_›) | exact h
      rw [e1, e2]
    have flat : kD a ≠ 5 → kD a ≠ 6 → cmpL (compF m) (iD a) (iD b) = 0 ∧ cmpL (compM (compF m)) (mD a) (mD b) = 0 := fun h5 h6 => ⟨cmpL_nil (hi5 h5).1 (hi5 h5).2, cmpL_nil (hm6 h6).1 (hm6 h6).2⟩
    have start : ∀ {d : Dt}, (∀ z ∈ kids d, checkF r' z = 0) → (∀ z ∈ kids d, ∃ a q a' q', Parts w B m z a q a' q' ∨ Parts w' B' m z a q a' q') → ∀ z ∈ kids d, ∃ c r, lst (textF m z) = c :: r ∧ c ≠ 93 ∧ c ≠ 125 := fun h1 h2 z hz => by
      obtain ⟨m', rfl⟩ : ∃ m', m = m' + 1 := by
        obtain ⟨a, q, a', q', h | h⟩ := h2 z hz
        · cases m with
          | zero => exact h.elim
          | succ m => exact ⟨m, rfl⟩
        · cases m with
          | zero => exact h.elim
          | succ m => exact ⟨m, rfl⟩
      obtain ⟨_, _, ho, _⟩ := check_zero' (h1 z hz)
      obtain ⟨c, r, e, hc⟩ := text_start (m := m') ho
      refine ⟨c, r, e, cls_close hc ?_⟩
      rcases kinds_of (own_zero ho).1 with k | k | k | k | k | k <;> rw [k] <;> decide
    have sa := start hka fun z hz => by
      obtain ⟨a, q, a', q', h⟩ := parts_kid hp hz
      exact ⟨a, q, a', q', .inl h⟩
    have sb := start hkb fun z hz => by
      obtain ⟨a, q, a', q', h⟩ := parts_kid hq hz
      exact ⟨a, q, a', q', .inr h⟩
    have rd : ∀ z ∈ kids a, ∀ v ∈ kids b, ∀ x y, Stop x → Stop y → lst (textF m z) ++ x = lst (textF m v) ++ y → compF m z v = 0 ∧ x = y := fun z hz v hv x y hx hy he => by
      obtain ⟨_, _, _, _, g1⟩ := parts_kid hp hz
      obtain ⟨_, _, _, _, g2⟩ := parts_kid hq hv
      exact text_read m r' x y g1 g2 (hka z hz) (hkb v hv) hx hy he
    rw [comp_zero]
    rcases kinds_of hpa with k | k | k | k | k | k
    · rw [t1 k, u1 (hk ▸ k)] at h
      have f := flat (by omega) (by omega)
      exact ⟨⟨hk, hn (by omega) (by omega), hs4 (by omega), f.1, f.2⟩, List.append_cancel_left h⟩
    · rw [t2 k, u2 (hk ▸ k)] at h
      have f := flat (by omega) (by omega)
      have ra := (range_of hoa).1 k
      have rb := (range_of hob).1 (hk ▸ k)
      have e : nD a = nD b ∧ x = y := by
        rcases ra with e1 | e1 <;> rcases rb with e2 | e2
        · rw [e1, e2] at h ⊢; exact ⟨rfl, List.append_cancel_left h⟩
        · rw [e1, e2] at h; injection h with h _; exact absurd h (by decide)
        · rw [e1, e2] at h; injection h with h _; exact absurd h (by decide)
        · rw [e1, e2] at h ⊢; exact ⟨rfl, List.append_cancel_left h⟩
      exact ⟨⟨hk, e.1, hs4 (by omega), f.1, f.2⟩, e.2⟩
    · rw [t3 k, u3 (hk ▸ k)] at h
      have f := flat (by omega) (by omega)
      have e := num_read ((range_of hoa).2 k) ((range_of hob).2 (hk ▸ k)) hx hy h
      exact ⟨⟨hk, e.1, hs4 (by omega), f.1, f.2⟩, e.2⟩
    · rw [t4 k, u4 (hk ▸ k)] at h
      have f := flat (by omega) (by omega)
      have e := quote_read h
      exact ⟨⟨hk, hn (by omega) (by omega), e.1, f.1, f.2⟩, e.2⟩
    · rw [t5 k, u5 (hk ▸ k), join_list, join_list] at h
      obtain ⟨m1, m2⟩ := hm6 (by omega)
      unfold partsL at h
      rw [m1, m2] at h
      simp only [List.map_nil, List.append_nil, List.map_map] at h
      have h2 : Lib.join ((iD a).map (lst ∘ textF m)) [44, 32] ++ 93 :: x = Lib.join ((iD b).map (lst ∘ textF m)) [44, 32] ++ 93 :: y := by
        have : (91 : UInt8) :: (Lib.join ((iD a).map (lst ∘ textF m)) [44, 32] ++ [93] ++ x) = 91 :: (Lib.join ((iD b).map (lst ∘ textF m)) [44, 32] ++ [93] ++ y) := h
        injection this with _ this
        simpa using this
      have e := list_read (f := compF m) (.inl rfl) (iD a) (iD b) (fun z hz => sa z (is_kid hz)) (fun z hz => sb z (is_kid hz)) (fun z hz v hv => rd z (is_kid hz) v (is_kid hv)) h2
      exact ⟨⟨hk, hn (by omega) (by omega), hs4 (by omega), e.1, cmpL_nil m1 m2⟩, e.2⟩
    · rw [t6 k, u6 (hk ▸ k), join_list, join_list] at h
      obtain ⟨m1, m2⟩ := hi5 (by omega)
      unfold partsL at h
      rw [m1, m2] at h
      simp only [List.map_nil, List.nil_append, List.map_map] at h
      have h2 : Lib.join ((mD a).map (lst ∘ mtext (textF m))) [44, 32] ++ 125 :: x = Lib.join ((mD b).map (lst ∘ mtext (textF m))) [44, 32] ++ 125 :: y := by
        have : (123 : UInt8) :: (Lib.join ((mD a).map (lst ∘ mtext (textF m))) [44, 32] ++ [125] ++ x) = 123 :: (Lib.join ((mD b).map (lst ∘ mtext (textF m))) [44, 32] ++ [125] ++ y) := h
        injection this with _ this
        simpa using this
      have ms : ∀ z : ByteArray × Dt, ∃ c r, (lst ∘ mtext (textF m)) z = c :: r ∧ c ≠ 93 ∧ c ≠ 125 := fun z => by
        obtain ⟨c, r, e, hc⟩ := label_start z.1
        refine ⟨c, r ++ 58 :: 32 :: lst (textF m z.2), ?_, hc⟩
        show lst (mtext (textF m) z) = _
        rw [mtext_list, e]; rfl
      have e := list_read (f := compM (compF m)) (.inr rfl) (mD a) (mD b) (fun z _ => ms z) (fun z _ => ms z) (fun z hz v hv x y hx hy he => by
        have he : lst (mtext (textF m) z) ++ x = lst (mtext (textF m) v) ++ y := he
        rw [mtext_list, mtext_list, List.append_assoc, List.append_assoc, List.cons_append, List.cons_append, List.cons_append, List.cons_append] at he
        obtain ⟨e1, e2⟩ := label_read he
        injection e2 with _ e2
        obtain ⟨e3, e4⟩ := rd z.2 (ms_kid hz) v.2 (ms_kid hv) x y hx hy e2
        refine ⟨?_, e4⟩
        unfold compM
        rw [orI_zero, cmpS_zero]
        exact ⟨e1, e3⟩) h2
      exact ⟨⟨hk, hn (by omega) (by omega), hs4 (by omega), cmpL_nil m1 m2, e.1⟩, e.2⟩
/-- Two texts of valid data are equal exactly if the data is. -/
theorem text_eq {w w' : World} {B B' m : Nat} {a b : Dt} {A c A' c' E f E' f'} (hp : Parts w B m a A c A' c') (hq : Parts w' B' m b E f E' f') (ha : checkD a = 0) (hb : checkD b = 0) : textF m a = textF m b ↔ compF m a b = 0 := by
  refine ⟨fun h => ?_, text_of_comp m⟩
  have s0 : Stop [] := fun c r e => by cases e
  exact (text_read m 16 [] [] hp hq ha hb s0 s0 (by rw [h])).1
end Go.Proofs.YtmmbbndoimleaaaGreatDoor

/- What is printed is read back, plain: strings and numbers. -/
namespace Go.Proofs.YtmmbbndoimleaaaGreatDoor
open Go.RowKit Go.Shelf

/-- From this place on stand these bytes. -/
def Sits (S : ByteArray) : Nat → List UInt8 → Prop
  | _, [] => True
  | i, c :: l => (nx S i = c.toNat ∧ i < S.size) ∧ Sits S (i + 1) l
theorem sits_app {S : ByteArray} : ∀ {l k : List UInt8} {i : Nat}, Sits S i (l ++ k) → Sits S i l ∧ Sits S (i + l.length) k
  | [], k, i, h => ⟨trivial, h⟩
  | c :: l, k, i, h => by
    obtain ⟨h1, h2⟩ := h
    obtain ⟨h3, h4⟩ := sits_app h2
    exact ⟨⟨h1, h3⟩, by rw [List.length_cons, show i + (l.length + 1) = i + 1 + l.length by omega]; exact h4⟩
theorem sits_mk {L : List UInt8} : ∀ (l : List UInt8) (i : Nat), L.drop i = l → Sits ⟨L.toArray⟩ i l
  | [], _, _ => trivial
  | c :: l, i, h => by
    have h0 : L[i]? = some c := by
      have := congrArg (fun k => k[0]?) h
      simpa using this
    have h1 : i < L.length := (List.getElem?_eq_some_iff.1 h0).1
    refine ⟨⟨by rw [nx_list, h0]; rfl, by rw [mk_size]; exact h1⟩, sits_mk l (i + 1) ?_⟩
    have := congrArg List.tail h
    rw [List.tail_drop] at this
    exact this
theorem sits_self (S : ByteArray) : Sits S 0 (lst S) := by
  have h := sits_mk (L := S.data.toList) S.data.toList 0 (List.drop_zero ..)
  rw [Array.toArray_toList] at h
  exact h
theorem sits_le {S : ByteArray} : ∀ {l : List UInt8} {i : Nat}, Sits S i l → i ≤ S.size → i + l.length ≤ S.size
  | [], i, _, hi => hi
  | c :: l, i, h, _ => by
    have h1 := h.1.2
    have h2 := sits_le h.2 (by omega)
    rw [List.length_cons]; omega
theorem run_over {q : Nat → Bool} (h0 : q 0 = false) {S : ByteArray} : ∀ {l : List UInt8} {i : Nat}, Sits S i l → (∀ c ∈ l, q c.toNat = true) → q (nx S (i + l.length)) = false → runF q S i = i + l.length
  | [], i, _, _, h => run_stop h
  | c :: l, i, h, hq, he => by
    have e : i + 1 + l.length = i + (c :: l).length := by rw [List.length_cons]; omega
    rw [run_step h0 (by rw [h.1.1]; exact hq c (List.mem_cons_self ..)), run_over h0 h.2 (fun d hd => hq d (List.mem_cons_of_mem _ hd)) (by rw [e]; exact he), e]
theorem sits_word {S : ByteArray} : ∀ {l : List UInt8} {i : Nat}, Sits S i l → wordF S l i = .ok (i + l.length)
  | [], i, _ => rfl
  | c :: l, i, h => by
    rw [wordF, if_pos h.1.1, sits_word h.2, List.length_cons, show i + 1 + l.length = i + (l.length + 1) by omega]

/-! Strings -/
theorem hex_hexN : ∀ a : Fin 16, hexV (hexN a.val).toNat = some a.val := by decide
theorem jshN_kinds {c : Nat} (h : jshN c ≠ 0) : c = 34 ∧ jshN c = 34 ∨ c = 92 ∧ jshN c = 92 ∨ c = 8 ∧ jshN c = 98 ∨ c = 9 ∧ jshN c = 116 ∨ c = 10 ∧ jshN c = 110 ∨ c = 12 ∧ jshN c = 102 ∨ c = 13 ∧ jshN c = 114 := by
  by_cases h1 : c = 34
  · subst h1; decide
  by_cases h2 : c = 92
  · subst h2; decide
  by_cases h3 : c = 8
  · subst h3; decide
  by_cases h4 : c = 9
  · subst h4; decide
  by_cases h5 : c = 10
  · subst h5; decide
  by_cases h6 : c = 12
  · subst h6; decide
  by_cases h7 : c = 13
  · subst h7; decide
  · exfalso
    apply h
    unfold jshN
    rw [if_neg (by omega), if_neg h3, if_neg h4, if_neg h5, if_neg h6, if_neg h7]
theorem jqL_pos (c : Nat) : 1 ≤ (jqL c).length := by
  unfold jqL; split
  · simp
  split <;> simp
theorem jqS_pos : ∀ l : List UInt8, l.length ≤ (jqS l).length
  | [] => Nat.zero_le _
  | b :: l => by
    have h1 := jqL_pos b.toNat
    have h2 := jqS_pos l
    unfold jqS at h2 ⊢
    rw [List.flatMap_cons, List.length_append, List.length_cons]; omega
theorem esc_jq {S : ByteArray} {i c : Nat} (hc : c < 256) (h : Sits S i (jqL c)) : (jqL c = [UInt8.ofNat c] ∧ c ≠ 34 ∧ c ≠ 92 ∧ 32 ≤ c ∧ c ≤ 126) ∨ (nx S i = 92 ∧ escF S i = .ok (c, i + (jqL c).length)) := by
  by_cases hs : jshN c ≠ 0
  · right
    have e : jqL c = [92, UInt8.ofNat (jshN c)] := by unfold jqL; rw [if_pos hs]
    rw [e] at h ⊢
    obtain ⟨⟨h1, _⟩, ⟨h2, _⟩, _⟩ := h
    refine ⟨h1, ?_⟩
    rcases jshN_kinds hs with ⟨rfl, e2⟩ | ⟨rfl, e2⟩ | ⟨rfl, e2⟩ | ⟨rfl, e2⟩ | ⟨rfl, e2⟩ | ⟨rfl, e2⟩ | ⟨rfl, e2⟩ <;> (rw [e2] at h2; replace h2 := h2.trans (by rfl : _ = (_ : Nat)); simp [escF, h2])
  · have hs0 : jshN c = 0 := by omega
    by_cases hr : c < 32 ∨ 126 < c
    · right
      have e : jqL c = [92, 117, 48, 48, hexN (c / 16), hexN (c % 16)] := by unfold jqL; rw [if_neg hs, if_pos hr]
      rw [e] at h ⊢
      obtain ⟨⟨h1, _⟩, ⟨h2, _⟩, h3⟩ := h
      have hw : wordF S [48, 48] (i + 2) = .ok (i + 2 + 2) := sits_word (sits_app (l := [48, 48]) h3).1
      obtain ⟨_, _, ⟨h4, _⟩, ⟨h5, _⟩, _⟩ := h3
      have x1 : hexV (nx S (i + 2 + 2)) = some (c / 16) := by
        have := hex_hexN ⟨c / 16, by omega⟩
        rw [show i + 2 + 2 = i + 1 + 1 + 1 + 1 by omega, h4]; exact this
      have x2 : hexV (nx S (i + 2 + 2 + 1)) = some (c % 16) := by
        have := hex_hexN ⟨c % 16, by omega⟩
        rw [show i + 2 + 2 + 1 = i + 1 + 1 + 1 + 1 + 1 by omega, h5]; exact this
      have h2' : nx S (i + 1) = 117 := h2
      refine ⟨h1, ?_⟩
      simp only [escF]
      rw [h2', if_neg (by decide), if_neg (by decide), if_neg (by decide), if_neg (by decide), if_neg (by decide), if_neg (by decide), if_pos rfl, hw]
      simp only
      rw [x1]
      simp only
      rw [x2]
      simp only
      rw [show 16 * (c / 16) + c % 16 = c by omega]
      rfl
    · left
      have e : jqL c = [UInt8.ofNat c] := by unfold jqL; rw [if_neg hs, if_neg hr]
      refine ⟨e, ?_, ?_, by omega, by omega⟩ <;> (rintro rfl; exact absurd hs0 (by decide))
theorem strL_read {S : ByteArray} : ∀ (l : List UInt8) (n i : Nat) (o : ByteArray), l.length < n → Sits S i (jqS l ++ [34]) → strL S n i o = .ok (⟨(lst o ++ l).toArray⟩, i + (jqS l).length + 1)
  | _, 0, _, _, h, _ => by omega
  | [], n + 1, i, o, _, h => by
    have h1 : nx S i = 34 := h.1.1
    rw [strL, if_pos h1, List.append_nil]
    unfold lst
    rw [Array.toArray_toList]
    rfl
  | c :: l, n + 1, i, o, hn, h => by
    have e : jqS (c :: l) = jqL c.toNat ++ jqS l := by unfold jqS; rw [List.flatMap_cons]
    rw [e, List.append_assoc] at h
    obtain ⟨h1, h2⟩ := sits_app h
    have ho : lst (o.push c) = lst o ++ [c] := by unfold lst; simp [ByteArray.push]
    have ih := strL_read l n _ (o.push c) (by simp at hn; omega) h2
    rw [ho, List.append_assoc, List.singleton_append] at ih
    have hcc : UInt8.ofNat c.toNat = c := UInt8.ofNat_toNat
    have ee : i + (jqL c.toNat).length + (jqS l).length + 1 = i + (jqS (c :: l)).length + 1 := by rw [e, List.length_append]; omega
    rw [ee] at ih
    rcases esc_jq c.toNat_lt h1 with ⟨g0, g1, g2, g3, g4⟩ | ⟨g1, g2⟩
    · rw [g0] at h1 ih
      have h5 : nx S i = c.toNat := by have := h1.1.1; rw [hcc] at this; exact this
      have h6 := h1.1.2
      rw [strL, h5, if_neg g1, if_neg g2, if_neg (by omega), hcc]
      exact ih
    · rw [strL, g1, if_neg (by decide), if_pos rfl, g2]
      show strL S n _ (o.push (UInt8.ofNat c.toNat)) = _
      rw [hcc, ih]
theorem jqB_list (s : ByteArray) : lst (jqB s) = 34 :: (jqS (lst s) ++ [34]) := rfl
theorem str_read {S s : ByteArray} {i : Nat} (h : Sits S i (lst (jqB s))) : strF S i = .ok (s, i + (jqB s).size) := by
  have hz : (jqB s).size = (jqS (lst s)).length + 2 := by
    rw [← lst_len, jqB_list, List.length_cons, List.length_append, List.length_singleton]
  rw [jqB_list] at h
  have h1 := h.1.2
  have h2 := sits_le h.2 (by omega)
  rw [List.length_append, List.length_singleton] at h2
  have h3 := jqS_pos (lst s)
  unfold strF
  have hw : wordF S [34] i = .ok (i + 1) := by rw [wordF, if_pos h.1.1]; rfl
  rw [hw]
  show strL S (S.size + 1 - (i + 1)) (i + 1) ByteArray.empty = _
  rw [strL_read (lst s) _ _ _ (by omega) h.2, hz]
  have e : (⟨(lst ByteArray.empty ++ lst s).toArray⟩ : ByteArray) = s := by
    show (⟨(lst s).toArray⟩ : ByteArray) = s
    unfold lst
    rw [Array.toArray_toList]
  rw [e, show i + 1 + (jqS (lst s)).length + 1 = i + ((jqS (lst s)).length + 2) by omega]

/-! Numbers -/
theorem dig_digB {c : UInt8} (h : digC c) : digB c.toNat = true := by unfold digC at h; unfold digB; simp; omega
theorem blk_kinds' {c : Nat} (h : blkB c = true) : c = 32 ∨ c = 9 ∨ c = 10 ∨ c = 13 := by
  unfold blkB at h
  simp at h
  omega
/-- What may stand behind a number. -/
def StopN (c : Nat) : Prop := digB c = false ∧ c ≠ 46
theorem dec_len : ∀ (k n : Nat), n < 10 ^ (k + 1) → (Lib.decDigits n).length ≤ k + 1
  | 0, n, h => by
    have : n < 10 := by simpa using h
    rw [Lib.decDigits_one this]; simp
  | k + 1, n, h => by
    by_cases h0 : n < 10
    · rw [Lib.decDigits_one h0]; simp
    · have := dec_len k (n / 10) (by rw [Nat.pow_succ] at h; omega)
      rw [dec_split h0, List.length_append, List.length_singleton]; omega
theorem dec_zero {n : Nat} {c : UInt8} {l : List UInt8} (h : Lib.decDigits n = c :: l) (hc : c.toNat = 48) : n = 0 := by
  induction n using Nat.strongRecOn generalizing l with
  | _ n ih =>
    by_cases h0 : n < 10
    · rw [Lib.decDigits_one h0] at h
      injection h with h1 h2
      rw [← h1] at hc
      simp at hc
      omega
    · rw [dec_split h0] at h
      cases hd : Lib.decDigits (n / 10) with
      | nil => exact absurd hd (dec_ne _)
      | cons d k =>
        rw [hd] at h
        injection h with h1 h2
        subst h1
        have := ih (n / 10) (by omega) hd
        omega
theorem digN_read {S : ByteArray} {a : Nat} (n : Nat) (h : Sits S a (Lib.decDigits n)) : digN S a (Lib.decDigits n).length = n := by
  induction n using Nat.strongRecOn with
  | _ n ih =>
    by_cases h0 : n < 10
    · rw [Lib.decDigits_one h0] at h ⊢
      have h1 := h.1.1
      show digN S a 0 * 10 + (nx S (a + 0) - 48) = n
      rw [Nat.add_zero, h1]
      simp [digN]
      omega
    · rw [dec_split h0] at h ⊢
      obtain ⟨h1, h2⟩ := sits_app h
      have h3 := h2.1.1
      rw [List.length_append, List.length_singleton, digN, ih (n / 10) (by omega) h1, h3]
      simp
      omega
theorem frac_len (r : Nat) (h : r < 10000) : (lst (fracB r)).length ≤ 4 := by
  have hd : (decB (r + 10000)).extract 1 (decB (r + 10000)).size = ⟨#[UInt8.ofNat (48 + r / 1000), UInt8.ofNat (48 + r / 100 % 10), UInt8.ofNat (48 + r / 10 % 10), UInt8.ofNat (48 + r % 10)]⟩ := by
    unfold decB; rw [dec_five r h]; rfl
  rw [lst_len]
  unfold fracB trimB
  rw [hd]
  exact trimF_size _ _
theorem frac_read {S : ByteArray} {a u : Nat} : ∀ (l : List UInt8), l.length ≤ 4 → Sits S a l → fracN S a (a + l.length) u 4 = u * 10000 + fv 4 l
  | [], _, _ => by
    simp only [fracN, fv, List.length_nil]
    rw [if_neg (by omega), if_neg (by omega), if_neg (by omega), if_neg (by omega)]
    omega
  | [c], _, h => by
    obtain ⟨⟨h1, _⟩, _⟩ := h
    simp [fracN, fv, h1]; omega
  | [c, d], _, h => by
    obtain ⟨⟨h1, _⟩, ⟨h2, _⟩, _⟩ := h
    simp [fracN, fv, h1, h2]; omega
  | [c, d, e], _, h => by
    obtain ⟨⟨h1, _⟩, ⟨h2, _⟩, ⟨h3, _⟩, _⟩ := h
    simp [fracN, fv, h1, h2, h3]; omega
  | [c, d, e, f], _, h => by
    obtain ⟨⟨h1, _⟩, ⟨h2, _⟩, ⟨h3, _⟩, ⟨h4, _⟩, _⟩ := h
    simp [fracN, fv, h1, h2, h3, h4]; omega
  | _ :: _ :: _ :: _ :: _ :: _, h, _ => by simp at h
theorem fracN_none {S : ByteArray} {a e u : Nat} (h : e ≤ a) : fracN S a e u 4 = u * 10000 := by
  simp only [fracN]
  rw [if_neg (by omega), if_neg (by omega), if_neg (by omega), if_neg (by omega)]
  omega
theorem numE_read {S : ByteArray} {i : Nat} {u : Int} (hu : validB u = true) (h : Sits S i (lst (numB u))) (hs : StopN (nx S (i + (numB u).size))) : numE S i = .ok (u, i + (numB u).size) := by
  have hv : -1000000000000000 ≤ u ∧ u ≤ 1000000000000000 := by unfold validB at hu; simpa using hu
  have hz : (numB u).size = (lst (numB u)).length := (lst_len _).symm
  rw [hz] at hs ⊢
  rw [num_list hu] at h hs ⊢
  obtain ⟨n, hn⟩ : ∃ n, n = u.natAbs / 10000 := ⟨_, rfl⟩
  obtain ⟨r, hr⟩ : ∃ r, r = u.natAbs % 10000 := ⟨_, rfl⟩
  rw [← hn, ← hr] at h hs ⊢
  have hr4 : r < 10000 := by omega
  have hnl := dec_len 11 n (by omega)
  have hdc := dec_dig n
  have hne := dec_ne n
  obtain ⟨a, ha⟩ : ∃ a, a = numI S i := ⟨_, rfl⟩
  have hA : Sits S a (Lib.decDigits n ++ lst (dotB (fracB r))) ∧ (u < 0 ∧ a = i + 1 ∨ ¬ u < 0 ∧ a = i) := by
    by_cases hu0 : u < 0
    · rw [if_pos hu0, List.append_assoc] at h
      have e : a = i + 1 := by rw [ha]; unfold numI; rw [if_pos (show nx S i = 45 from h.1.1)]
      exact ⟨by rw [e]; exact h.2, .inl ⟨hu0, e⟩⟩
    · rw [if_neg hu0, List.nil_append] at h
      have e : a = i := by
        rw [ha]; unfold numI
        rw [if_neg]
        cases hd : Lib.decDigits n with
        | nil => exact absurd hd hne
        | cons c l =>
          rw [hd] at h
          have h1 := h.1.1
          have h2 := hdc c (by rw [hd]; exact List.mem_cons_self ..)
          unfold digC at h2
          omega
      exact ⟨by rw [e]; exact h, .inr ⟨hu0, e⟩⟩
  obtain ⟨hA, hau⟩ := hA
  have hst : StopN (nx S (a + ((Lib.decDigits n).length + (lst (dotB (fracB r))).length))) := by
    have e : a + ((Lib.decDigits n).length + (lst (dotB (fracB r))).length) = i + ((if u < 0 then [45] else []) ++ Lib.decDigits n ++ lst (dotB (fracB r))).length := by
      rcases hau with ⟨h1, h2⟩ | ⟨h1, h2⟩
      · rw [if_pos h1]; simp; omega
      · rw [if_neg h1]; simp; omega
    rw [e]; exact hs
  have hend : i + ((if u < 0 then [45] else []) ++ Lib.decDigits n ++ lst (dotB (fracB r)) : List UInt8).length = a + ((Lib.decDigits n).length + (lst (dotB (fracB r))).length) := by
    rcases hau with ⟨h1, h2⟩ | ⟨h1, h2⟩
    · rw [if_pos h1]; simp; omega
    · rw [if_neg h1]; simp; omega
  rw [hend]
  obtain ⟨s1, s2⟩ := sits_app hA
  have hd0 : digB (nx S a) = true := by
    cases hd : Lib.decDigits n with
    | nil => exact absurd hd hne
    | cons c l =>
      rw [hd] at s1
      rw [s1.1.1]
      exact dig_digB (hdc c (by rw [hd]; exact List.mem_cons_self ..))
  obtain ⟨j, hj⟩ : ∃ j, j = a + (Lib.decDigits n).length := ⟨_, rfl⟩
  rw [← hj] at s2
  have hq : digB (nx S j) = false := by
    rcases dot_cases (fracB r) with ⟨_, d2⟩ | d2
    · rw [d2] at hst; rw [hj]; exact hst.1
    · rw [d2] at s2; rw [s2.1.1]; rfl
  have hJ : numJ S a = j := by
    unfold numJ
    by_cases h48 : nx S a = 48
    · rw [if_pos h48, hj]
      cases hd : Lib.decDigits n with
      | nil => exact absurd hd hne
      | cons c l =>
        rw [hd] at s1
        have hn0 := dec_zero hd (by rw [← s1.1.1]; exact h48)
        rw [hn0, Lib.decDigits_one (by omega)] at hd
        injection hd with _ hd
        rw [← hd]; rfl
    · rw [if_neg h48]
      show runF digB S a = j
      rw [run_over rfl s1 (fun c hc => dig_digB (hdc c hc)) (by rw [← hj]; exact hq), hj]
  have hdig : digN S a (j - a) = n := by
    rw [hj, show a + (Lib.decDigits n).length - a = (Lib.decDigits n).length by omega]
    exact digN_read n s1
  have huu : u.natAbs = n * 10000 + r := by omega
  rw [numE_k, ← ha, if_neg (by rw [hd0]; simp), hJ]
  have fin : ∀ e, e = a + ((Lib.decDigits n).length + (lst (dotB (fracB r))).length) → numZ S j = e → e - j ≤ 5 → fracN S (j + 1) e n 4 = n * 10000 + r → (nx S j = 46 ∧ digB (nx S (j + 1)) = false → False) →
      (if nx S j = 46 ∧ digB (nx S (j + 1)) = false then .error (19, ((j + 1 : Nat) : Int)) else numK S i a j (numZ S j) : Except Flt (Int × Nat)) = .ok (u, a + ((Lib.decDigits n).length + (lst (dotB (fracB r))).length)) := by
    intro e he1 he2 he3 he4 he5
    rw [if_neg he5, he2]
    unfold numK
    rw [hdig, he4, if_neg (by omega), if_neg (by omega), ← he1]
    have : (if a = i then ((n * 10000 + r : Nat) : Int) else -((n * 10000 + r : Nat) : Int)) = u := by
      rcases hau with ⟨h1, h2⟩ | ⟨h1, h2⟩
      · rw [if_neg (by omega)]; omega
      · rw [if_pos h2]; omega
    rw [this]
  rcases dot_cases (fracB r) with ⟨d1, d2⟩ | d2
  · have hr0 : r = 0 := by have := frac_val r hr4; rw [d1] at this; exact this.symm
    rw [d2] at hst
    have h46 : nx S j ≠ 46 := by rw [hj]; exact hst.2
    refine fin j (by rw [d2, hj]; rfl) (by unfold numZ; rw [if_neg h46]) (by omega) (by rw [fracN_none (by omega)]; omega) fun h => h46 h.1
  · rw [d2] at hst s2
    have hf4 := frac_len r hr4
    have h46 : nx S j = 46 := s2.1.1
    have hfd := frac_dig r hr4
    have hne2 : lst (fracB r) ≠ [] := fun h0 => by
      unfold dotB at d2
      rw [if_pos (by rw [ba_toList]; exact h0)] at d2
      cases d2
    have hd1 : digB (nx S (j + 1)) = true := by
      have s3 := s2.2
      cases hd : lst (fracB r) with
      | nil => exact absurd hd hne2
      | cons c l =>
        rw [hd] at s3
        rw [s3.1.1]
        exact dig_digB (hfd c (by rw [hd]; exact List.mem_cons_self ..))
    have hstp : digB (nx S (j + 1 + (lst (fracB r)).length)) = false := by
      rw [hj, show a + (Lib.decDigits n).length + 1 + (lst (fracB r)).length = a + ((Lib.decDigits n).length + (46 :: lst (fracB r)).length) by rw [List.length_cons]; omega]
      exact hst.1
    have hZ : numZ S j = j + 1 + (lst (fracB r)).length := by
      unfold numZ
      rw [if_pos h46]
      exact run_over rfl s2.2 (fun c hc => dig_digB (hfd c hc)) hstp
    refine fin _ (by rw [d2, hj, List.length_cons]; omega) hZ (by omega) ?_ fun h => by rw [hd1] at h; exact absurd h.2 (by simp)
    rw [frac_read _ hf4 s2.2, frac_val r hr4]
end Go.Proofs.YtmmbbndoimleaaaGreatDoor

/- The reference's reader in memory; fail, more, is, digit. -/
namespace Go.Proofs.YtmmbbndoimleaaaGreatDoor
open Go.RowKit

/-- The reader's block: the text, the place, the fault. -/
def Rdr (w : World) (g : Nat) (S : ByteArray) (i : Nat) (f : Flt) : Prop := Row w g 55 [.string S, .int .i64 i, .int .i64 f.1, .int .i64 f.2]
section
variable {w w1 : World} {g : Nat} {S : ByteArray} {i : Nat} {f : Flt}
theorem Rdr.lt (h : Rdr w g S i f) : g < w.heap.size := Row.lt h
theorem Rdr.below (h : Rdr w g S i f) (hb : Below w.heap.size w w1) : Rdr w1 g S i f := Row.below h hb
theorem Rdr.drewN (h : Rdr w g S i f) (n : Nat) : Rdr (w.drewN n) g S i f := h
theorem Rdr.cells (h : Rdr w g S i f) : w.cell? ⟨g, 0, none⟩ = some (.string S) ∧ w.cell? ⟨g, 1, none⟩ = some (.int .i64 i) ∧ w.cell? ⟨g, 2, none⟩ = some (.int .i64 f.1) ∧ w.cell? ⟨g, 3, none⟩ = some (.int .i64 f.2) := ⟨h.cell 0, h.cell 1, h.cell 2, h.cell 3⟩
theorem Rdr.free (h : Rdr w g S i f) : w.frozen? ⟨g, 1, none⟩ = false ∧ w.frozen? ⟨g, 2, none⟩ = false ∧ w.frozen? ⟨g, 3, none⟩ = false := ⟨h.frozen 1, h.frozen 2, h.frozen 3⟩
theorem Rdr.set_ (h : Rdr w g S i f) (j : Nat) : Rdr (w.setCell ⟨g, 1, none⟩ (.int .i64 j)) g S j f := Row.set_ h 1 (.int .i64 j)
theorem Rdr.flt (h : Rdr w g S i f) (e a : Int) : Rdr ((w.setCell ⟨g, 2, none⟩ (.int .i64 e)).setCell ⟨g, 3, none⟩ (.int .i64 a)) g S i (e, a) := Row.set_ (Row.set_ h 2 (.int .i64 e)) 3 (.int .i64 a)
theorem Rdr.other (h : Rdr w g S i f) {row : Option Nat} (hg : w.grownBy w1 row) (hr : some g ≠ row) : Rdr w1 g S i f := Row.grown h hg hr
end
/-- Where the reader stands. -/
theorem Rdr.at_ {w : World} {g : Nat} {S : ByteArray} {i : Nat} {f : Flt} (h : Rdr w g S i f) : atOf w g = i := by
  unfold atOf; rw [h.cells.2.1]; rfl
/-- A fault that stands is kept. -/
def keepF (f g : Flt) : Flt := if f.1 = 0 then g else f

set_option maxHeartbeats 1000000 in
theorem rfail_run (S : ByteArray) (g i : Nat) (f : Flt) (e a : Int) (w : World) (h : Rdr w g S i f) :
    Calls Tryz.prog 28 #[.pointer (some ⟨g, 0, none⟩), .int .i64 e, .int .i64 a] w fun r w' => r = .returned (.tuple #[]) ∧ Rdr w' g S i (keepF f (e, a)) ∧ Px g w w' := by
  obtain ⟨c0, c1, c2, c3⟩ := h.cells
  obtain ⟨f1, f2, f3⟩ := h.free
  have HP := hide h
  obtain ⟨f, b⟩ := f
  clear h
  unfold keepF
  by_cases hf : f = 0
  · subst hf
    go_enter Tryz.func28, Tryz.ntmps28
    go_wp2_with fail
    go_end0
    exact ⟨rfl, HP.out.flt e a, (Px.refl.set_ 2 _).set_ 3 _⟩
  · have d1 : (f == 0) = false := by simpa using hf
    go_enter Tryz.func28, Tryz.ntmps28
    go_wp2_with fail
    go_end0
    exact ⟨rfl, by first | exact HP.out | (rw [if_neg hf]; exact HP.out), Px.refl⟩
/-- Whether more stands. -/
def moreB (S : ByteArray) (i : Nat) (f : Flt) : Bool := f.1 == 0 && decide (i < S.size)
set_option maxHeartbeats 1000000 in
theorem more_run (S : ByteArray) (g i : Nat) (f : Flt) (w : World) (h : Rdr w g S i f) :
    Calls Tryz.prog 53 #[.pointer (some ⟨g, 0, none⟩)] w fun e w' => e = .returned (.bool (moreB S i f)) ∧ ∃ n, w' = w.drewN n := by
  obtain ⟨c0, c1, c2, c3⟩ := h.cells
  obtain ⟨f, b⟩ := f
  clear h
  unfold moreB
  by_cases hf : f = 0
  · subst hf
    by_cases hi : i < S.size
    · go_enter Tryz.func53, Tryz.ntmps53
      go_wp2_with fail
      go_quiet (fail)
      go_wp2_with fail
      go_ret
      exact ⟨ret_bool (by simp [hi]), _, rfl⟩
    · go_enter Tryz.func53, Tryz.ntmps53
      go_wp2_with fail
      go_quiet (fail)
      go_wp2_with fail
      go_ret
      exact ⟨ret_bool (by simp [hi]), _, rfl⟩
  · have d1 : (f == 0) = false := by simpa using hf
    go_enter Tryz.func53, Tryz.ntmps53
    go_wp2_with fail
    go_quiet (fail)
    go_wp2_with fail
    go_ret
    exact ⟨ret_bool (by simp [hf]), _, rfl⟩
/-- Whether this byte stands next. -/
def isB (S : ByteArray) (i c : Nat) (f : Flt) : Bool := f.1 == 0 && nx S i == c
set_option maxHeartbeats 1000000 in
theorem is_run (S : ByteArray) (g i c : Nat) (f : Flt) (w : World) (h : Rdr w g S i f) (hc : c ≠ 0) (hi : i ≤ 2000000000) :
    Calls Tryz.prog 47 #[.pointer (some ⟨g, 0, none⟩), .int .u8 c] w fun e w' => e = .returned (.bool (isB S i c f)) ∧ Rdr w' g S (if isB S i c f = true then i + 1 else i) f ∧ Px g w w' := by
  have HM := hide fun V (h : Rdr V g S i f) => more_run S g i f V h
  have HP := hide h
  have HPd := hide fun n => h.drewN n
  obtain ⟨m, hm⟩ : ∃ m, m = moreB S i f := ⟨_, rfl⟩
  rw [← hm] at HM
  obtain ⟨r, hr⟩ : ∃ r, r = isB S i c f := ⟨_, rfl⟩
  rw [← hr]
  have HR := Lib.hid hr
  clear hr h
  cases m with
  | false =>
    have HE := hide (show r = false by
      rw [HR.out]
      unfold moreB at hm
      unfold isB
      by_cases hf : f.1 = 0
      · have hi : ¬ i < S.size := by rw [hf] at hm; simpa using hm.symm
        rw [nx_past hi]
        have : ((0 : Nat) == c) = false := by simpa using fun e => hc e.symm
        rw [this]; simp
      · have : (f.1 == 0) = false := by simpa using hf
        rw [this]; rfl)
    clear hm HR
    have hre := HE.out
    subst hre
    clear HE
    go_enter Tryz.func47, Tryz.ntmps47
    go_wp2_with fail
    go_quiet ((go_at_call 53; exact Calls.quiet_of (HM.out _ (HPd.out _))))
    go_wp2_with fail
    go_ret
    exact ⟨rfl, HP.out.drewN _, Px.refl.drewN _⟩
  | true =>
    have hf : f.1 = 0 ∧ i < S.size := by unfold moreB at hm; simpa using hm.symm
    obtain ⟨hf, his⟩ := hf
    obtain ⟨x, hx⟩ : ∃ x, x = (S[i]).toNat := ⟨_, rfl⟩
    have hS2 : (S[i]).toNat = x := hx.symm
    have HX := hide (show nx S i = x by rw [hx]; exact nx_at his)
    clear hm hx
    by_cases hq : x = c
    · subst hq
      have HE := hide (show r = true by rw [HR.out]; unfold isB; rw [HX.out, hf]; simp)
      clear HR
      have hre := HE.out
      subst hre
      clear HE
      go_enter Tryz.func47, Tryz.ntmps47
      obtain ⟨c0, c1, c2, c3⟩ := HP.out.cells
      obtain ⟨f1, f2, f3⟩ := HP.out.free
      go_wp2_with fail
      go_quiet ((go_at_call 53; exact Calls.quiet_of (HM.out _ (HPd.out _))))
      go_wp2_with fail
      go_ret
      exact ⟨rfl, (HP.out.drewN _).set_ (i + 1), (Px.refl.drewN _).set_ 1 _⟩
    · have HE := hide (show r = false by rw [HR.out]; unfold isB; rw [HX.out, hf]; simpa using hq)
      have d1 : ((x : Int) != (c : Int)) = true := by simp; omega
      have d2 : ((x : Int) == (c : Int)) = false := by simp; omega
      clear HR
      have hre := HE.out
      subst hre
      clear HE
      go_enter Tryz.func47, Tryz.ntmps47
      obtain ⟨c0, c1, c2, c3⟩ := HP.out.cells
      go_wp2_with fail
      go_quiet ((go_at_call 53; exact Calls.quiet_of (HM.out _ (HPd.out _))))
      go_wp2_with fail
      go_ret
      exact ⟨rfl, HP.out.drewN _, Px.refl.drewN _⟩
end Go.Proofs.YtmmbbndoimleaaaGreatDoor

/- blanks, word, digit, hex of the reference's reader. -/
namespace Go.Proofs.YtmmbbndoimleaaaGreatDoor
open Go.RowKit

/-- What a call without results does to the reader. -/
def RU (g : Nat) (S : ByteArray) (w : World) (j : Nat) (f : Flt) (e : Ending) (w' : World) : Prop := e = .returned (.tuple #[]) ∧ Rdr w' g S j f ∧ Px g w w'
theorem is_yes (S : ByteArray) (g i c : Nat) (f : Flt) (w : World) (h : Rdr w g S i f) (hi : i ≤ 2000000000) (hc : c ≠ 0) (hf : f.1 = 0) (hn : nx S i = c) :
    Calls Tryz.prog 47 #[.pointer (some ⟨g, 0, none⟩), .int .u8 c] w fun e w' => e = .returned (.bool true) ∧ Rdr w' g S (i + 1) f ∧ Px g w w' := by
  have hb : isB S i c f = true := by unfold isB; rw [hf, hn]; simp
  have := is_run S g i c f w h hc hi
  rw [hb] at this
  exact this
theorem is_no (S : ByteArray) (g i c : Nat) (f : Flt) (w : World) (h : Rdr w g S i f) (hi : i ≤ 2000000000) (hc : c ≠ 0) (hn : f.1 ≠ 0 ∨ nx S i ≠ c) :
    Calls Tryz.prog 47 #[.pointer (some ⟨g, 0, none⟩), .int .u8 c] w fun e w' => e = .returned (.bool false) ∧ Rdr w' g S i f ∧ Px g w w' := by
  have hb : isB S i c f = false := by
    unfold isB
    rcases hn with h | h
    · have : (f.1 == 0) = false := by simpa using h
      rw [this]; rfl
    · have : (nx S i == c) = false := by simpa using h
      rw [this]; simp
  have := is_run S g i c f w h hc hi
  rw [hb] at this
  exact this
/-- The blanks that are skipped. -/
def blkR (S : ByteArray) (i : Nat) (f : Flt) : Nat := if f.1 = 0 then blk S i else i
theorem blk_kinds {c : Nat} (h : blkB c = true) : c = 32 ∨ c = 9 ∨ c = 10 ∨ c = 13 := by
  unfold blkB at h
  simp at h
  omega
theorem blk_not {c : Nat} (h : blkB c = false) : c ≠ 32 ∧ c ≠ 9 ∧ c ≠ 10 ∧ c ≠ 13 := by
  unfold blkB at h
  simp at h
  omega

set_option maxRecDepth 20000 in
set_option maxHeartbeats 1000000 in
theorem rblanks_run (S : ByteArray) (g i : Nat) (f : Flt) (w : World) (h : Rdr w g S i f) (hS : S.size ≤ 1000000000) (hi : i ≤ S.size) :
    Calls Tryz.prog 46 #[.pointer (some ⟨g, 0, none⟩)] w (RU g S w (blkR S i f) f) := by
  obtain ⟨B, hB⟩ : ∃ b, b = blkR S i f := ⟨_, rfl⟩
  rw [← hB]
  have HY := hide fun c k V (h : Rdr V g S k f) (hk : k ≤ S.size) => is_yes S g k c f V h (by omega)
  have HN := hide fun c k V (h : Rdr V g S k f) (hk : k ≤ S.size) => is_no S g k c f V h (by omega)
  have H0 := hide (show Rdr w g S i f ∧ Px g w w ∧ B = blkR S i f from ⟨h, Px.refl, hB⟩)
  clear h hB
  go_enter Tryz.func46, Tryz.ntmps46
  go_wp2_with fail
  go_loopw [] (fun wr => ∃ k : Nat, k ≤ S.size ∧ Hid (Rdr wr g S k f ∧ Px g w wr ∧ B = blkR S k f)) (fun wr => S.size - atOf wr g)
  case atStart => exact ⟨i, hi, H0⟩
  case round =>
    clear H0
    obtain ⟨k, hk, hR⟩ := hrel
    have HAT := hide (show atOf wr g = k from hR.out.1.at_)
    by_cases hg : f.1 = 0 ∧ blkB (nx S k) = true
    · obtain ⟨hf, hb⟩ := hg
      have hlt : k < S.size := nx_in fun e => by rw [e] at hb; cases hb
      have HNX := hide (show B = blkR S (k + 1) f by
        rw [hR.out.2.2]; unfold blkR; rw [if_pos hf, if_pos hf]; exact run_step rfl hb)
      have HF := Lib.hid hf
      rcases blk_kinds hb with e | e | e | e
      · have HE := Lib.hid e
        clear hb e hf
        go_wp2_with fail
        refine (HY.out 32 k _ hR.out.1 hk (by decide) HF.out HE.out).mono ?_; rintro e w1 ⟨rfl, hr, hx⟩
        have HR1 := hide hr
        have HX1 := hide (hR.out.2.1.trans hx)
        clear hr hx hR
        go_wp2_with fail
        go_roundw
        case rel => exact ⟨k + 1, hlt, hide ⟨HR1.out, HX1.out, HNX.out⟩⟩
        case measure => rw [HR1.out.at_, HAT.out]; omega
      · have HE := Lib.hid e
        clear hb e hf
        go_wp2_with fail
        refine (HN.out 32 k _ hR.out.1 hk (by decide) (.inr (by rw [HE.out]; decide))).mono ?_; rintro e w1 ⟨rfl, hr, hx⟩
        go_wp2_with fail
        refine (HY.out 9 k _ hr hk (by decide) HF.out HE.out).mono ?_; rintro e w2 ⟨rfl, hr2, hx2⟩
        have HR1 := hide hr2
        have HX1 := hide ((hR.out.2.1.trans hx).trans hx2)
        clear hr hx hr2 hx2 hR
        go_wp2_with fail
        go_roundw
        case rel => exact ⟨k + 1, hlt, hide ⟨HR1.out, HX1.out, HNX.out⟩⟩
        case measure => rw [HR1.out.at_, HAT.out]; omega
      · have HE := Lib.hid e
        clear hb e hf
        go_wp2_with fail
        refine (HN.out 32 k _ hR.out.1 hk (by decide) (.inr (by rw [HE.out]; decide))).mono ?_; rintro e w1 ⟨rfl, hr, hx⟩
        go_wp2_with fail
        refine (HN.out 9 k _ hr hk (by decide) (.inr (by rw [HE.out]; decide))).mono ?_; rintro e w2 ⟨rfl, hr2, hx2⟩
        go_wp2_with fail
        refine (HY.out 10 k _ hr2 hk (by decide) HF.out HE.out).mono ?_; rintro e w3 ⟨rfl, hr3, hx3⟩
        have HR1 := hide hr3
        have HX1 := hide (((hR.out.2.1.trans hx).trans hx2).trans hx3)
        clear hr hx hr2 hx2 hr3 hx3 hR
        go_wp2_with fail
        go_roundw
        case rel => exact ⟨k + 1, hlt, hide ⟨HR1.out, HX1.out, HNX.out⟩⟩
        case measure => rw [HR1.out.at_, HAT.out]; omega
      · have HE := Lib.hid e
        clear hb e hf
        go_wp2_with fail
        refine (HN.out 32 k _ hR.out.1 hk (by decide) (.inr (by rw [HE.out]; decide))).mono ?_; rintro e w1 ⟨rfl, hr, hx⟩
        go_wp2_with fail
        refine (HN.out 9 k _ hr hk (by decide) (.inr (by rw [HE.out]; decide))).mono ?_; rintro e w2 ⟨rfl, hr2, hx2⟩
        go_wp2_with fail
        refine (HN.out 10 k _ hr2 hk (by decide) (.inr (by rw [HE.out]; decide))).mono ?_; rintro e w3 ⟨rfl, hr3, hx3⟩
        go_wp2_with fail
        refine (HY.out 13 k _ hr3 hk (by decide) HF.out HE.out).mono ?_; rintro e w4 ⟨rfl, hr4, hx4⟩
        have HR1 := hide hr4
        have HX1 := hide ((((hR.out.2.1.trans hx).trans hx2).trans hx3).trans hx4)
        clear hr hx hr2 hx2 hr3 hx3 hr4 hx4 hR
        go_wp2_with fail
        go_roundw
        case rel => exact ⟨k + 1, hlt, hide ⟨HR1.out, HX1.out, HNX.out⟩⟩
        case measure => rw [HR1.out.at_, HAT.out]; omega
    · have HNX := hide (show B = k by
        rw [hR.out.2.2]; unfold blkR
        by_cases hf : f.1 = 0
        · rw [if_pos hf]
          exact run_stop (by
            cases hb : blkB (nx S k) with
            | true => exact absurd ⟨hf, hb⟩ hg
            | false => rfl)
        · rw [if_neg hf])
      have HQ := hide (show ∀ c, c = 32 ∨ c = 9 ∨ c = 10 ∨ c = 13 → (f.1 ≠ 0 ∨ nx S k ≠ c) from fun c hc => by
        by_cases hf : f.1 = 0
        · right
          intro e
          exact hg ⟨hf, by rw [e]; rcases hc with rfl | rfl | rfl | rfl <;> rfl⟩
        · exact .inl hf)
      clear hg
      go_wp2_with fail
      refine (HN.out 32 k _ hR.out.1 hk (by decide) (HQ.out _ (by omega))).mono ?_; rintro e w1 ⟨rfl, hr, hx⟩
      go_wp2_with fail
      refine (HN.out 9 k _ hr hk (by decide) (HQ.out _ (by omega))).mono ?_; rintro e w2 ⟨rfl, hr2, hx2⟩
      go_wp2_with fail
      refine (HN.out 10 k _ hr2 hk (by decide) (HQ.out _ (by omega))).mono ?_; rintro e w3 ⟨rfl, hr3, hx3⟩
      go_wp2_with fail
      refine (HN.out 13 k _ hr3 hk (by decide) (HQ.out _ (by omega))).mono ?_; rintro e w4 ⟨rfl, hr4, hx4⟩
      have HR1 := hide hr4
      have HX1 := hide ((((hR.out.2.1.trans hx).trans hx2).trans hx3).trans hx4)
      clear hr hx hr2 hx2 hr3 hx3 hr4 hx4 hR
      go_wp2_with fail
      go_end0
      rw [HNX.out]
      exact ⟨rfl, HR1.out, HX1.out⟩
end Go.Proofs.YtmmbbndoimleaaaGreatDoor

/- word, digit, hex of the reference's reader. -/
namespace Go.Proofs.YtmmbbndoimleaaaGreatDoor
open Go.RowKit

/-- A call that goes on at a place, or leaves a fault. -/
def RW (g : Nat) (S : ByteArray) (w : World) (r : Except Flt Nat) : Ending → World → Prop :=
  match r with
  | .ok j => RU g S w j (0, 0)
  | .error f => fun e w' => ∃ k, k ≤ S.size ∧ RU g S w k f e w'
/-- Where a word is read: so far so good, or a fault stands. -/
def WSt (g : Nat) (S : ByteArray) (i : Nat) (r : Except Flt Nat) (l : List UInt8) (W : World) : Prop :=
  (Rdr W g S i (0, 0) ∧ i ≤ S.size ∧ r = wordF S l i) ∨ ∃ k f, k ≤ S.size ∧ r = .error f ∧ f.1 ≠ 0 ∧ Rdr W g S k f

set_option maxRecDepth 20000 in
set_option maxHeartbeats 1000000 in
theorem rword_run (S W : ByteArray) (g i : Nat) (w : World) (h : Rdr w g S i (0, 0)) (hi : i ≤ S.size) (hS : S.size ≤ 1000000000) (hW : W.size ≤ 1000) (hz : ∀ c ∈ W.data.toList, c.toNat ≠ 0) :
    Calls Tryz.prog 48 #[.pointer (some ⟨g, 0, none⟩), .string W] w (RW g S w (wordF S W.data.toList i)) := by
  obtain ⟨r, hr⟩ : ∃ r, r = wordF S W.data.toList i := ⟨_, rfl⟩
  rw [← hr]
  have HY := hide fun c k f V (h : Rdr V g S k f) (hk : k ≤ S.size) => is_yes S g k c f V h (by omega)
  have HN := hide fun c k f V (h : Rdr V g S k f) (hk : k ≤ S.size) => is_no S g k c f V h (by omega)
  have HF := hide fun (k : Nat) f V (h : Rdr V g S k f) => rfail_run S g k f 19 (k : Nat) V h
  have HZ := hide hz
  have H0 := hide (show WSt g S (i + 0) r (W.data.toList.drop 0) w ∧ Px g w w from ⟨.inl ⟨h, hi, hr⟩, Px.refl⟩)
  obtain ⟨N, hN⟩ : ∃ n, n = W.size := ⟨_, rfl⟩
  have HNN := Lib.hid hN
  rw [← hN] at hW
  have HLE := Lib.hid (show W.data.toList.length = W.size from Array.length_toList)
  clear h hr hN hz
  go_enter Tryz.func48, Tryz.ntmps48
  go_wp2_with fail
  go_loopw [4] (fun mv wr => ∃ m : Nat, mv = .int .i64 m ∧ m ≤ N ∧ Hid (WSt g S (i + m) r (W.data.toList.drop m) wr ∧ Px g w wr)) (fun mv _ => N - (intOf mv).toNat)
  case atStart => exact ⟨0, rfl, Nat.zero_le _, H0⟩
  case round =>
    clear H0
    obtain ⟨m, rfl, hm, hR⟩ := hrel
    have e0 : W.size = N := HNN.out.symm
    by_cases hlt : m < N
    · have hlt' : m < W.size := by omega
      obtain ⟨c, hc⟩ : ∃ c, c = W[m] := ⟨_, rfl⟩
      have hcl : W.data.toList[m]? = some c := by
        rw [hc, List.getElem?_eq_getElem (by rw [HLE.out]; exact hlt')]; rfl
      have hcz : c.toNat ≠ 0 := HZ.out c (List.mem_of_getElem? hcl)
      have HD := Lib.hid (drop_cons hcl)
      have hW2 : W[m] = c := hc.symm
      obtain ⟨y, hy⟩ : ∃ y, y = c.toNat := ⟨_, rfl⟩
      rw [← hy] at hcz
      have HYC := Lib.hid hy
      clear hc hcl hy
      rcases hR.out.1 with ⟨h1, h2, h3⟩ | ⟨k, f, h1, h2, h3, h4⟩
      · have HRR := hide (show r = if nx S (i + m) = y then wordF S (W.data.toList.drop (m + 1)) (i + m + 1) else .error (19, ((i + m : Nat) : Int)) by
          rw [h3, HD.out, wordF, HYC.out])
        have HP1 := hide h1
        have HX1 := hide hR.out.2
        clear h1 h3 hR
        by_cases hq : nx S (i + m) = y
        · have hlt2 : i + m < S.size := nx_in (by rw [hq]; exact hcz)
          have HRN := hide (show r = wordF S (W.data.toList.drop (m + 1)) (i + (m + 1)) by rw [HRR.out, if_pos hq]; first | done | rfl)
          have HQ := Lib.hid hq
          clear hq HRR
          go_wp2_with fail
          rw [← HYC.out]
          go_wp2_with fail
          refine (HY.out y (i + m) _ _ HP1.out h2 hcz rfl HQ.out).mono ?_; rintro e w1 ⟨rfl, hr1, hx1⟩
          have HR2 := hide hr1
          have HX2 := hide (HX1.out.trans hx1)
          clear hr1 hx1 HP1 HX1
          go_wp2_with fail
          go_roundw
          case rel => exact ⟨m + 1, by go_num, hlt, hide ⟨.inl ⟨HR2.out, by omega, HRN.out⟩, HX2.out⟩⟩
          case measure => simp [intOf]; omega
        · have HRN := hide (show r = .error (19, ((i + m : Nat) : Int)) by rw [HRR.out, if_neg hq])
          have HQ := hide hq
          clear hq HRR
          go_wp2_with fail
          rw [← HYC.out]
          go_wp2_with fail
          refine (HN.out y (i + m) _ _ HP1.out h2 hcz (.inr HQ.out)).mono ?_; rintro e w1 ⟨rfl, hr1, hx1⟩
          have HR2 := hide hr1
          have HX2 := hide (HX1.out.trans hx1)
          obtain ⟨c0, c1, c2, c3⟩ := hr1.cells
          clear hr1 hx1 HP1 HX1
          go_wp2_with fail
          refine (HF.out (i + m) _ _ HR2.out).mono ?_; rintro e w2 ⟨rfl, hr2, hx2⟩
          have HR3 := hide hr2
          have HX3 := hide (HX2.out.trans hx2)
          clear hr2 hx2 HR2 HX2 c0 c1 c2 c3
          go_wp2_with fail
          go_roundw
          case rel => exact ⟨m + 1, by go_num, hlt, hide ⟨.inr ⟨i + m, _, h2, HRN.out, (show (19 : Int) ≠ 0 by decide), HR3.out⟩, HX3.out⟩⟩
          case measure => simp [intOf]; omega
      · have HP1 := hide h4
        have HRN := hide (And.intro h2 h3)
        have HX1 := hide hR.out.2
        clear h2 h3 h4 hR
        go_wp2_with fail
        rw [← HYC.out]
        go_wp2_with fail
        refine (HN.out y k _ _ HP1.out h1 hcz (.inl HRN.out.2)).mono ?_; rintro e w1 ⟨rfl, hr1, hx1⟩
        have HR2 := hide hr1
        have HX2 := hide (HX1.out.trans hx1)
        obtain ⟨c0, c1, c2, c3⟩ := hr1.cells
        clear hr1 hx1 HP1 HX1
        go_wp2_with fail
        refine (HF.out k _ _ HR2.out).mono ?_; rintro e w2 ⟨rfl, hr2, hx2⟩
        have HR3 := hide (show Rdr w2 g S k f by unfold keepF at hr2; rw [if_neg HRN.out.2] at hr2; exact hr2)
        have HX3 := hide (HX2.out.trans hx2)
        clear hr2 hx2 HR2 HX2 c0 c1 c2 c3
        go_wp2_with fail
        go_roundw
        case rel => exact ⟨m + 1, by go_num, hlt, hide ⟨.inr ⟨k, f, h1, HRN.out.1, HRN.out.2, HR3.out⟩, HX3.out⟩⟩
        case measure => simp [intOf]; omega
    · have HDN := hide (show W.data.toList.drop m = [] from List.drop_eq_nil_of_le (by rw [HLE.out, ← HNN.out]; omega))
      go_wp2_with fail
      go_end0
      rcases hR.out.1 with ⟨h1, h2, h3⟩ | ⟨k, f, h1, h2, h3, h4⟩
      · rw [HDN.out] at h3
        rw [show r = .ok (i + m) from h3]
        exact ⟨rfl, h1, hR.out.2⟩
      · rw [h2]
        exact ⟨k, h1, rfl, h4, hR.out.2⟩
set_option maxHeartbeats 1000000 in
theorem rdigit_run (S : ByteArray) (g i : Nat) (f : Flt) (w : World) (h : Rdr w g S i f) :
    Calls Tryz.prog 52 #[.pointer (some ⟨g, 0, none⟩)] w fun e w' => e = .returned (.bool (f.1 == 0 && digB (nx S i))) ∧ ∃ n, w' = w.drewN n := by
  have HM := hide fun V (h : Rdr V g S i f) => more_run S g i f V h
  have HPd := hide fun n => h.drewN n
  obtain ⟨c0, c1, c2, c3⟩ := h.cells
  by_cases hm : f.1 = 0 ∧ i < S.size
  · obtain ⟨hf, hi⟩ := hm
    have em : moreB S i f = true := by unfold moreB; rw [hf]; simpa using hi
    rw [em] at HM
    obtain ⟨x, hx⟩ : ∃ x, x = (S[i]).toNat := ⟨_, rfl⟩
    have hS2 : (S[i]).toNat = x := hx.symm
    have e : nx S i = x := by rw [hx]; exact nx_at hi
    rw [e, hf]
    have HB := hide (show digB x = (decide (48 ≤ x) && decide (x ≤ 57)) from rfl)
    obtain ⟨b, hb⟩ : ∃ b, b = digB x := ⟨_, rfl⟩
    rw [← hb] at HB ⊢
    clear hx e em hf hb h
    by_cases h1 : 48 ≤ x
    · have d1 : decide ((48 : Int) ≤ (x : Int)) = true := by simp; omega
      by_cases h2 : x ≤ 57
      · have d2 : decide ((x : Int) ≤ 57) = true := by simp; omega
        have hb : b = true := by rw [HB.out]; simp; omega
        subst hb
        go_enter Tryz.func52, Tryz.ntmps52
        go_wp2_with fail
        go_quiet ((go_at_call 53; exact Calls.quiet_of (HM.out _ (HPd.out _))))
        go_wp2_with fail
        go_ret
        exact ⟨rfl, _, rfl⟩
      · have d2 : decide ((x : Int) ≤ 57) = false := by simp; omega
        have hb : b = false := by rw [HB.out]; simp; omega
        subst hb
        go_enter Tryz.func52, Tryz.ntmps52
        go_wp2_with fail
        go_quiet ((go_at_call 53; exact Calls.quiet_of (HM.out _ (HPd.out _))))
        go_wp2_with fail
        go_ret
        exact ⟨rfl, _, rfl⟩
    · have d1 : decide ((48 : Int) ≤ (x : Int)) = false := by simp; omega
      have hb : b = false := by rw [HB.out]; simp; omega
      subst hb
      go_enter Tryz.func52, Tryz.ntmps52
      go_wp2_with fail
      go_quiet ((go_at_call 53; exact Calls.quiet_of (HM.out _ (HPd.out _))))
      go_wp2_with fail
      go_ret
      exact ⟨rfl, _, rfl⟩
  · have em : moreB S i f = false := by
      unfold moreB
      rw [Bool.and_eq_false_iff]
      by_cases hf : f.1 = 0
      · right; simp; omega
      · left; simpa using hf
    have er : (f.1 == 0 && digB (nx S i)) = false := by
      by_cases hf : f.1 = 0
      · rw [nx_past (by omega), hf]; rfl
      · have : (f.1 == 0) = false := by simpa using hf
        rw [this]; rfl
    rw [em] at HM
    rw [er]
    clear em er hm h
    go_enter Tryz.func52, Tryz.ntmps52
    go_wp2_with fail
    go_quiet ((go_at_call 53; exact Calls.quiet_of (HM.out _ (HPd.out _))))
    go_wp2_with fail
    go_ret
    exact ⟨rfl, _, rfl⟩
end Go.Proofs.YtmmbbndoimleaaaGreatDoor

/- hex of the reference's reader. -/
namespace Go.Proofs.YtmmbbndoimleaaaGreatDoor
open Go.RowKit

def HexPost (g : Nat) (S : ByteArray) (i : Nat) (w : World) (r : Option Nat) (e : Ending) (w' : World) : Prop :=
  match r with
  | some v => e = .returned (.int .i64 v) ∧ Rdr w' g S (i + 1) (0, 0) ∧ Px g w w'
  | none => e = .returned (.int .i64 0) ∧ Rdr w' g S i (19, (i : Int)) ∧ Px g w w'
set_option maxRecDepth 20000 in
set_option maxHeartbeats 1000000 in
theorem rhex_bad (S : ByteArray) (g i : Nat) (f : Flt) (w : World) (h : Rdr w g S i f) (hf : f.1 ≠ 0) :
    Calls Tryz.prog 91 #[.pointer (some ⟨g, 0, none⟩)] w fun e w' => e = .returned (.int .i64 0) ∧ Rdr w' g S i f ∧ Px g w w' := by
  have HM := hide fun V (h : Rdr V g S i f) => more_run S g i f V h
  have HF := hide fun V (h : Rdr V g S i f) => rfail_run S g i f 19 (i : Nat) V h
  have em : moreB S i f = false := by
    unfold moreB
    have : (f.1 == 0) = false := by simpa using hf
    rw [this]; rfl
  rw [em] at HM
  unfold keepF at HF
  rw [if_neg hf] at HF
  have HP := hide h
  clear em hf h
  go_enter Tryz.func91, Tryz.ntmps91
  go_wp2_with fail
  refine (HM.out _ HP.out).mono ?_; rintro e w1 ⟨rfl, n1, rfl⟩
  obtain ⟨c0, c1, c2, c3⟩ := (HP.out.drewN n1).cells
  go_wp2_with fail
  refine (HF.out _ (HP.out.drewN n1)).mono ?_; rintro e w2 ⟨rfl, hr, hx⟩
  have HR := hide hr
  have HX := hide ((Px.refl.drewN n1).trans hx)
  clear hr hx c0 c1 c2 c3
  go_wp2_with fail
  go_ret
  exact ⟨rfl, HR.out, HX.out⟩
theorem hex_cases {c : Nat} : (digB c = true ∧ hexV c = some (c - 48)) ∨ (97 ≤ c ∧ c ≤ 102 ∧ hexV c = some (c - 87)) ∨ (65 ≤ c ∧ c ≤ 70 ∧ hexV c = some (c - 55)) ∨ (¬ (48 ≤ c ∧ c ≤ 57) ∧ ¬ (97 ≤ c ∧ c ≤ 102) ∧ ¬ (65 ≤ c ∧ c ≤ 70) ∧ hexV c = none) := by
  unfold hexV
  by_cases h1 : digB c = true
  · exact .inl ⟨h1, by rw [if_pos h1]⟩
  rw [if_neg h1]
  have h1' : ¬ (48 ≤ c ∧ c ≤ 57) := fun h => h1 (by unfold digB; simp; omega)
  by_cases h2 : 97 ≤ c ∧ c ≤ 102
  · exact .inr (.inl ⟨h2.1, h2.2, by rw [if_pos h2]⟩)
  rw [if_neg h2]
  by_cases h3 : 65 ≤ c ∧ c ≤ 70
  · exact .inr (.inr (.inl ⟨h3.1, h3.2, by rw [if_pos h3]⟩))
  · rw [if_neg h3]; exact .inr (.inr (.inr ⟨h1', h2, h3, rfl⟩))
set_option maxRecDepth 20000 in
set_option maxHeartbeats 2000000 in
theorem rhex_run (S : ByteArray) (g i : Nat) (w : World) (h : Rdr w g S i (0, 0)) (hS : S.size ≤ 1000000000) :
    Calls Tryz.prog 91 #[.pointer (some ⟨g, 0, none⟩)] w (HexPost g S i w (hexV (nx S i))) := by
  have HM := hide fun V (h : Rdr V g S i (0, 0)) => more_run S g i (0, 0) V h
  have HF := hide fun V (h : Rdr V g S i (0, 0)) => rfail_run S g i (0, 0) 19 (i : Nat) V h
  have HP := hide h
  obtain ⟨r, hr⟩ : ∃ r, r = hexV (nx S i) := ⟨_, rfl⟩
  rw [← hr]
  by_cases his : i < S.size
  · have em : moreB S i (0, 0) = true := by unfold moreB; simpa using his
    rw [em] at HM
    obtain ⟨x, hx⟩ : ∃ x, x = (S[i]).toNat := ⟨_, rfl⟩
    have hx2 : x < 256 := by rw [hx]; exact (S[i]).toNat_lt
    have hS2 : (S[i]).toNat = x := hx.symm
    rw [show nx S i = x by rw [hx]; exact nx_at his] at hr
    clear hx em h
    rcases hex_cases (c := x) with ⟨h1, h2⟩ | ⟨h1, h1', h2⟩ | ⟨h1, h1', h2⟩ | ⟨h1, h1', h1'', h2⟩
    · rw [h2] at hr
      subst hr
      obtain ⟨k1, k2⟩ := dig_bounds h1
      have w1 : IntKind.u8.wrap ((x : Int) - 48) = ((x - 48 : Nat) : Int) := by rw [IntKind.wrap_u8]; omega
      have d1 : decide ((48 : Int) ≤ (x : Int)) = true := by simp; omega
      have d2 : decide ((x : Int) ≤ 57) = true := by simp; omega
      clear h1 h2
      go_enter Tryz.func91, Tryz.ntmps91
      go_wp2_with fail
      refine (HM.out _ HP.out).mono ?_; rintro e wz ⟨rfl, n1, hwz⟩
      have HPz := hide (show Rdr wz g S i (0, 0) by rw [hwz]; exact HP.out.drewN _)
      have HXz := hide (show Px g w wz by rw [hwz]; exact Px.refl.drewN _)
      clear hwz HP
      obtain ⟨c0, c1, c2, c3⟩ := HPz.out.cells
      obtain ⟨f1, f2, f3⟩ := HPz.out.free
      go_wp2_with fail
      go_quiet (fail)
      go_wp2_with fail
      go_ret
      exact ⟨ret_int (by omega), (HPz.out.drewN _).set_ (i + 1), (HXz.out.drewN _).set_ 1 _⟩
    · rw [h2] at hr
      subst hr
      have w1 : IntKind.u8.wrap ((x : Int) - 97) = ((x - 97 : Nat) : Int) := by rw [IntKind.wrap_u8]; omega
      have w2 : IntKind.i64.wrap (((x - 97 : Nat) : Int) + 10) = ((x - 87 : Nat) : Int) := by rw [IntWalk.i64_in _ (by omega)]; omega
      have d1 : decide ((48 : Int) ≤ (x : Int)) = true := by simp; omega
      have d2 : decide ((x : Int) ≤ 57) = false := by simp; omega
      have d3 : decide ((97 : Int) ≤ (x : Int)) = true := by simp; omega
      have d4 : decide ((x : Int) ≤ 102) = true := by simp; omega
      clear h2
      go_enter Tryz.func91, Tryz.ntmps91
      go_wp2_with fail
      refine (HM.out _ HP.out).mono ?_; rintro e wz ⟨rfl, n1, hwz⟩
      have HPz := hide (show Rdr wz g S i (0, 0) by rw [hwz]; exact HP.out.drewN _)
      have HXz := hide (show Px g w wz by rw [hwz]; exact Px.refl.drewN _)
      clear hwz HP
      obtain ⟨c0, c1, c2, c3⟩ := HPz.out.cells
      obtain ⟨f1, f2, f3⟩ := HPz.out.free
      go_wp2_with fail
      go_quiet (fail)
      go_wp2_with fail
      go_ret
      exact ⟨ret_int (by omega), (HPz.out.drewN _).set_ (i + 1), (HXz.out.drewN _).set_ 1 _⟩
    · rw [h2] at hr
      subst hr
      have w1 : IntKind.u8.wrap ((x : Int) - 65) = ((x - 65 : Nat) : Int) := by rw [IntKind.wrap_u8]; omega
      have w2 : IntKind.i64.wrap (((x - 65 : Nat) : Int) + 10) = ((x - 55 : Nat) : Int) := by rw [IntWalk.i64_in _ (by omega)]; omega
      have d1 : decide ((48 : Int) ≤ (x : Int)) = true := by simp; omega
      have d2 : decide ((x : Int) ≤ 57) = false := by simp; omega
      have d3 : decide ((97 : Int) ≤ (x : Int)) = false := by simp; omega
      have d4 : decide ((65 : Int) ≤ (x : Int)) = true := by simp; omega
      have d5 : decide ((x : Int) ≤ 70) = true := by simp; omega
      clear h2
      go_enter Tryz.func91, Tryz.ntmps91
      go_wp2_with fail
      refine (HM.out _ HP.out).mono ?_; rintro e wz ⟨rfl, n1, hwz⟩
      have HPz := hide (show Rdr wz g S i (0, 0) by rw [hwz]; exact HP.out.drewN _)
      have HXz := hide (show Px g w wz by rw [hwz]; exact Px.refl.drewN _)
      clear hwz HP
      obtain ⟨c0, c1, c2, c3⟩ := HPz.out.cells
      obtain ⟨f1, f2, f3⟩ := HPz.out.free
      go_wp2_with fail
      go_quiet (fail)
      go_wp2_with fail
      go_ret
      exact ⟨ret_int (by omega), (HPz.out.drewN _).set_ (i + 1), (HXz.out.drewN _).set_ 1 _⟩
    · rw [h2] at hr
      subst hr
      have HD := hide (And.intro h1 (And.intro h1' h1''))
      clear h1 h1' h1'' h2
      go_enter Tryz.func91, Tryz.ntmps91
      go_wp2_with fail
      refine (HM.out _ HP.out).mono ?_; rintro e wz ⟨rfl, n1, hwz⟩
      have HPz := hide (show Rdr wz g S i (0, 0) by rw [hwz]; exact HP.out.drewN _)
      have HXz := hide (show Px g w wz by rw [hwz]; exact Px.refl.drewN _)
      clear hwz HP
      obtain ⟨c0, c1, c2, c3⟩ := HPz.out.cells
      obtain ⟨f1, f2, f3⟩ := HPz.out.free
      have w3 : IntKind.i64.wrap ((i : Int) + 1 - 1) = (i : Int) := by rw [IntWalk.i64_in _ (by omega)]; omega
      by_cases a1 : x < 48
      · have d1 : decide ((48 : Int) ≤ (x : Int)) = false := by simp; omega
        have d2 : decide ((97 : Int) ≤ (x : Int)) = false := by simp; omega
        have d3 : decide ((65 : Int) ≤ (x : Int)) = false := by simp; omega
        go_wp2_with fail
        go_quiet (fail)
        go_wp2_with fail
        have HP9 := hide (((HPz.out.drewN nq).set_ (i + 1)).set_ i)
        refine (HF.out _ HP9.out).mono ?_; rintro e w2 ⟨rfl, hr, hx⟩
        have HR := hide hr
        have HX := hide ((((HXz.out.drewN nq).set_ 1 _).set_ 1 _).trans hx)
        clear hr hx c0 c1 c2 c3 f1 f2 f3 HP9
        go_wp2_with fail
        go_ret
        exact ⟨rfl, HR.out, HX.out⟩
      have e1 : 57 < x := by have := HD.out.1; omega
      have d1 : decide ((48 : Int) ≤ (x : Int)) = true := by simp; omega
      have d2 : decide ((x : Int) ≤ 57) = false := by simp; omega
      by_cases a2 : x < 65
      · have d3 : decide ((97 : Int) ≤ (x : Int)) = false := by simp; omega
        have d4 : decide ((65 : Int) ≤ (x : Int)) = false := by simp; omega
        go_wp2_with fail
        go_quiet (fail)
        go_wp2_with fail
        have HP9 := hide (((HPz.out.drewN nq).set_ (i + 1)).set_ i)
        refine (HF.out _ HP9.out).mono ?_; rintro e w2 ⟨rfl, hr, hx⟩
        have HR := hide hr
        have HX := hide ((((HXz.out.drewN nq).set_ 1 _).set_ 1 _).trans hx)
        clear hr hx c0 c1 c2 c3 f1 f2 f3 HP9
        go_wp2_with fail
        go_ret
        exact ⟨rfl, HR.out, HX.out⟩
      have e2 : 70 < x := by have := HD.out.2.2; omega
      have d3 : decide ((65 : Int) ≤ (x : Int)) = true := by simp; omega
      have d4 : decide ((x : Int) ≤ 70) = false := by simp; omega
      by_cases a3 : x < 97
      · have d5 : decide ((97 : Int) ≤ (x : Int)) = false := by simp; omega
        go_wp2_with fail
        go_quiet (fail)
        go_wp2_with fail
        have HP9 := hide (((HPz.out.drewN nq).set_ (i + 1)).set_ i)
        refine (HF.out _ HP9.out).mono ?_; rintro e w2 ⟨rfl, hr, hx⟩
        have HR := hide hr
        have HX := hide ((((HXz.out.drewN nq).set_ 1 _).set_ 1 _).trans hx)
        clear hr hx c0 c1 c2 c3 f1 f2 f3 HP9
        go_wp2_with fail
        go_ret
        exact ⟨rfl, HR.out, HX.out⟩
      have e3 : 102 < x := by have := HD.out.2.1; omega
      have d5 : decide ((97 : Int) ≤ (x : Int)) = true := by simp; omega
      have d6 : decide ((x : Int) ≤ 102) = false := by simp; omega
      go_wp2_with fail
      go_quiet (fail)
      go_wp2_with fail
      have HP9 := hide (((HPz.out.drewN nq).set_ (i + 1)).set_ i)
      refine (HF.out _ HP9.out).mono ?_; rintro e w2 ⟨rfl, hr, hx⟩
      have HR := hide hr
      have HX := hide ((((HXz.out.drewN nq).set_ 1 _).set_ 1 _).trans hx)
      clear hr hx c0 c1 c2 c3 f1 f2 f3 HP9
      go_wp2_with fail
      go_ret
      exact ⟨rfl, HR.out, HX.out⟩
  · have em : moreB S i (0, 0) = false := by unfold moreB; simpa using his
    rw [em] at HM
    rw [nx_past his] at hr
    subst hr
    clear em h
    go_enter Tryz.func91, Tryz.ntmps91
    go_wp2_with fail
    refine (HM.out _ HP.out).mono ?_; rintro e wz ⟨rfl, n1, hwz⟩
    have HPz := hide (show Rdr wz g S i (0, 0) by rw [hwz]; exact HP.out.drewN _)
    have HXz := hide (show Px g w wz by rw [hwz]; exact Px.refl.drewN _)
    clear hwz HP
    obtain ⟨c0, c1, c2, c3⟩ := HPz.out.cells
    obtain ⟨f1, f2, f3⟩ := HPz.out.free
    go_wp2_with fail
    refine (HF.out _ HPz.out).mono ?_; rintro e w2 ⟨rfl, hr, hx⟩
    have HR := hide hr
    have HX := hide (HXz.out.trans hx)
    clear hr hx c0 c1 c2 c3
    go_wp2_with fail
    go_ret
    exact ⟨rfl, HR.out, HX.out⟩
end Go.Proofs.YtmmbbndoimleaaaGreatDoor
