/- The text of the reference: the plain part: digits, and texts between commas; Letter, Digit, written, Quote, Words, Ident and Label of the reference; Two texts are equal exactly if the data is: plain; abs, Digits and Text of a number in the reference; text and Text of the reference. -/
import Derived.Test.YtajpgmacabeeeaaDoorGF
import Derived.Test.YtajpgmacabeeeaaDoorGP
import Derived.Test.YtajpgmacabeeeaaDoorGO
import Derived.Test.YtajpgmacabeeeaaDoorGB
import Derived.Deep.RegionHeld3

/- The text of the reference: the plain part: digits, and texts between commas. -/
namespace Go.Proofs.YtajpgmacabeeeaaDoor
open Go.RowKit Go.Shelf

/-- Digits of the reference. -/
def digF : Nat → Nat → Nat → List UInt8 → List UInt8
  | 0, _, _, s => s
  | f + 1, n, l, s => if 0 < n ∨ s.length < l then digF f (n / 10) l (UInt8.ofNat (48 + n % 10) :: s) else s
theorem digF_one : ∀ (f n : Nat) (s : List UInt8), n < 10 ^ f → s ≠ [] → digF f n 1 s = (if n = 0 then s else Lib.decDigits n ++ s)
  | 0, n, s, h, hs => by
    have : n = 0 := by simpa using h
    subst this; rfl
  | f + 1, n, s, h, hs => by
    unfold digF
    have hl : ¬ s.length < 1 := by
      cases s with
      | nil => exact absurd rfl hs
      | cons x s => simp
    by_cases h0 : n = 0
    · subst h0; rw [if_neg (by omega), if_pos rfl]
    · rw [if_pos (.inl (by omega)), digF_one f (n / 10) _ (by rw [Nat.pow_succ] at h; omega) (by simp), if_neg h0]
      by_cases h1 : n < 10
      · rw [if_pos (by omega), Lib.decDigits_one h1, Nat.mod_eq_of_lt h1]; rfl
      · have hd : Lib.decDigits n = Lib.decDigits (n / 10) ++ [UInt8.ofNat (48 + n % 10)] := by rw [Lib.decDigits, dif_neg h1]
        rw [if_neg (by omega), hd]; simp
theorem digF_dec (n : Nat) (h : n < 10000000000000000000) : digF 20 n 1 [] = Lib.decDigits n := by
  show (if 0 < n ∨ ([] : List UInt8).length < 1 then digF 19 (n / 10) 1 [UInt8.ofNat (48 + n % 10)] else []) = _
  rw [if_pos (.inr (by simp)), digF_one 19 (n / 10) _ (by omega) (by simp)]
  by_cases h1 : n < 10
  · rw [if_pos (by omega), Lib.decDigits_one h1, Nat.mod_eq_of_lt h1]
  · have hd : Lib.decDigits n = Lib.decDigits (n / 10) ++ [UInt8.ofNat (48 + n % 10)] := by rw [Lib.decDigits, dif_neg h1]
    rw [if_neg (by omega), hd]
theorem dec_split {n : Nat} (h : ¬ n < 10) : Lib.decDigits n = Lib.decDigits (n / 10) ++ [UInt8.ofNat (48 + n % 10)] := by rw [Lib.decDigits, dif_neg h]
theorem dec_five (n : Nat) (h : n < 10000) : Lib.decDigits (n + 10000) = [49, UInt8.ofNat (48 + n / 1000), UInt8.ofNat (48 + n / 100 % 10), UInt8.ofNat (48 + n / 10 % 10), UInt8.ofNat (48 + n % 10)] := by
  rw [dec_split (by omega), dec_split (by omega), dec_split (by omega), dec_split (by omega), Lib.decDigits_one (by omega)]
  have e1 : (n + 10000) / 10 / 10 / 10 / 10 = 1 := by omega
  have e2 : (n + 10000) / 10 / 10 / 10 % 10 = n / 1000 := by omega
  have e3 : (n + 10000) / 10 / 10 % 10 = n / 100 % 10 := by omega
  have e4 : (n + 10000) / 10 % 10 = n / 10 % 10 := by omega
  have e5 : (n + 10000) % 10 = n % 10 := by omega
  rw [e1, e2, e3, e4, e5]; rfl
theorem digF_four (n : Nat) (h : n < 10000) : digF 20 n 4 [] = (Lib.decDigits (n + 10000)).drop 1 := by
  rw [dec_five n h]
  unfold digF; rw [if_pos (.inr (by simp))]
  unfold digF; rw [if_pos (.inr (by simp))]
  unfold digF; rw [if_pos (.inr (by simp))]
  unfold digF; rw [if_pos (.inr (by simp))]
  unfold digF
  rw [if_neg (by simp; omega)]
  have e2 : n / 10 / 10 / 10 % 10 = n / 1000 := by omega
  have e3 : n / 10 / 10 % 10 = n / 100 % 10 := by omega
  rw [e2, e3]; rfl
theorem digF_len : ∀ (f n l : Nat) (s : List UInt8), (digF f n l s).length ≤ f + s.length
  | 0, _, _, _ => by simp [digF]
  | f + 1, n, l, s => by
    unfold digF
    split
    · have := digF_len f (n / 10) l (UInt8.ofNat (48 + n % 10) :: s)
      rw [List.length_cons] at this; omega
    · omega
/-- Trimmed away means all were zeros. -/
theorem trim_none : ∀ (n : Nat) (s : ByteArray), s.size = n → (trimF n s).toList = [] → ∀ i, i < n → s.get! i = 48
  | 0, s, _, _, i, hi => by omega
  | n + 1, s, hs, h, i, hi => by
    unfold trimF at h
    split at h
    · rename_i h48
      rcases Nat.lt_or_ge i n with h1 | h1
      · have := trim_none n (s.extract 0 n) (by rw [ByteArray.size_extract]; omega) h i h1
        have e : (s.extract 0 n).get! i = s.get! i := by
          rw [get_eq _ i (by rw [ByteArray.size_extract]; omega), get_eq s i (by omega), ByteArray.getElem_extract]
          simp
        rw [← e]; exact this
      · obtain rfl : i = n := by omega
        exact h48
    · rw [Lib.toList_data] at h
      have h2 : s.data.toList.length = s.size := by rw [Array.length_toList]; rfl
      rw [h] at h2; simp at h2; omega
theorem frac_some {r : Nat} (h : r < 10000) (h0 : r ≠ 0) : (fracB r).toList ≠ [] := by
  intro e
  unfold fracB trimB at e
  have hs : ((decB (r + 10000)).extract 1 (decB (r + 10000)).size).size = 4 := by
    have : (decB (r + 10000)).size = 5 := by rw [decB_size]; exact Lib.nDigits_unique 4 _ (by omega) (by omega)
    rw [ByteArray.size_extract]; omega
  have hd : (decB (r + 10000)).extract 1 (decB (r + 10000)).size = ⟨#[UInt8.ofNat (48 + r / 1000), UInt8.ofNat (48 + r / 100 % 10), UInt8.ofNat (48 + r / 10 % 10), UInt8.ofNat (48 + r % 10)]⟩ := by
    unfold decB; rw [dec_five r h]; rfl
  have key := trim_none _ _ rfl e
  rw [hs, hd] at key
  have k0 := key 0 (by omega); have k1 := key 1 (by omega); have k2 := key 2 (by omega); have k3 := key 3 (by omega)
  have f : ∀ x : Nat, x < 10 → UInt8.ofNat (48 + x) = 48 → x = 0 := by
    intro x hx hh
    have := congrArg UInt8.toNat hh
    simp at this; omega
  have a0 := f (r / 1000) (by omega) k0
  have a1 := f (r / 100 % 10) (by omega) k1
  have a2 := f (r / 10 % 10) (by omega) k2
  have a3 := f (r % 10) (by omega) k3
  omega
theorem frac_zero : fracB 0 = ByteArray.empty := by
  have : (decB (0 + 10000)).extract 1 (decB (0 + 10000)).size = ⟨#[48, 48, 48, 48]⟩ := by
    unfold decB; rw [dec_five 0 (by omega)]; rfl
  unfold fracB; rw [this]; rfl

/-- Texts with commas between. -/
def comB (l : List ByteArray) : ByteArray := ⟨(Lib.join (l.map (·.data.toList)) [44, 32]).toArray⟩
theorem comB_nil : comB [] = ByteArray.empty := rfl
theorem joinTail_append (a b : List (List UInt8)) (sep : List UInt8) : Lib.joinTail sep (a ++ b) = Lib.joinTail sep a ++ Lib.joinTail sep b := by simp [Lib.joinTail]
theorem comB_push (l : List ByteArray) (t : ByteArray) : comB (l ++ [t]) = (if 0 < l.length then comB l ++ ⟨#[44, 32]⟩ else comB l) ++ t := by
  cases l with
  | nil =>
    show comB [t] = ByteArray.empty ++ t
    rw [ByteArray.empty_append]
    unfold comB
    simp [Lib.join_one]
  | cons x l =>
    rw [if_pos (by simp)]
    unfold comB
    refine ByteArray.ext (Array.toList_inj.1 ?_)
    simp only [List.cons_append, List.map_cons, List.map_append, List.map_nil, Lib.join_cons, joinTail_append, ByteArray.data_append, Array.toList_append]
    simp [Lib.joinTail]
theorem comB_size (l : List ByteArray) : (comB l).size ≤ sumN (fun x => x.size + 2) l := by
  have : (comB l).size = (Lib.join (l.map (·.data.toList)) [44, 32]).length := by unfold comB; show (_ : List UInt8).toArray.size = _; simp
  rw [this]; exact join_le l
theorem sumN_take {α : Type} (f : α → Nat) : ∀ (l : List α) (i : Nat), sumN f (l.take i) ≤ sumN f l
  | [], i => by simp
  | x :: l, 0 => by simp [sumN]
  | x :: l, i + 1 => by rw [List.take_succ_cons, sumN, sumN]; have := sumN_take f l i; omega
end Go.Proofs.YtajpgmacabeeeaaDoor

/- Letter, Digit, written, Quote, Words, Ident and Label of the reference. -/
namespace Go.Proofs.YtajpgmacabeeeaaDoor
open Go.RowKit Go.Shelf

theorem refLetter_run (b : Nat) (w : World) : Calls Tryd.prog 107 #[.int .u8 b] w fun e w' => e = .returned (.bool (letterN b)) ∧ w = w' := by
  go_enter Tryd.func107, Tryd.ntmps107
  go_wp2_with fail
  all_goals
    go_ret
    refine ⟨ret_bool ?_, rfl⟩
    unfold letterN
    first
      | (rw [Bool.eq_iff_iff]; simp; omega)
      | (simp; omega)
def digitN (b : Nat) : Bool := decide (48 ≤ b) && decide (b ≤ 57)
theorem refDigit_run (b : Nat) (w : World) : Calls Tryd.prog 108 #[.int .u8 b] w fun e w' => e = .returned (.bool (digitN b)) ∧ w = w' := by
  go_enter Tryd.func108, Tryd.ntmps108
  go_wp2_with fail
  all_goals
    go_ret
    refine ⟨ret_bool ?_, rfl⟩
    unfold digitN
    first
      | (rw [Bool.eq_iff_iff]; simp; omega)
      | (simp; omega)
theorem conv_one (w : World) (n : Nat) (hn : n < 256) : (convert 87 9 (.slice (some ⟨w.heap.size, 0, none⟩) 1 1)).run Tryd.prog (w.alloc (Obj.cells #[.int .u8 (n : Int)] 5)) = .ok (.string ⟨#[UInt8.ofNat n]⟩) (w.alloc (Obj.cells #[.int .u8 (n : Int)] 5)) := by
  have e : (UInt8.ofNat n).toNat = n := by simp; omega
  exact run_convert_bytes_back (P := Tryd.prog) _ 87 9 5 ⟨w.heap.size, 0, none⟩ 1 [UInt8.ofNat n] Tryd.underlying87 Tryd.underlying5 Tryd.underlying9 (fun j hj => by
    have : j = 0 := by simpa using hj
    subst this
    show _ = some (Value.int .u8 (((UInt8.ofNat n).toNat : Nat) : Int))
    rw [e, add_head, World.cell?_alloc_mark]; rfl)
theorem hex_slice64 (h : Nat) (hh : h < 16) (W : World) :
    (Instr.sliceAt 9 (.string ⟨#[48, 49, 50, 51, 52, 53, 54, 55, 56, 57, 97, 98, 99, 100, 101, 102]⟩) (some (.int .i64 (h : Int))) (some (.int .i64 ((h : Int) + 1))) none).run Tryd.prog W = .ok (.string ⟨#[hexN h]⟩) W := by
  have : ∀ h : Fin 16, (Instr.sliceAt 9 (.string ⟨#[48, 49, 50, 51, 52, 53, 54, 55, 56, 57, 97, 98, 99, 100, 101, 102]⟩) (some (.int .i64 ((h : Nat) : Int))) (some (.int .i64 (((h : Nat) : Int) + 1))) none).run Tryd.prog W = .ok (.string ⟨#[hexN h]⟩) W := by
    intro h
    obtain ⟨h, hh⟩ := h
    match h, hh with
    | 0, _ => go_simp; rfl
    | 1, _ => go_simp; rfl
    | 2, _ => go_simp; rfl
    | 3, _ => go_simp; rfl
    | 4, _ => go_simp; rfl
    | 5, _ => go_simp; rfl
    | 6, _ => go_simp; rfl
    | 7, _ => go_simp; rfl
    | 8, _ => go_simp; rfl
    | 9, _ => go_simp; rfl
    | 10, _ => go_simp; rfl
    | 11, _ => go_simp; rfl
    | 12, _ => go_simp; rfl
    | 13, _ => go_simp; rfl
    | 14, _ => go_simp; rfl
    | 15, _ => go_simp; rfl
    | n + 16, h => omega
  exact this ⟨h, hh⟩

set_option maxRecDepth 20000 in
set_option maxHeartbeats 1000000 in
theorem written_run (b : Nat) (hb : b < 256) (w : World) : Calls Tryd.prog 94 #[.int .u8 b] w fun e w' => e = .returned (.string (escN b)) ∧ Below w.heap.size w w' := by
  go_enter Tryd.func94, Tryd.ntmps94
  by_cases h1 : b = 34 ∨ b = 92
  · rcases h1 with rfl | rfl
    · go_wp2_with fail
      go_ret
      exact ⟨ret_str (by decide), Below.refl _ _⟩
    · go_wp2_with fail
      go_ret
      exact ⟨ret_str (by decide), Below.refl _ _⟩
  · by_cases h2 : b < 32 ∨ 126 < b
    · by_cases h3 : b = 10
      · subst h3
        go_wp2_with fail
        go_ret
        exact ⟨rfl, Below.refl _ _⟩
      · by_cases h4 : b = 9
        · subst h4
          go_wp2_with fail
          go_ret
          exact ⟨rfl, Below.refl _ _⟩
        · by_cases h5 : b = 13
          · subst h5
            go_wp2_with fail
            go_ret
            exact ⟨rfl, Below.refl _ _⟩
          · have g1 : ((b : Int) == 34) = false := by simp; omega
            have g2 : ((b : Int) == 92) = false := by simp; omega
            have g3 : ((b : Int) == 10) = false := by simp; omega
            have g4 : ((b : Int) == 9) = false := by simp; omega
            have g5 : ((b : Int) == 13) = false := by simp; omega
            have he : escN b = ⟨#[92, 120, hexN (b / 16), hexN (b % 16)]⟩ := by
              unfold escN; rw [if_neg h1, if_neg h3, if_neg h4, if_neg h5, if_pos h2]
            have hg : (decide ((b : Int) < 32) = true ∧ True) ∨ (decide ((b : Int) < 32) = false ∧ decide ((b : Int) > 126) = true) := by
              rcases h2 with h | h
              · exact .inl ⟨by simp; omega, trivial⟩
              · exact .inr ⟨by simp; omega, by simp; omega⟩
            obtain ⟨hi, hhi⟩ : ∃ hi, hi = b / 16 := ⟨_, rfl⟩
            obtain ⟨lo, hlo⟩ : ∃ hi, hi = b % 16 := ⟨_, rfl⟩
            have e0 : IntKind.i64.wrap (b : Int) = (b : Int) := IntWalk.i64_in _ (by omega)
            have e1 : (b : Int).tdiv 16 = (hi : Int) := by rw [Int.tdiv_eq_ediv_of_nonneg (by omega)]; omega
            have e2 : (b : Int).tmod 16 = (lo : Int) := by rw [Int.tmod_eq_emod_of_nonneg (by omega)]; omega
            have l1 : hi < 16 := by omega
            have l2 : lo < 16 := by omega
            have e3 : IntKind.i64.wrap ((hi : Int) + 1) = (hi : Int) + 1 := IntWalk.i64_in _ (by omega)
            have e4 : IntKind.i64.wrap ((lo : Int) + 1) = (lo : Int) + 1 := IntWalk.i64_in _ (by omega)
            have e5 : IntKind.i64.wrap (hi : Int) = (hi : Int) := IntWalk.i64_in _ (by omega)
            have e6 : IntKind.i64.wrap (lo : Int) = (lo : Int) := IntWalk.i64_in _ (by omega)
            have e7 : (b : Int) / 16 = (hi : Int) := by omega
            have e8 : (b : Int) % 16 = (lo : Int) := by omega
            rw [← hhi, ← hlo] at he
            have HE := Lib.hid he
            clear he h1 h2 h3 h4 h5 hhi hlo
            rcases hg with ⟨g6, g7⟩ | ⟨g6, g7⟩
            all_goals
              have hs1 := fun W => hex_slice64 hi l1 W
              have hs2 := fun W => hex_slice64 lo l2 W
              go_wp2_with fail
              go_quiet (fail)
              go_wp2_with fail
              go_ret
              exact ⟨ret_str (by rw [HE.out]; exact ByteArray.ext rfl), below_drewN (Below.refl _ _) _⟩
    · have he : escN b = ⟨#[UInt8.ofNat b]⟩ := by
        unfold escN; rw [if_neg h1, if_neg (by omega), if_neg (by omega), if_neg (by omega), if_neg h2]
      have HE := Lib.hid he
      have g1 : ((b : Int) == 34) = false := by simp; omega
      have g2 : ((b : Int) == 92) = false := by simp; omega
      have g3 : ((b : Int) == 10) = false := by simp; omega
      have g4 : ((b : Int) == 9) = false := by simp; omega
      have g5 : ((b : Int) == 13) = false := by simp; omega
      have g6 : decide ((b : Int) < 32) = false := by simp; omega
      have g7 : decide ((b : Int) > 126) = false := by simp; omega
      have hcv := conv_one w b hb
      clear he
      go_wp2_with fail
      go_ret
      exact ⟨ret_str (by rw [HE.out]), below_al (Below.refl _ _) _⟩

/-- The literal up to a byte. -/
def qpre (S : ByteArray) (i : Nat) : ByteArray := ⟨(fB (uptoL (fun j => escZ (S.get! j).toNat) i)).toArray⟩
theorem qpre_zero (S : ByteArray) : qpre S 0 = ⟨#[34]⟩ := rfl
theorem qpre_succ (S : ByteArray) (i : Nat) : qpre S (i + 1) = qpre S i ++ escN (S.get! i).toNat := by
  refine ByteArray.ext (Array.toList_inj.1 ?_)
  rw [ByteArray.data_append, Array.toList_append]
  unfold qpre
  rw [uptoL_succ, fB_def, fB_def]
  simp [escZ]
theorem qpre_all (S : ByteArray) : qpre S S.size ++ ⟨#[34]⟩ = quoteB S := by
  refine ByteArray.ext (Array.toList_inj.1 ?_)
  rw [ByteArray.data_append, Array.toList_append]
  unfold qpre quoteB escL
  rw [fB_def]
theorem qpre_size (S : ByteArray) (i : Nat) : (qpre S i).size ≤ 1 + 4 * i := by
  have h := fB_len (uptoL (fun j => escZ (S.get! j).toNat) i)
  rw [uptoL_length] at h
  unfold qpre
  show (_ : List UInt8).toArray.size ≤ _
  simpa using h

set_option maxRecDepth 20000 in
set_option maxHeartbeats 1000000 in
theorem refQuote_run (S : ByteArray) (hS : S.size ≤ 1000000000) (w : World) : Calls Tryd.prog 78 #[.string S] w fun e w' => e = .returned (.string (quoteB S)) ∧ Below w.heap.size w w' := by
  have HW := hide fun (b : Nat) (hb : b < 256) w => written_run b hb w
  go_enter Tryd.func78, Tryd.ntmps78
  go_wp2_with fail
  go_loopw [3, 4] (fun ov iv wr => ∃ (i : Nat) (O : ByteArray), iv = .int .i64 i ∧ ov = .string O ∧ i ≤ S.size ∧ O.size ≤ 1 + 4 * i ∧ Hid (O = qpre S i) ∧ Hid (Below w.heap.size w wr)) (fun _ iv _ => S.size - (intOf iv).toNat)
  case atStart => exact ⟨0, ⟨#[34]⟩, rfl, rfl, Nat.zero_le _, by decide, hide rfl, hide (Below.refl _ _)⟩
  case round =>
    obtain ⟨i, O, rfl, rfl, hi, hO, hI, hB⟩ := hrel
    by_cases hlt : i < S.size
    · have hgk : (S.get! i).toNat = S[i].toNat := by rw [get_eq S i hlt]
      obtain ⟨c, hcc⟩ : ∃ c, c = S[i].toNat := ⟨_, rfl⟩
      have hc2 : (S[i].toNat : Int) = (c : Int) := by rw [hcc]
      have hc3 : c < 256 := by rw [hcc]; exact UInt8.toNat_lt _
      rw [← hcc] at hgk
      have HX := hide (show O ++ escN c = qpre S (i + 1) by rw [qpre_succ, hI.out, hgk])
      have HWC := hide (HW.out c hc3 wr)
      have hes : (escN c).size ≤ 4 := escN_size c
      obtain ⟨E, hE⟩ : ∃ E, E = escN c := ⟨_, rfl⟩
      rw [← hE] at HX HWC hes
      clear hcc hgk hI hE
      go_wp2_with fail
      refine HWC.out.mono ?_; rintro e w2 ⟨rfl, hB2⟩
      have HB2 := hide (hB.out.trans (hB2.mono hB.out.size))
      have hsz : (O ++ E).size ≤ 1 + 4 * (i + 1) := by rw [ByteArray.size_append]; omega
      have HSZ := hide hsz
      clear hB2 hB HWC hsz
      go_wp2_with fail
      go_roundw
      case rel => exact ⟨i + 1, O ++ E, by go_num, rfl, by omega, HSZ.out, HX, HB2⟩
      case measure => simp [intOf]; omega
    · obtain rfl : i = S.size := by omega
      have HX := hide (show O ++ ⟨#[34]⟩ = quoteB S by rw [hI.out, qpre_all])
      clear hI
      go_wp2_with fail
      go_ret
      exact ⟨ret_str HX.out, hB.out⟩

theorem Words_run (w : World) : Calls Tryd.prog 106 #[] w fun e w' => e = .returned (.slice (some ⟨w.heap.size, 0, none⟩) 13 13) ∧ w' = w.alloc (Obj.cells ((wordsL.map Value.string).toArray) 9) := by
  go_enter Tryd.func106, Tryd.ntmps106
  go_wp2_with fail
  go_ret
  exact ⟨rfl, rfl⟩

def idFrom (S : ByteArray) (p : Nat) : Bool := (List.range (S.size - p)).all fun j => idChar (S.get! (p + j)).toNat
theorem ext_get (S : ByteArray) (p j : Nat) (hj : p + j < S.size) : (S.extract p S.size).get! j = S.get! (p + j) := by
  rw [get_eq _ j (by rw [ByteArray.size_extract]; omega), get_eq S (p + j) hj, ByteArray.getElem_extract]
theorem ext_zero (S : ByteArray) : S.extract 0 S.size = S := by
  refine ByteArray.ext (Array.toList_inj.1 ?_)
  rw [ByteArray.data_extract]
  simp
  exact List.take_of_length_le (by rw [Array.length_toList]; exact Nat.le_refl _)
theorem identT_ext (S : ByteArray) (p : Nat) : identT (S.extract p S.size) = (decide (p < S.size) && letterN (S.get! p).toNat && idFrom S p) := by
  by_cases hp : p < S.size
  · have hs : (S.extract p S.size).size = S.size - p := by rw [ByteArray.size_extract]; omega
    have hall : idAll (S.extract p S.size) = idFrom S p := by
      unfold idAll idFrom
      rw [hs, Bool.eq_iff_iff, List.all_eq_true, List.all_eq_true]
      constructor
      · intro h j hj
        have := h j hj
        rwa [ext_get S p j (by have := List.mem_range.1 hj; omega)] at this
      · intro h j hj
        rw [ext_get S p j (by have := List.mem_range.1 hj; omega)]
        exact h j hj
    have hg := ext_get S p 0 (by omega)
    rw [Nat.add_zero] at hg
    unfold identT
    rw [hall, hg, hs, decide_eq_true hp, decide_eq_true (show 0 < S.size - p by omega)]
  · unfold identT
    have hs : (S.extract p S.size).size = 0 := by rw [ByteArray.size_extract]; omega
    rw [hs, decide_eq_false hp, decide_eq_false (show ¬ 0 < 0 by omega), Bool.false_and, Bool.false_and, Bool.false_and, Bool.false_and]
theorem from_yes {S : ByteArray} {p : Nat} (h : ∀ j, p ≤ j → j < S.size → idChar (S.get! j).toNat = true) : idFrom S p = true := by
  unfold idFrom
  rw [List.all_eq_true]
  intro j hj
  exact h (p + j) (by omega) (by have := List.mem_range.1 hj; omega)
theorem from_no {S : ByteArray} {p k : Nat} (hp : p ≤ k) (hk : k < S.size) (h : idChar (S.get! k).toNat = false) : idFrom S p = false := by
  unfold idFrom
  rw [List.all_eq_false]
  refine ⟨k - p, List.mem_range.2 (by omega), ?_⟩
  rw [show p + (k - p) = k by omega, h]; decide
theorem from_up {S : ByteArray} {p k : Nat} (h : ∀ j, p ≤ j → j < k → idChar (S.get! j).toNat = true) (hk : idChar (S.get! k).toNat = true) : ∀ j, p ≤ j → j < k + 1 → idChar (S.get! j).toNat = true := fun j h1 hj => by
  rcases Nat.lt_or_ge j k with h2 | h2
  · exact h j h1 h2
  · obtain rfl : j = k := by omega
    exact hk
theorem has_yes {S : ByteArray} {i : Nat} (hi : i < 13) (h : (S.toList == (wordsL.getD i ByteArray.empty).toList) = true) : Lib.containsS wordsL S = true := by
  have e : S = wordsL.getD i ByteArray.empty := by
    rw [beq_iff_eq, ByteArray.toList_eq, ByteArray.toList_eq, Array.toList_inj] at h
    exact ByteArray.ext h
  rw [Lib.containsS_iff]
  subst e
  have : i < wordsL.length := hi
  rw [List.getD_eq_getElem?_getD, List.getElem?_eq_getElem this]
  exact List.getElem_mem this
theorem has_no {S : ByteArray} (h : ∀ j, j < 13 → (S.toList == (wordsL.getD j ByteArray.empty).toList) = false) : Lib.containsS wordsL S = false := by
  rw [← Bool.not_eq_true, Lib.containsS_iff]
  intro hm
  obtain ⟨j, hj, e⟩ := List.mem_iff_getElem.1 hm
  have h2 := h j hj
  rw [List.getD_eq_getElem?_getD, List.getElem?_eq_getElem hj] at h2
  simp [e] at h2

set_option maxRecDepth 100000 in
set_option maxHeartbeats 8000000 in
theorem refIdent_run (S : ByteArray) (hS : S.size ≤ 1000000000) (w : World) : Calls Tryd.prog 95 #[.string S] w fun e w' => e = .returned (.bool (identB S)) ∧ Below w.heap.size w w' := by
  have HWD := hide fun w => Words_run w
  have HL := hide fun b w => refLetter_run b w
  have HD := hide fun b w => refDigit_run b w
  obtain ⟨res, hres⟩ : ∃ r, r = identB S := ⟨_, rfl⟩
  rw [← hres]
  unfold identB at hres
  have HID := Lib.hid hres
  clear hres
  go_enter Tryd.func95, Tryd.ntmps95
  by_cases h0 : S.size < 1
  · have HZ := hide (show res = false by rw [HID.out]; simp [headB, identT, show S.size = 0 by omega])
    have g1 : decide ((S.size : Int) < 1) = true := by simp; omega
    go_wp2_with fail
    go_ret
    exact ⟨ret_bool HZ.out.symm, Below.refl _ _⟩
  have g1 : decide ((S.size : Int) < 1) = false := by simp; omega
  by_cases h32 : S.size > 32
  · have HZ := hide (show res = false by rw [HID.out, decide_eq_false (by omega)]; rfl)
    have g2 : decide ((S.size : Int) > 32) = true := by simp; omega
    go_wp2_with fail
    go_ret
    exact ⟨ret_bool HZ.out.symm, Below.refl _ _⟩
  have g2 : decide ((S.size : Int) > 32) = false := by simp; omega
  go_wp2_with fail
  refine (HWD.out _).mono ?_; rintro e w' ⟨rfl, rfl⟩
  have HCE := hide (words_cells w)
  have HBW := hide (below_al (Below.refl w.heap.size w) (Obj.cells ((wordsL.map Value.string).toArray) 9))
  obtain ⟨wz, hwz⟩ : ∃ wz, wz = w.alloc (Obj.cells (List.map Value.string wordsL).toArray 9) := ⟨_, rfl⟩
  obtain ⟨g, hg⟩ : ∃ g, g = w.heap.size := ⟨_, rfl⟩
  rw [← hwz] at HBW HCE ⊢
  rw [← hg] at HCE ⊢
  clear hwz hg HWD
  go_wp2_with fail
  go_loopw [17] (fun iv wr => ∃ i : Nat, iv = .int .i64 i ∧ i ≤ 13 ∧ wr = wz ∧ Hid (∀ j, j < i → (S.toList == (wordsL.getD j ByteArray.empty).toList) = false)) (fun iv _ => 13 - (intOf iv).toNat)
  case atStart => exact ⟨0, rfl, by omega, rfl, hide fun j hj => by omega⟩
  case round =>
    obtain ⟨i, rfl, hi, rfl, hI⟩ := hrel
    by_cases hlt : i < 13
    · have c0 := HCE.out i hlt
      rw [Nat.zero_add] at c0
      obtain ⟨T, hT⟩ : ∃ T, T = wordsL.getD i ByteArray.empty := ⟨_, rfl⟩
      rw [← hT] at c0
      have HT := Lib.hid hT
      clear hT
      cases hs : (S.toList == T.toList) with
      | true =>
        have HZ := hide (show res = false by rw [HID.out, has_yes hlt (by rw [← HT.out]; exact hs)]; simp)
        go_wp2_with fail
        go_ret
        exact ⟨ret_bool HZ.out.symm, HBW.out⟩
      | false =>
        have HX := hide (show ∀ j, j < i + 1 → (S.toList == (wordsL.getD j ByteArray.empty).toList) = false from fun j hj => by
          rcases Nat.lt_or_ge j i with h1 | h1
          · exact hI.out j h1
          · obtain rfl : j = i := by omega
            rw [← HT.out]; exact hs)
        clear hI
        go_wp2_with fail
        go_roundw
        case rel => exact ⟨i + 1, by go_num, by omega, by first | rfl | trivial, HX⟩
        case measure => simp [intOf]; omega
    · obtain rfl : i = 13 := by omega
      have HI2 := hide (show res = identT (S.extract (if headB S then 1 else 0) S.size) by
        rw [HID.out, has_no hI.out, decide_eq_true (show S.size ≤ 32 by omega)]
        split
        · rfl
        · rw [ext_zero]; rfl)
      clear hI HCE HID hi hlt
      have h0p : 0 < S.size := by omega
      have hgk : (S.get! 0).toNat = S[0].toNat := by rw [get_eq S 0 h0p]
      obtain ⟨b, hbb⟩ : ∃ b, b = S[0].toNat := ⟨_, rfl⟩
      have hb2 : (S[0].toNat : Int) = (b : Int) := by rw [hbb]
      rw [← hbb] at hgk
      have HBC := Lib.hid (show headB S = (b == 35 || b == 95) by unfold headB; rw [hgk]; simp [h0p])
      clear hbb hgk
      obtain ⟨hb, hhb⟩ : ∃ hb, hb = headB S := ⟨_, rfl⟩
      obtain ⟨p, hp⟩ : ∃ p : Nat, p = if headB S then 1 else 0 := ⟨_, rfl⟩
      rw [← hp, identT_ext] at HI2
      rw [← hhb] at hp HBC
      have hp1 : p ≤ 1 := by rw [hp]; split <;> omega
      have HP := Lib.hid hp
      clear hp hhb
      go_upto_region 10 with fail
      go_cut [32] from 25 to 32 (fun a wc => a = .bool hb ∧ wc = wr)
      case first =>
        rcases (show b = 35 ∨ b = 95 ∨ (b ≠ 35 ∧ b ≠ 95) by omega) with rfl | rfl | ⟨g1, g2⟩
        · go_wp2_with fail
          go_meet
          exact ⟨by rw [HBC.out]; rfl, rfl⟩
        · go_wp2_with fail
          go_meet
          exact ⟨by rw [HBC.out]; rfl, rfl⟩
        · have g3 : ((b : Int) == 35) = false := by simp; omega
          have g4 : ((b : Int) == 95) = false := by simp; omega
          go_wp2_with fail
          go_meet
          exact ⟨by rw [HBC.out]; simp [g1, g2], rfl⟩
      case rest =>
        obtain ⟨rfl, ew⟩ := hcut
        obtain rfl := ew.symm
        clear hb2 HBC
        go_upto_if 32 with fail
        go_cut [5] from 32 to 32 (fun a wc => a = .int .i64 (p : Int) ∧ wc = wr)
        case first =>
          cases hb with
          | true =>
            go_wp2_with fail
            go_meet
            exact ⟨by rw [HP.out]; rfl, rfl⟩
          | false =>
            go_wp2_with fail
            go_meet
            exact ⟨by rw [HP.out]; rfl, rfl⟩
        case rest =>
        obtain ⟨rfl, ew⟩ := hcut
        obtain rfl := ew.symm
        clear HP
        by_cases hps : S.size ≤ p
        · have HZ := hide (show res = false by rw [HI2.out, decide_eq_false (by omega)]; rfl)
          have g3 : decide ((p : Int) ≥ (S.size : Int)) = true := by simp; omega
          go_wp2_with fail
          go_ret
          exact ⟨ret_bool HZ.out.symm, HBW.out⟩
        · have hps2 : p < S.size := by omega
          have g3 : decide ((p : Int) ≥ (S.size : Int)) = false := by simp; omega
          have hgk : (S.get! p).toNat = S[p].toNat := by rw [get_eq S p hps2]
          obtain ⟨c, hcc⟩ : ∃ c, c = S[p].toNat := ⟨_, rfl⟩
          have hc2 : (S[p].toNat : Int) = (c : Int) := by rw [hcc]
          rw [← hcc] at hgk
          have HI3 := hide (show res = (letterN c && idFrom S p) by rw [HI2.out, decide_eq_true hps2, hgk]; rfl)
          have HLC := hide (HL.out c)
          clear hcc hgk HI2
          obtain ⟨lb, hlb⟩ : ∃ lb, lb = letterN c := ⟨_, rfl⟩
          rw [← hlb] at HI3 HLC
          clear hlb
          cases lb with
          | false =>
            have HZ := hide (show res = false by rw [HI3.out]; rfl)
            go_wp2_with (first | (go_at_call 107; refine (HLC.out _).mono ?_; rintro e w' ⟨rfl, rfl⟩) | fail)
            go_ret
            exact ⟨ret_bool HZ.out.symm, HBW.out⟩
          | true =>
            have HI4 := hide (show res = idFrom S p by rw [HI3.out]; rfl)
            clear HI3
            go_wp2_with (first | (go_at_call 107; refine (HLC.out _).mono ?_; rintro e w' ⟨rfl, rfl⟩) | fail)
            clear hc2 HLC g3 hps
            go_loopw [6] (fun iv wr' => ∃ k : Nat, iv = .int .i64 k ∧ p ≤ k ∧ k ≤ S.size ∧ wr' = wr ∧ Hid (∀ j, p ≤ j → j < k → idChar (S.get! j).toNat = true)) (fun iv _ => S.size - (intOf iv).toNat)
            case atStart => exact ⟨p, rfl, Nat.le_refl _, by omega, rfl, hide fun j h1 hj => by omega⟩
            case round =>
              obtain ⟨k, rfl, hpk, hk, rfl, hI⟩ := hrel
              by_cases hlt : k < S.size
              · have hgk : (S.get! k).toNat = S[k].toNat := by rw [get_eq S k hlt]
                obtain ⟨c, hcc⟩ : ∃ c, c = S[k].toNat := ⟨_, rfl⟩
                have hc2 : (S[k].toNat : Int) = (c : Int) := by rw [hcc]
                rw [← hcc] at hgk
                have HGK := Lib.hid hgk
                have HLC := hide (HL.out c)
                have HDC := hide (HD.out c)
                clear hcc hgk
                have hcase : (letterN c = true ∧ idChar c = true) ∨ (letterN c = false ∧ digitN c = true ∧ idChar c = true) ∨ (letterN c = false ∧ digitN c = false ∧ ((c : Int) != 95) = false ∧ idChar c = true) ∨ (letterN c = false ∧ digitN c = false ∧ ((c : Int) != 95) = true ∧ idChar c = false) := by
                  unfold idChar digitN
                  cases letterN c with
                  | true => exact .inl ⟨rfl, rfl⟩
                  | false =>
                    right
                    by_cases hd : 48 ≤ c ∧ c ≤ 57
                    · exact .inl ⟨rfl, by simp; omega, by simp; omega⟩
                    · right
                      by_cases h95 : c = 95
                      · exact .inl ⟨rfl, by simp; omega, by subst h95; rfl, by simp; omega⟩
                      · exact .inr ⟨rfl, by simp; omega, by simp; omega, by simp; omega⟩
                rcases hcase with ⟨q1, q4⟩ | ⟨q1, q2, q4⟩ | ⟨q1, q2, q3, q4⟩ | ⟨q1, q2, q3, q4⟩
                · rw [q1] at HLC
                  have HQ := hide q4
                  clear q1 q4
                  go_wp2_with (first | (go_at_call 107; refine (HLC.out _).mono ?_; rintro e w' ⟨rfl, rfl⟩) | fail)
                  go_roundw
                  case rel => exact ⟨k + 1, by go_num, by omega, by omega, by first | trivial | rfl, hide (from_up hI.out (by rw [HGK.out]; exact HQ.out))⟩
                  case measure => simp [intOf]; omega
                · rw [q1] at HLC
                  rw [q2] at HDC
                  have HQ := hide q4
                  clear q1 q2 q4
                  go_wp2_with (first | (go_at_call 107; refine (HLC.out _).mono ?_; rintro e w' ⟨rfl, rfl⟩) | (go_at_call 108; refine (HDC.out _).mono ?_; rintro e w' ⟨rfl, rfl⟩) | fail)
                  go_roundw
                  case rel => exact ⟨k + 1, by go_num, by omega, by omega, by first | trivial | rfl, hide (from_up hI.out (by rw [HGK.out]; exact HQ.out))⟩
                  case measure => simp [intOf]; omega
                · rw [q1] at HLC
                  rw [q2] at HDC
                  have HQ := hide q4
                  clear q1 q2 q4
                  go_wp2_with (first | (go_at_call 107; refine (HLC.out _).mono ?_; rintro e w' ⟨rfl, rfl⟩) | (go_at_call 108; refine (HDC.out _).mono ?_; rintro e w' ⟨rfl, rfl⟩) | fail)
                  go_roundw
                  case rel => exact ⟨k + 1, by go_num, by omega, by omega, by first | trivial | rfl, hide (from_up hI.out (by rw [HGK.out]; exact HQ.out))⟩
                  case measure => simp [intOf]; omega
                · rw [q1] at HLC
                  rw [q2] at HDC
                  have HZ := hide (show res = false by rw [HI4.out]; exact from_no hpk hlt (by rw [HGK.out]; exact q4))
                  clear q1 q2 q4
                  go_wp2_with (first | (go_at_call 107; refine (HLC.out _).mono ?_; rintro e w' ⟨rfl, rfl⟩) | (go_at_call 108; refine (HDC.out _).mono ?_; rintro e w' ⟨rfl, rfl⟩) | fail)
                  go_ret
                  exact ⟨ret_bool HZ.out.symm, HBW.out⟩
              · obtain rfl : k = S.size := by omega
                have HZ := hide (show res = true by rw [HI4.out]; exact from_yes hI.out)
                clear hI
                go_wp2_with fail
                go_ret
                exact ⟨ret_bool HZ.out.symm, HBW.out⟩

theorem refLabel_run (S : ByteArray) (hS : S.size ≤ 1000000000) (w : World) : Calls Tryd.prog 79 #[.string S] w fun e w' => e = .returned (.string (labelB S)) ∧ Below w.heap.size w w' := by
  have HI := hide fun w => refIdent_run S hS w
  have HQ := hide fun w => refQuote_run S hS w
  unfold labelB
  obtain ⟨b, hb⟩ : ∃ b, b = identB S := ⟨_, rfl⟩
  rw [← hb] at HI ⊢
  clear hb
  go_enter Tryd.func79, Tryd.ntmps79
  go_wp2_with fail
  refine (HI.out _).mono ?_; rintro e w1 ⟨rfl, hB1⟩
  have HB1 := hide hB1
  clear hB1
  cases b with
  | true =>
    go_wp2_with fail
    go_ret
    exact ⟨rfl, HB1.out⟩
  | false =>
    go_wp2_with fail
    refine (HQ.out _).mono ?_; rintro e w2 ⟨rfl, hB2⟩
    have HB2 := hide (HB1.out.trans (hB2.mono HB1.out.size))
    clear hB2
    go_wp2_with fail
    go_ret
    exact ⟨rfl, HB2.out⟩
end Go.Proofs.YtajpgmacabeeeaaDoor

/- Two texts are equal exactly if the data is: plain. -/
namespace Go.Proofs.YtajpgmacabeeeaaDoor
open Go.RowKit Go.Shelf

theorem cmpI_zero {a b : Int} : cmpI a b = 0 ↔ a = b := by
  unfold cmpI
  constructor
  · intro h; split at h <;> (try split at h) <;> omega
  · rintro rfl; simp
theorem cmpS_zero {a b : ByteArray} : cmpS a b = 0 ↔ a = b := by
  constructor
  · intro h
    rcases cmpS_cases a b with ⟨_, _, e⟩ | ⟨_, _, e⟩ | ⟨e, _, _⟩
    · rw [h] at e; cases e
    · rw [h] at e; cases e
    · exact e
  · rintro rfl; exact cmpS_self a
theorem orI_zero {a b : Int} : orI a b = 0 ↔ a = 0 ∧ b = 0 := by
  unfold orI
  constructor
  · intro h
    split at h
    · rename_i h0; exact ⟨h0, h⟩
    · rename_i h0; exact absurd h h0
  · rintro ⟨rfl, rfl⟩; simp
theorem comp_zero {m : Nat} {a b : Dt} : compF (m + 1) a b = 0 ↔ kD a = kD b ∧ nD a = nD b ∧ sD a = sD b ∧ cmpL (compF m) (iD a) (iD b) = 0 ∧ cmpL (compM (compF m)) (mD a) (mD b) = 0 := by
  unfold compF
  by_cases hk : kD a = kD b
  · rw [if_pos hk]
    by_cases hn : orI (cmpI (nD a) (nD b)) (cmpS (sD a) (sD b)) = 0
    · rw [if_pos hn, orI_zero]
      rw [orI_zero, cmpI_zero, cmpS_zero] at hn
      exact ⟨fun h => ⟨hk, hn.1, hn.2, h.1, h.2⟩, fun h => ⟨h.2.2.2.1, h.2.2.2.2⟩⟩
    · rw [if_neg hn]
      refine ⟨fun h => absurd h hn, fun h => absurd ?_ hn⟩
      rw [orI_zero, cmpI_zero, cmpS_zero]
      exact ⟨h.2.1, h.2.2.1⟩
  · rw [if_neg hk]
    exact ⟨fun h => absurd (cmpI_zero.1 h) hk, fun h => absurd h.1 hk⟩
theorem cmpL_map {α β : Type} {f : α → α → Int} {g : α → β} : ∀ {l k : List α}, cmpL f l k = 0 → (∀ x ∈ l, ∀ y ∈ k, f x y = 0 → g x = g y) → l.map g = k.map g
  | [], [], _, _ => rfl
  | [], _ :: _, h, _ => by simp [cmpL] at h
  | _ :: _, [], h, _ => by simp [cmpL] at h
  | x :: l, y :: k, h, hf => by
    unfold cmpL at h
    split at h
    · rename_i h0
      rw [List.map_cons, List.map_cons, hf x (List.mem_cons_self ..) y (List.mem_cons_self ..) h0, cmpL_map h fun a ha b hb => hf a (List.mem_cons_of_mem _ ha) b (List.mem_cons_of_mem _ hb)]
    · rename_i h0; exact absurd h h0
theorem text_of_comp : ∀ (m : Nat) {a b : Dt}, compF m a b = 0 → textF m a = textF m b
  | 0, _, _, _ => rfl
  | m + 1, a, b, h => by
    obtain ⟨h1, h2, h3, h4, h5⟩ := comp_zero.1 h
    have e1 := cmpL_map (g := textF m) h4 fun x _ y _ h => text_of_comp m h
    have e2 := cmpL_map (g := mtext (textF m)) h5 fun x _ y _ h => by
      unfold compM at h
      rw [orI_zero, cmpS_zero] at h
      unfold mtext
      rw [h.1, text_of_comp m h.2]
    unfold textF partsL
    rw [h1, h2, h3, e1, e2]

/-! Reading -/
def lst (s : ByteArray) : List UInt8 := s.data.toList
theorem lst_append (a b : ByteArray) : lst (a ++ b) = lst a ++ lst b := by unfold lst; rw [ByteArray.data_append, Array.toList_append]
theorem lst_inj {a b : ByteArray} (h : lst a = lst b) : a = b := ByteArray.ext (Array.toList_inj.1 h)
theorem lst_len (a : ByteArray) : (lst a).length = a.size := Array.length_toList
theorem lst_get (s : ByteArray) {j : Nat} (h : j < s.size) : (lst s)[j]'(by rw [lst_len]; exact h) = s.get! j := by
  rw [get_eq s j h]; unfold lst; rw [Array.getElem_toList]; rfl
theorem mem_get {s : ByteArray} {c : UInt8} (h : c ∈ lst s) : ∃ j, j < s.size ∧ s.get! j = c := by
  obtain ⟨j, hj, e⟩ := List.mem_iff_getElem.1 h
  have hj' : j < s.size := by rw [lst_len] at hj; exact hj
  exact ⟨j, hj', by rw [← lst_get s hj']; exact e⟩
theorem cut_at {p : UInt8 → Prop} : ∀ {a b x y : List UInt8}, (∀ c ∈ a, p c) → (∀ c ∈ b, p c) → (∀ c r, x = c :: r → ¬ p c) → (∀ c r, y = c :: r → ¬ p c) → a ++ x = b ++ y → a = b ∧ x = y
  | [], [], _, _, _, _, _, _, h => ⟨rfl, h⟩
  | [], c :: b, x, y, _, hb, hx, _, h => absurd (hb c (List.mem_cons_self ..)) (hx c (b ++ y) h)
  | c :: a, [], x, y, ha, _, _, hy, h => absurd (ha c (List.mem_cons_self ..)) (hy c (a ++ x) h.symm)
  | c :: a, c' :: b, x, y, ha, hb, hx, hy, h => by
    injection h with e h
    subst e
    obtain ⟨h1, h2⟩ := cut_at (fun d hd => ha d (List.mem_cons_of_mem _ hd)) (fun d hd => hb d (List.mem_cons_of_mem _ hd)) hx hy h
    exact ⟨by rw [h1], h2⟩
def digC (c : UInt8) : Prop := 48 ≤ c.toNat ∧ c.toNat ≤ 57
theorem dec_dig (u : Nat) : ∀ c ∈ Lib.decDigits u, digC c := by
  induction u using Nat.strongRecOn with
  | _ u ih =>
    intro c hc
    by_cases h : u < 10
    · rw [Lib.decDigits_one h] at hc
      have : c = UInt8.ofNat (48 + u) := by simpa using hc
      subst this
      unfold digC; simp; omega
    · rw [dec_split h] at hc
      rcases List.mem_append.1 hc with hc | hc
      · exact ih (u / 10) (by omega) c hc
      · have : c = UInt8.ofNat (48 + u % 10) := by simpa using hc
        subst this
        unfold digC; simp; omega
def valD (l : List UInt8) : Nat := l.foldl (fun a c => 10 * a + (c.toNat - 48)) 0
theorem valD_dec (u : Nat) : valD (Lib.decDigits u) = u := by
  induction u using Nat.strongRecOn with
  | _ u ih =>
    by_cases h : u < 10
    · rw [Lib.decDigits_one h]; unfold valD; simp; omega
    · have := ih (u / 10) (by omega)
      rw [dec_split h]
      unfold valD at this ⊢
      rw [List.foldl_append, this]
      simp; omega
def fv : Nat → List UInt8 → Nat
  | _, [] => 0
  | 0, _ :: _ => 0
  | k + 1, c :: l => (c.toNat - 48) * 10 ^ k + fv k l
theorem fv_rep : ∀ (k j : Nat), fv k (List.replicate j 48) = 0
  | k, 0 => by cases k <;> rfl
  | 0, j + 1 => rfl
  | k + 1, j + 1 => by rw [List.replicate_succ, fv, fv_rep k j]; simp
theorem fv_zeros : ∀ (k : Nat) (l : List UInt8) (j : Nat), fv k (l ++ List.replicate j 48) = fv k l
  | k, [], j => by
    rw [List.nil_append, fv_rep]
    cases k <;> rfl
  | 0, c :: l, j => rfl
  | k + 1, c :: l, j => by rw [List.cons_append, fv, fv, fv_zeros k l j]
theorem trim_rep : ∀ (n : Nat) (s : ByteArray), s.size = n → ∃ k, lst s = lst (trimF n s) ++ List.replicate k 48
  | 0, s, _ => ⟨0, by simp [trimF]⟩
  | n + 1, s, hs => by
    unfold trimF
    split
    · rename_i h48
      obtain ⟨k, hk⟩ := trim_rep n (s.extract 0 n) (by rw [ByteArray.size_extract]; omega)
      refine ⟨k + 1, ?_⟩
      have e : lst s = lst (s.extract 0 n) ++ [48] := by
        have h1 : lst (s.extract 0 n) = (lst s).take n := by
          unfold lst; rw [ByteArray.data_extract]; simp
        have hl := lst_len s
        rw [h1]
        have h2 : (lst s)[n]'(by omega) = 48 := by rw [lst_get s (by omega)]; exact h48
        conv => lhs; rw [← List.take_append_drop n (lst s)]
        congr 1
        rw [List.drop_eq_getElem_cons (by omega), h2, List.drop_of_length_le (by omega)]
      rw [e, hk, List.replicate_succ', List.append_assoc]
    · exact ⟨0, by simp⟩
theorem frac_val (r : Nat) (h : r < 10000) : fv 4 (lst (fracB r)) = r := by
  have hd : (decB (r + 10000)).extract 1 (decB (r + 10000)).size = ⟨#[UInt8.ofNat (48 + r / 1000), UInt8.ofNat (48 + r / 100 % 10), UInt8.ofNat (48 + r / 10 % 10), UInt8.ofNat (48 + r % 10)]⟩ := by
    unfold decB; rw [dec_five r h]; rfl
  unfold fracB
  rw [hd]
  unfold trimB
  obtain ⟨k, hk⟩ := trim_rep _ (⟨#[UInt8.ofNat (48 + r / 1000), UInt8.ofNat (48 + r / 100 % 10), UInt8.ofNat (48 + r / 10 % 10), UInt8.ofNat (48 + r % 10)]⟩ : ByteArray) rfl
  rw [← fv_zeros 4 _ k, ← hk]
  unfold lst
  simp [fv]
  omega
theorem frac_dig (r : Nat) (h : r < 10000) : ∀ c ∈ lst (fracB r), digC c := fun c hc => by
  have hd : (decB (r + 10000)).extract 1 (decB (r + 10000)).size = ⟨#[UInt8.ofNat (48 + r / 1000), UInt8.ofNat (48 + r / 100 % 10), UInt8.ofNat (48 + r / 10 % 10), UInt8.ofNat (48 + r % 10)]⟩ := by
    unfold decB; rw [dec_five r h]; rfl
  unfold fracB at hc
  rw [hd] at hc
  unfold trimB at hc
  obtain ⟨k, hk⟩ := trim_rep _ (⟨#[UInt8.ofNat (48 + r / 1000), UInt8.ofNat (48 + r / 100 % 10), UInt8.ofNat (48 + r / 10 % 10), UInt8.ofNat (48 + r % 10)]⟩ : ByteArray) rfl
  have hm : c ∈ lst (⟨#[UInt8.ofNat (48 + r / 1000), UInt8.ofNat (48 + r / 100 % 10), UInt8.ofNat (48 + r / 10 % 10), UInt8.ofNat (48 + r % 10)]⟩ : ByteArray) := by rw [hk]; exact List.mem_append.2 (.inl hc)
  unfold lst at hm
  simp at hm
  unfold digC
  rcases hm with rfl | rfl | rfl | rfl <;> simp <;> omega
def gF : List UInt8 → Nat
  | [] => 0
  | _ :: l => fv 4 l
theorem dot_cases (f : ByteArray) : (lst f = [] ∧ lst (dotB f) = []) ∨ lst (dotB f) = 46 :: lst f := by
  unfold dotB
  split
  · rename_i h; rw [ba_toList] at h; exact .inl ⟨h, rfl⟩
  · right; rw [lst_append]; rfl
theorem dot_val (r : Nat) (h : r < 10000) : gF (lst (dotB (fracB r))) = r := by
  rcases dot_cases (fracB r) with ⟨h1, h2⟩ | h2
  · have := frac_val r h
    rw [h1] at this
    rw [h2]; exact this
  · rw [h2]; exact frac_val r h
theorem num_list {u : Int} (hu : validB u = true) : lst (numB u) = (if u < 0 then [45] else []) ++ Lib.decDigits (u.natAbs / 10000) ++ lst (dotB (fracB (u.natAbs % 10000))) := by
  unfold numB
  rw [if_neg (by rw [hu]; simp), lst_append]
  congr 1
  unfold signB
  split
  · rw [lst_append]; rfl
  · rfl
def numC (c : UInt8) : Prop := c = 45 ∨ c = 46 ∨ digC c
theorem num_chars {u : Int} (hu : validB u = true) : ∀ c ∈ lst (numB u), numC c := fun c hc => by
  rw [num_list hu] at hc
  rcases List.mem_append.1 hc with hc | hc
  · rcases List.mem_append.1 hc with hc | hc
    · split at hc
      · have : c = 45 := by simpa using hc
        exact .inl this
      · cases hc
    · exact .inr (.inr (dec_dig _ c hc))
  · rcases dot_cases (fracB (u.natAbs % 10000)) with ⟨_, h2⟩ | h2
    · rw [h2] at hc; cases hc
    · rw [h2] at hc
      rcases List.mem_cons.1 hc with rfl | hc
      · exact .inr (.inl rfl)
      · exact .inr (.inr (frac_dig _ (by omega) c hc))
def Stop (x : List UInt8) : Prop := ∀ c r, x = c :: r → c = 44 ∨ c = 93 ∨ c = 125
theorem stop_num {x : List UInt8} (h : Stop x) : ∀ c r, x = c :: r → ¬ numC c := fun c r e hn => by
  rcases h c r e with rfl | rfl | rfl <;> (unfold numC digC at hn; revert hn; decide)
theorem dec_ne (u : Nat) : Lib.decDigits u ≠ [] := fun h => by
  have h1 := Lib.decDigits_length u
  rw [h] at h1
  have := Lib.nDigits_pos u
  simp at h1; omega
theorem dot_head (r : Nat) : ∀ c l, lst (dotB (fracB r)) = c :: l → ¬ digC c := fun c l e hd => by
  rcases dot_cases (fracB r) with ⟨_, h2⟩ | h2
  · rw [h2] at e; cases e
  · rw [h2] at e; injection e with e; subst e
    unfold digC at hd; revert hd; decide
theorem num_inj {u v : Int} (hu : validB u = true) (hv : validB v = true) (h : lst (numB u) = lst (numB v)) : u = v := by
  rw [num_list hu, num_list hv, List.append_assoc, List.append_assoc] at h
  have key : ∀ {D D' F F' : List UInt8}, (∀ c ∈ D, digC c) → D ≠ [] → 45 :: (D' ++ F') = D ++ F → False := by
    intro D D' F F' hD hne e
    cases D with
    | nil => exact hne rfl
    | cons c D =>
      injection e with e1 e2
      have := hD c (List.mem_cons_self ..)
      rw [← e1] at this
      unfold digC at this; revert this; decide
  have fin : Lib.decDigits (u.natAbs / 10000) ++ lst (dotB (fracB (u.natAbs % 10000))) = Lib.decDigits (v.natAbs / 10000) ++ lst (dotB (fracB (v.natAbs % 10000))) → u.natAbs = v.natAbs := by
    intro e
    obtain ⟨e1, e2⟩ := cut_at (dec_dig _) (dec_dig _) (dot_head _) (dot_head _) e
    have q := congrArg valD e1
    rw [valD_dec, valD_dec] at q
    have r := congrArg gF e2
    rw [dot_val _ (by omega), dot_val _ (by omega)] at r
    omega
  by_cases h1 : u < 0
  · by_cases h2 : v < 0
    · rw [if_pos h1, if_pos h2] at h
      have := fin (by simpa using h)
      omega
    · rw [if_pos h1, if_neg h2] at h
      exact (key (dec_dig _) (dec_ne _) h).elim
  · by_cases h2 : v < 0
    · rw [if_neg h1, if_pos h2] at h
      exact (key (dec_dig _) (dec_ne _) h.symm).elim
    · rw [if_neg h1, if_neg h2] at h
      have := fin h
      omega
theorem num_read {u v : Int} (hu : validB u = true) (hv : validB v = true) {x y : List UInt8} (hx : Stop x) (hy : Stop y) (h : lst (numB u) ++ x = lst (numB v) ++ y) : u = v ∧ x = y := by
  obtain ⟨h1, h2⟩ := cut_at (num_chars hu) (num_chars hv) (stop_num hx) (stop_num hy) h
  exact ⟨num_inj hu hv h1, h2⟩

/-! Literals -/
def unhex (c : UInt8) : Nat := if c.toNat < 58 then c.toNat - 48 else c.toNat - 87
def unesc : List UInt8 → Nat
  | c :: r => if c = 92 then (match r with
      | d :: r' => if d = 110 then 10 else if d = 116 then 9 else if d = 114 then 13 else if d = 120 then (match r' with
          | h :: l :: _ => unhex h * 16 + unhex l
          | _ => 0) else d.toNat
      | [] => 0) else c.toNat
  | [] => 0
theorem hex_back : ∀ b : Fin 256, unhex (hexN (b.val / 16)) * 16 + unhex (hexN (b.val % 16)) = b.val := by decide +kernel
theorem unesc_esc (b : Nat) (hb : b < 256) (U : List UInt8) : unesc (lst (escN b) ++ U) = b := by
  unfold escN
  split
  · rename_i h
    rcases h with rfl | rfl <;> rfl
  · rename_i h1
    split
    · rename_i h; subst h; rfl
    · split
      · rename_i h; subst h; rfl
      · split
        · rename_i h; subst h; rfl
        · split
          · exact hex_back ⟨b, hb⟩
          · have h92 : UInt8.ofNat b ≠ 92 := fun e => by
              have := congrArg UInt8.toNat e
              simp at this; omega
            show (if UInt8.ofNat b = 92 then _ else (UInt8.ofNat b).toNat) = b
            rw [if_neg h92]; simp; omega
theorem esc_head (b : Nat) (hb : b < 256) : ∃ c r, lst (escN b) = c :: r ∧ c ≠ 34 := by
  unfold escN
  split
  · exact ⟨_, _, rfl, by decide⟩
  · rename_i h1
    split
    · exact ⟨_, _, rfl, by decide⟩
    · split
      · exact ⟨_, _, rfl, by decide⟩
      · split
        · exact ⟨_, _, rfl, by decide⟩
        · split
          · exact ⟨_, _, rfl, by decide⟩
          · exact ⟨_, _, rfl, fun e => by
              have := congrArg UInt8.toNat e
              simp at this; omega⟩
def eL (c : UInt8) : List UInt8 := lst (escN c.toNat)
theorem esc_read : ∀ (s t : List UInt8) {x y : List UInt8}, s.flatMap eL ++ 34 :: x = t.flatMap eL ++ 34 :: y → s = t ∧ x = y
  | [], [], x, y, h => by injection h with _ h; exact ⟨rfl, h⟩
  | [], b :: t, x, y, h => by
    obtain ⟨c, r, e, hc⟩ := esc_head b.toNat b.toNat_lt
    rw [List.flatMap_cons, eL, e] at h
    injection h with h _
    exact absurd h.symm hc
  | a :: s, [], x, y, h => by
    obtain ⟨c, r, e, hc⟩ := esc_head a.toNat a.toNat_lt
    rw [List.flatMap_cons, eL, e] at h
    injection h with h _
    exact absurd h hc
  | a :: s, b :: t, x, y, h => by
    rw [List.flatMap_cons, List.flatMap_cons, List.append_assoc, List.append_assoc] at h
    have h1 := unesc_esc a.toNat a.toNat_lt (s.flatMap eL ++ 34 :: x)
    have h2 := unesc_esc b.toNat b.toNat_lt (t.flatMap eL ++ 34 :: y)
    change lst (escN a.toNat) ++ (s.flatMap eL ++ 34 :: x) = lst (escN b.toNat) ++ (t.flatMap eL ++ 34 :: y) at h
    rw [h] at h1
    have hab : a = b := UInt8.toNat_inj.1 (h1.symm.trans h2)
    subst hab
    obtain ⟨e1, e2⟩ := esc_read s t (List.append_cancel_left h)
    exact ⟨by rw [e1], e2⟩
theorem escL_flat (S : ByteArray) : escL S = (lst S).flatMap eL := by
  unfold escL uptoL
  have e : lst S = (List.range S.size).map fun j => S.get! j := by
    refine List.ext_getElem (by rw [lst_len]; simp) fun j h1 h2 => ?_
    rw [lst_get S (by rw [lst_len] at h1; exact h1)]; simp
  rw [e, List.flatMap_map, List.flatMap_map]
  rfl
theorem quote_list (S : ByteArray) : lst (quoteB S) = 34 :: ((lst S).flatMap eL ++ [34]) := by
  rw [← escL_flat]
  unfold quoteB
  show (34 :: escL S ++ [34]).toArray.toList = _
  simp
theorem quote_read {s t : ByteArray} {x y : List UInt8} (h : lst (quoteB s) ++ x = lst (quoteB t) ++ y) : s = t ∧ x = y := by
  rw [quote_list, quote_list, List.cons_append, List.cons_append, List.append_assoc, List.append_assoc] at h
  injection h with _ h
  obtain ⟨h1, h2⟩ := esc_read (lst s) (lst t) h
  exact ⟨lst_inj h1, h2⟩

/-! Labels -/
theorem idChar_no {c : UInt8} (h : idChar c.toNat = true) : c ≠ 58 ∧ c ≠ 34 := by
  constructor
  · rintro rfl; revert h; decide
  · rintro rfl; revert h; decide
theorem identT_no {T : ByteArray} (h : identT T = true) : 0 < T.size ∧ ∀ c ∈ lst T, c ≠ 58 ∧ c ≠ 34 := by
  unfold identT at h
  simp only [Bool.and_eq_true, decide_eq_true_eq] at h
  refine ⟨h.1.1, fun c hc => ?_⟩
  obtain ⟨j, hj, e⟩ := mem_get hc
  have := h.2
  unfold idAll at this
  rw [List.all_eq_true] at this
  have h2 := this j (List.mem_range.2 hj)
  rw [e] at h2
  exact idChar_no h2
theorem ident_no {S : ByteArray} (h : identB S = true) : lst S ≠ [] ∧ ∀ c ∈ lst S, c ≠ 58 ∧ c ≠ 34 := by
  unfold identB at h
  rw [Bool.and_eq_true] at h
  have h2 := h.2
  split at h2
  · rename_i hh
    obtain ⟨h3, h4⟩ := identT_no h2
    unfold headB at hh
    simp only [Bool.and_eq_true, decide_eq_true_eq, Bool.or_eq_true, beq_iff_eq] at hh
    have e : lst S = S.get! 0 :: lst (S.extract 1 S.size) := by
      have h1 : lst (S.extract 1 S.size) = (lst S).drop 1 := by
        unfold lst; rw [ByteArray.data_extract]
        simp
        rw [List.take_of_length_le (by simp)]
      have hl := lst_len S
      rw [h1]
      conv => lhs; rw [← List.drop_zero (l := lst S)]
      rw [List.drop_eq_getElem_cons (by omega), lst_get S hh.1]
    rw [e]
    refine ⟨by simp, fun c hc => ?_⟩
    rcases List.mem_cons.1 hc with rfl | hc
    · constructor
      · intro e2; rw [e2] at hh; rcases hh.2 with h | h <;> (revert h; decide)
      · intro e2; rw [e2] at hh; rcases hh.2 with h | h <;> (revert h; decide)
    · exact h4 c hc
  · obtain ⟨h3, h4⟩ := identT_no h2
    exact ⟨fun e => by have := lst_len S; rw [e] at this; simp at this; omega, h4⟩
theorem ident_quote {s t : ByteArray} {x y : List UInt8} (hs : identB s = true) (h : lst s ++ x = lst (quoteB t) ++ y) : False := by
  obtain ⟨h1, h2⟩ := ident_no hs
  rw [quote_list] at h
  cases e : lst s with
  | nil => exact h1 e
  | cons c r =>
    rw [e] at h
    injection h with h _
    exact (h2 c (by rw [e]; exact List.mem_cons_self ..)).2 h
theorem label_read {s t : ByteArray} {x y : List UInt8} (h : lst (labelB s) ++ 58 :: x = lst (labelB t) ++ 58 :: y) : s = t ∧ x = y := by
  have fin : ∀ {x y : List UInt8}, (58 : UInt8) :: x = 58 :: y → x = y := fun h => by injection h
  unfold labelB at h
  split at h
  · rename_i hs
    split at h
    · rename_i ht
      obtain ⟨h1, h2⟩ := cut_at (p := fun c => c ≠ 58) (fun c hc => ((ident_no hs).2 c hc).1) (fun c hc => ((ident_no ht).2 c hc).1) (fun c r e => by injection e with e _; subst e; simp) (fun c r e => by injection e with e _; subst e; simp) h
      exact ⟨lst_inj h1, fin h2⟩
    · exact (ident_quote hs h).elim
  · split at h
    · rename_i ht
      exact (ident_quote ht h.symm).elim
    · obtain ⟨h1, h2⟩ := quote_read h
      exact ⟨h1, fin h2⟩

/-! Lists of texts -/
theorem tails_read {α : Type} {g : α → List UInt8} {f : α → α → Int} {cl : UInt8} (hcl : cl = 93 ∨ cl = 125) : ∀ (l k : List α) {x y : List UInt8}, (∀ a ∈ l, ∀ b ∈ k, ∀ x y, Stop x → Stop y → g a ++ x = g b ++ y → f a b = 0 ∧ x = y) →
    Lib.joinTail [44, 32] (l.map g) ++ cl :: x = Lib.joinTail [44, 32] (k.map g) ++ cl :: y → cmpL f l k = 0 ∧ x = y
  | [], [], x, y, _, h => by
    have h : cl :: x = cl :: y := h
    injection h with _ h
    exact ⟨rfl, h⟩
  | [], b :: k, x, y, _, h => by
    have h : cl :: x = 44 :: _ := h
    injection h with h _
    rcases hcl with e | e <;> (rw [e] at h; exact absurd h (by decide))
  | a :: l, [], x, y, _, h => by
    have h : 44 :: _ = cl :: y := h
    injection h with h _
    rcases hcl with e | e <;> (rw [e] at h; exact absurd h (by decide))
  | a :: l, b :: k, x, y, hr, h => by
    have e : ∀ (a : α) (l : List α) (x : List UInt8), Lib.joinTail [44, 32] ((a :: l).map g) ++ cl :: x = 44 :: 32 :: (g a ++ (Lib.joinTail [44, 32] (l.map g) ++ cl :: x)) := fun a l x => by simp [Lib.joinTail]
    rw [e, e] at h
    injection h with _ h
    injection h with _ h
    have st : ∀ (l : List α) (x : List UInt8), Stop (Lib.joinTail [44, 32] (l.map g) ++ cl :: x) := fun l x c r hc => by
      cases l with
      | nil =>
        have hc : cl :: x = c :: r := hc
        injection hc with hc _
        rw [← hc]; exact .inr hcl
      | cons b l =>
        rw [e] at hc
        injection hc with hc _
        exact .inl hc.symm
    obtain ⟨h1, h2⟩ := hr a (List.mem_cons_self ..) b (List.mem_cons_self ..) _ _ (st l x) (st k y) h
    obtain ⟨h3, h4⟩ := tails_read hcl l k (fun a ha b hb => hr a (List.mem_cons_of_mem _ ha) b (List.mem_cons_of_mem _ hb)) h2
    exact ⟨by unfold cmpL; rw [if_pos h1]; exact h3, h4⟩
theorem list_read {α : Type} {g : α → List UInt8} {f : α → α → Int} {cl : UInt8} (hcl : cl = 93 ∨ cl = 125) (l k : List α) {x y : List UInt8} (hl : ∀ a ∈ l, ∃ c r, g a = c :: r ∧ c ≠ 93 ∧ c ≠ 125) (hk : ∀ a ∈ k, ∃ c r, g a = c :: r ∧ c ≠ 93 ∧ c ≠ 125)
    (hr : ∀ a ∈ l, ∀ b ∈ k, ∀ x y, Stop x → Stop y → g a ++ x = g b ++ y → f a b = 0 ∧ x = y)
    (h : Lib.join (l.map g) [44, 32] ++ cl :: x = Lib.join (k.map g) [44, 32] ++ cl :: y) : cmpL f l k = 0 ∧ x = y := by
  have start : ∀ {c : UInt8} {r z : List UInt8}, c ≠ 93 ∧ c ≠ 125 → cl :: z = c :: r → False := fun hc e => by
    injection e with e _
    rcases hcl with h | h
    · exact hc.1 (by rw [← e, h])
    · exact hc.2 (by rw [← e, h])
  cases l with
  | nil =>
    cases k with
    | nil =>
      have h : cl :: x = cl :: y := h
      injection h with _ h
      exact ⟨rfl, h⟩
    | cons b k =>
      obtain ⟨c, r, e, hc⟩ := hk b (List.mem_cons_self ..)
      rw [List.map_cons, Lib.join_cons, e] at h
      exact (start hc h).elim
  | cons a l =>
    cases k with
    | nil =>
      obtain ⟨c, r, e, hc⟩ := hl a (List.mem_cons_self ..)
      rw [List.map_cons, Lib.join_cons, e] at h
      exact (start hc h.symm).elim
    | cons b k =>
      refine tails_read hcl (a :: l) (b :: k) hr ?_
      rw [List.map_cons, List.map_cons, Lib.join_cons, Lib.join_cons] at h
      have e : ∀ (a : α) (l : List α) (x : List UInt8), Lib.joinTail [44, 32] ((a :: l).map g) ++ cl :: x = 44 :: 32 :: (g a ++ Lib.joinTail [44, 32] (l.map g) ++ cl :: x) := fun a l x => by simp [Lib.joinTail]
      rw [e, e, h]
theorem join_list (o e : ByteArray) (L : List ByteArray) : lst (joinB o e L) = lst o ++ (Lib.join (L.map lst) [44, 32] ++ lst e) := by
  unfold joinB
  rw [lst_append, lst_append, List.append_assoc]; rfl

def cls (c : UInt8) : Int := if c = 110 then 1 else if c = 116 ∨ c = 102 then 2 else if c = 34 then 4 else if c = 91 then 5 else if c = 123 then 6 else if c = 45 ∨ (48 ≤ c.toNat ∧ c.toNat ≤ 57) then 3 else 0
theorem cls_num {c : UInt8} (h : c = 45 ∨ digC c) : cls c = 3 := by
  have : ∀ n : Fin 256, (n.val = 45 ∨ (48 ≤ n.val ∧ n.val ≤ 57)) → cls (UInt8.ofNat n.val) = 3 := by decide +kernel
  have h2 := this ⟨c.toNat, c.toNat_lt⟩ (by
    rcases h with rfl | h
    · exact .inl rfl
    · exact .inr h)
  simpa using h2
theorem cls_close {c : UInt8} {k : Int} (h : cls c = k) (hk : k ≠ 0) : c ≠ 93 ∧ c ≠ 125 := by
  constructor
  · rintro rfl; exact hk (h.symm.trans (by decide))
  · rintro rfl; exact hk (h.symm.trans (by decide))
theorem kinds_of {d : Dt} (h : plainB d = true) : kD d = 1 ∨ kD d = 2 ∨ kD d = 3 ∨ kD d = 4 ∨ kD d = 5 ∨ kD d = 6 := by
  unfold plainB plainQ at h
  simp at h
  omega
theorem range_of {d : Dt} (h : ownD d = 0) : (kD d = 2 → nD d = 0 ∨ nD d = 1) ∧ (kD d = 3 → validB (nD d) = true) := by
  unfold ownD at h
  split at h
  · exact absurd h (by decide)
  · split at h
    · exact absurd h (by decide)
    · rename_i h2
      unfold rangeB at h2
      simp at h2
      refine ⟨fun hk => ?_, fun hk => h2.2 hk⟩
      have := h2.1 hk
      by_cases h0 : nD d = 0
      · exact .inl h0
      · exact .inr (this h0)
theorem text_kind {m : Nat} {d : Dt} : (kD d = 1 → textF (m + 1) d = ⟨#[110, 117, 108, 108]⟩) ∧ (kD d = 2 → textF (m + 1) d = if nD d = 1 then ⟨#[116, 114, 117, 101]⟩ else ⟨#[102, 97, 108, 115, 101]⟩) ∧ (kD d = 3 → textF (m + 1) d = numB (nD d)) ∧ (kD d = 4 → textF (m + 1) d = quoteB (sD d)) ∧
    (kD d = 5 → textF (m + 1) d = joinB ⟨#[91]⟩ ⟨#[93]⟩ (partsL (textF m) d)) ∧ (kD d = 6 → textF (m + 1) d = joinB ⟨#[123]⟩ ⟨#[125]⟩ (partsL (textF m) d)) := by
  refine ⟨fun h => ?_, fun h => ?_, fun h => ?_, fun h => ?_, fun h => ?_, fun h => ?_⟩ <;> (unfold textF textK; rw [h]; rfl)
theorem text_start {m : Nat} {d : Dt} (h : ownD d = 0) : ∃ c r, lst (textF (m + 1) d) = c :: r ∧ cls c = kD d := by
  obtain ⟨hp, _⟩ := own_zero h
  obtain ⟨t1, t2, t3, t4, t5, t6⟩ := text_kind (m := m) (d := d)
  rcases kinds_of hp with k | k | k | k | k | k
  · rw [t1 k, k]; exact ⟨_, _, rfl, rfl⟩
  · rw [t2 k, k]; split
    · exact ⟨_, _, rfl, rfl⟩
    · exact ⟨_, _, rfl, rfl⟩
  · rw [t3 k, k, num_list ((range_of h).2 k)]
    split
    · exact ⟨_, _, rfl, rfl⟩
    · cases e : Lib.decDigits ((nD d).natAbs / 10000) with
      | nil => exact absurd e (dec_ne _)
      | cons c r => exact ⟨c, _, rfl, cls_num (.inr (dec_dig ((nD d).natAbs / 10000) c (by rw [e]; exact List.mem_cons_self ..)))⟩
  · rw [t4 k, k, quote_list]; exact ⟨_, _, rfl, rfl⟩
  · rw [t5 k, k, join_list]; exact ⟨_, _, rfl, rfl⟩
  · rw [t6 k, k, join_list]; exact ⟨_, _, rfl, rfl⟩
theorem cmpL_nil {α : Type} {f : α → α → Int} {l k : List α} (hl : l = []) (hk : k = []) : cmpL f l k = 0 := by subst hl hk; rfl
theorem mtext_list (f : Dt → ByteArray) (x : ByteArray × Dt) : lst (mtext f x) = lst (labelB x.1) ++ 58 :: 32 :: lst (f x.2) := by
  unfold mtext
  rw [lst_append, lst_append, List.append_assoc]; rfl
theorem label_start (s : ByteArray) : ∃ c r, lst (labelB s) = c :: r ∧ c ≠ 93 ∧ c ≠ 125 := by
  unfold labelB
  split
  · rename_i hs
    obtain ⟨h1, _⟩ := ident_no hs
    cases e : lst s with
    | nil => exact absurd e h1
    | cons c r =>
      refine ⟨c, r, rfl, ?_⟩
      have hc : c ∈ lst s := by rw [e]; exact List.mem_cons_self ..
      have hall : ∀ c ∈ lst s, c ≠ 93 ∧ c ≠ 125 := by
        unfold identB at hs
        rw [Bool.and_eq_true] at hs
        have h2 := hs.2
        have key : ∀ T : ByteArray, identT T = true → ∀ c ∈ lst T, c ≠ 93 ∧ c ≠ 125 := fun T hT c hc => by
          unfold identT at hT
          simp only [Bool.and_eq_true, decide_eq_true_eq] at hT
          obtain ⟨j, hj, e⟩ := mem_get hc
          have := hT.2
          unfold idAll at this
          rw [List.all_eq_true] at this
          have h2 := this j (List.mem_range.2 hj)
          rw [e] at h2
          constructor
          · rintro rfl; revert h2; decide
          · rintro rfl; revert h2; decide
        split at h2
        · rename_i hh
          unfold headB at hh
          simp only [Bool.and_eq_true, decide_eq_true_eq, Bool.or_eq_true, beq_iff_eq] at hh
          intro c hc
          obtain ⟨j, hj, e⟩ := mem_get hc
          rcases Nat.eq_zero_or_pos j with h0 | h0
          · subst h0
            constructor
            · intro e2; rw [e, e2] at hh; rcases hh.2 with h | h <;> (revert h; decide)
            · intro e2; rw [e, e2] at hh; rcases hh.2 with h | h <;> (revert h; decide)
          · refine key _ h2 c ?_
            have hj2 : j - 1 < (s.extract 1 s.size).size := by rw [ByteArray.size_extract]; omega
            have : (s.extract 1 s.size).get! (j - 1) = c := by
              rw [get_eq _ _ hj2, ← e, get_eq s j hj]
              rw [ByteArray.getElem_extract]
              congr 1; omega
            rw [← this, ← lst_get _ hj2]
            exact List.getElem_mem _
        · exact key s h2
      exact hall c hc
  · rw [quote_list]; exact ⟨_, _, rfl, by decide, by decide⟩
/-- Texts in front of stops are read in one way. -/
theorem text_read {w w' : World} {B B' : Nat} : ∀ (m r : Nat) {a b : Dt} {A c A' c' E f E' f'} (x y : List UInt8), Parts w B m a A c A' c' → Parts w' B' m b E f E' f' → checkF r a = 0 → checkF r b = 0 → Stop x → Stop y → lst (textF m a) ++ x = lst (textF m b) ++ y → compF m a b = 0 ∧ x = y
  | 0, _, _, _, _, _, _, _, _, _, _, _, _, _, hp, _, _, _, _, _, _ => hp.elim
  | m + 1, r, a, b, A, c, A', c', E, f, E', f', x, y, hp, hq, ha, hb, hx, hy, h => by
    obtain ⟨r', rfl, hoa, hka⟩ := check_zero' ha
    obtain ⟨r2, e2, hob, hkb⟩ := check_zero' hb
    obtain rfl : r' = r2 := by omega
    obtain ⟨hpa, _⟩ := own_zero hoa
    obtain ⟨hpb, _⟩ := own_zero hob
    have hk : kD a = kD b := by
      obtain ⟨c1, r1, e1, k1⟩ := text_start (m := m) hoa
      obtain ⟨c2, r2, e2, k2⟩ := text_start (m := m) hob
      rw [e1, e2] at h
      injection h with h _
      rw [← k1, ← k2, h]
    obtain ⟨p1, p2, p3, p4⟩ := plain_fields hpa
    obtain ⟨q1, q2, q3, q4⟩ := plain_fields hpb
    obtain ⟨t1, t2, t3, t4, t5, t6⟩ := text_kind (m := m) (d := a)
    obtain ⟨u1, u2, u3, u4, u5, u6⟩ := text_kind (m := m) (d := b)
    have str : ∀ {s : ByteArray}, s.toList = [] → s = ByteArray.empty := fun h => lst_inj (by rw [ba_toList] at h; exact h)
    have hs4 : kD a ≠ 4 → sD a = sD b := fun h4 => by
      rw [str (p2.resolve_left h4), str (q2.resolve_left (by rw [← hk]; exact h4))]
    have hi5 : kD a ≠ 5 → iD a = [] ∧ iD b = [] := fun h5 => ⟨p3.resolve_left h5, q3.resolve_left (by rw [← hk]; exact h5)⟩
    have hm6 : kD a ≠ 6 → mD a = [] ∧ mD b = [] := fun h6 => ⟨p4.resolve_left h6, q4.resolve_left (by rw [← hk]; exact h6)⟩
    have hn : kD a ≠ 2 → kD a ≠ 3 → nD a = nD b := fun h2 h3 => by
      have e1 : nD a = 0 := by rcases p1 with h | h | h <;> first | (exact absurd h ‹_›) | exact h
      have e2 : nD b = 0 := by rcases q1 with h | h | h <;> first | (exact absurd (hk.trans h) ‹_›) | exact h
      rw [e1, e2]
    have flat : kD a ≠ 5 → kD a ≠ 6 → cmpL (compF m) (iD a) (iD b) = 0 ∧ cmpL (compM (compF m)) (mD a) (mD b) = 0 := fun h5 h6 => ⟨cmpL_nil (hi5 h5).1 (hi5 h5).2, cmpL_nil (hm6 h6).1 (hm6 h6).2⟩
    have start : ∀ {d : Dt}, (∀ z ∈ kids d, checkF r' z = 0) → (∀ z ∈ kids d, ∃ a q a' q', Parts w B m z a q a' q' ∨ Parts w' B' m z a q a' q') → ∀ z ∈ kids d, ∃ c r, lst (textF m z) = c :: r ∧ c ≠ 93 ∧ c ≠ 125 := fun h1 h2 z hz => by
      obtain ⟨m', rfl⟩ : ∃ m', m = m' + 1 := by
        obtain ⟨a, q, a', q', h | h⟩ := h2 z hz
        · cases m with
          | zero => exact h.elim
          | succ m => exact ⟨m, rfl⟩
        · cases m with
          | zero => exact h.elim
          | succ m => exact ⟨m, rfl⟩
      obtain ⟨_, _, ho, _⟩ := check_zero' (h1 z hz)
      obtain ⟨c, r, e, hc⟩ := text_start (m := m') ho
      refine ⟨c, r, e, cls_close hc ?_⟩
      rcases kinds_of (own_zero ho).1 with k | k | k | k | k | k <;> rw [k] <;> decide
    have sa := start hka fun z hz => by
      obtain ⟨a, q, a', q', h⟩ := parts_kid hp hz
      exact ⟨a, q, a', q', .inl h⟩
    have sb := start hkb fun z hz => by
      obtain ⟨a, q, a', q', h⟩ := parts_kid hq hz
      exact ⟨a, q, a', q', .inr h⟩
    have rd : ∀ z ∈ kids a, ∀ v ∈ kids b, ∀ x y, Stop x → Stop y → lst (textF m z) ++ x = lst (textF m v) ++ y → compF m z v = 0 ∧ x = y := fun z hz v hv x y hx hy he => by
      obtain ⟨_, _, _, _, g1⟩ := parts_kid hp hz
      obtain ⟨_, _, _, _, g2⟩ := parts_kid hq hv
      exact text_read m r' x y g1 g2 (hka z hz) (hkb v hv) hx hy he
    rw [comp_zero]
    rcases kinds_of hpa with k | k | k | k | k | k
    · rw [t1 k, u1 (hk ▸ k)] at h
      have f := flat (by omega) (by omega)
      exact ⟨⟨hk, hn (by omega) (by omega), hs4 (by omega), f.1, f.2⟩, List.append_cancel_left h⟩
    · rw [t2 k, u2 (hk ▸ k)] at h
      have f := flat (by omega) (by omega)
      have ra := (range_of hoa).1 k
      have rb := (range_of hob).1 (hk ▸ k)
      have e : nD a = nD b ∧ x = y := by
        rcases ra with e1 | e1 <;> rcases rb with e2 | e2
        · rw [e1, e2] at h ⊢; exact ⟨rfl, List.append_cancel_left h⟩
        · rw [e1, e2] at h; injection h with h _; exact absurd h (by decide)
        · rw [e1, e2] at h; injection h with h _; exact absurd h (by decide)
        · rw [e1, e2] at h ⊢; exact ⟨rfl, List.append_cancel_left h⟩
      exact ⟨⟨hk, e.1, hs4 (by omega), f.1, f.2⟩, e.2⟩
    · rw [t3 k, u3 (hk ▸ k)] at h
      have f := flat (by omega) (by omega)
      have e := num_read ((range_of hoa).2 k) ((range_of hob).2 (hk ▸ k)) hx hy h
      exact ⟨⟨hk, e.1, hs4 (by omega), f.1, f.2⟩, e.2⟩
    · rw [t4 k, u4 (hk ▸ k)] at h
      have f := flat (by omega) (by omega)
      have e := quote_read h
      exact ⟨⟨hk, hn (by omega) (by omega), e.1, f.1, f.2⟩, e.2⟩
    · rw [t5 k, u5 (hk ▸ k), join_list, join_list] at h
      obtain ⟨m1, m2⟩ := hm6 (by omega)
      unfold partsL at h
      rw [m1, m2] at h
      simp only [List.map_nil, List.append_nil, List.map_map] at h
      have h2 : Lib.join ((iD a).map (lst ∘ textF m)) [44, 32] ++ 93 :: x = Lib.join ((iD b).map (lst ∘ textF m)) [44, 32] ++ 93 :: y := by
        have : (91 : UInt8) :: (Lib.join ((iD a).map (lst ∘ textF m)) [44, 32] ++ [93] ++ x) = 91 :: (Lib.join ((iD b).map (lst ∘ textF m)) [44, 32] ++ [93] ++ y) := h
        injection this with _ this
        simpa using this
      have e := list_read (f := compF m) (.inl rfl) (iD a) (iD b) (fun z hz => sa z (is_kid hz)) (fun z hz => sb z (is_kid hz)) (fun z hz v hv => rd z (is_kid hz) v (is_kid hv)) h2
      exact ⟨⟨hk, hn (by omega) (by omega), hs4 (by omega), e.1, cmpL_nil m1 m2⟩, e.2⟩
    · rw [t6 k, u6 (hk ▸ k), join_list, join_list] at h
      obtain ⟨m1, m2⟩ := hi5 (by omega)
      unfold partsL at h
      rw [m1, m2] at h
      simp only [List.map_nil, List.nil_append, List.map_map] at h
      have h2 : Lib.join ((mD a).map (lst ∘ mtext (textF m))) [44, 32] ++ 125 :: x = Lib.join ((mD b).map (lst ∘ mtext (textF m))) [44, 32] ++ 125 :: y := by
        have : (123 : UInt8) :: (Lib.join ((mD a).map (lst ∘ mtext (textF m))) [44, 32] ++ [125] ++ x) = 123 :: (Lib.join ((mD b).map (lst ∘ mtext (textF m))) [44, 32] ++ [125] ++ y) := h
        injection this with _ this
        simpa using this
      have ms : ∀ z : ByteArray × Dt, ∃ c r, (lst ∘ mtext (textF m)) z = c :: r ∧ c ≠ 93 ∧ c ≠ 125 := fun z => by
        obtain ⟨c, r, e, hc⟩ := label_start z.1
        refine ⟨c, r ++ 58 :: 32 :: lst (textF m z.2), ?_, hc⟩
        show lst (mtext (textF m) z) = _
        rw [mtext_list, e]; rfl
      have e := list_read (f := compM (compF m)) (.inr rfl) (mD a) (mD b) (fun z _ => ms z) (fun z _ => ms z) (fun z hz v hv x y hx hy he => by
        have he : lst (mtext (textF m) z) ++ x = lst (mtext (textF m) v) ++ y := he
        rw [mtext_list, mtext_list, List.append_assoc, List.append_assoc, List.cons_append, List.cons_append, List.cons_append, List.cons_append] at he
        obtain ⟨e1, e2⟩ := label_read he
        injection e2 with _ e2
        obtain ⟨e3, e4⟩ := rd z.2 (ms_kid hz) v.2 (ms_kid hv) x y hx hy e2
        refine ⟨?_, e4⟩
        unfold compM
        rw [orI_zero, cmpS_zero]
        exact ⟨e1, e3⟩) h2
      exact ⟨⟨hk, hn (by omega) (by omega), hs4 (by omega), cmpL_nil m1 m2, e.1⟩, e.2⟩
/-- Two texts of valid data are equal exactly if the data is. -/
theorem text_eq {w w' : World} {B B' m : Nat} {a b : Dt} {A c A' c' E f E' f'} (hp : Parts w B m a A c A' c') (hq : Parts w' B' m b E f E' f') (ha : checkD a = 0) (hb : checkD b = 0) : textF m a = textF m b ↔ compF m a b = 0 := by
  refine ⟨fun h => ?_, text_of_comp m⟩
  have s0 : Stop [] := fun c r e => by cases e
  exact (text_read m 16 [] [] hp hq ha hb s0 s0 (by rw [h])).1
end Go.Proofs.YtajpgmacabeeeaaDoor

/- abs, Digits and Text of a number in the reference. -/
namespace Go.Proofs.YtajpgmacabeeeaaDoor
open Go.RowKit Go.Shelf

theorem abs_run (u : Int) (h : validB u = true) (w : World) : Calls Tryd.prog 93 #[.int .i64 u] w fun e w' => e = .returned (.int .i64 (u.natAbs : Int)) ∧ w' = w := by
  have hv : -1000000000000000 ≤ u ∧ u ≤ 1000000000000000 := by
    unfold validB at h; simpa using h
  obtain ⟨h1, h2⟩ := hv
  by_cases hn : u < 0
  · have w1 : IntKind.i64.wrap (-u) = -u := IntWalk.i64_in _ (by omega)
    have e1 : -u = (u.natAbs : Int) := by omega
    have HE := Lib.hid e1
    clear h e1
    go_enter Tryd.func93, Tryd.ntmps93
    go_wp2_with fail
    go_ret
    exact ⟨by rw [← HE.out]; rfl, rfl⟩
  · have e1 : u = (u.natAbs : Int) := by omega
    have HE := Lib.hid e1
    clear h e1
    go_enter Tryd.func93, Tryd.ntmps93
    go_wp2_with fail
    go_ret
    exact ⟨by rw [← HE.out]; rfl, rfl⟩

set_option maxRecDepth 20000 in
set_option maxHeartbeats 1000000 in
theorem Digits_run (n l : Nat) (hn : n < 1000000000000000000) (hl : l ≤ 4) (w : World) :
    Calls Tryd.prog 92 #[.int .i64 n, .int .i64 l] w fun e w' => e = .returned (.string ⟨(digF 20 n l []).toArray⟩) ∧ Below w.heap.size w w' := by
  obtain ⟨res, hres⟩ : ∃ r, r = digF 20 n l [] := ⟨_, rfl⟩
  rw [← hres]
  have HRES := Lib.hid hres
  clear hres
  go_enter Tryd.func92, Tryd.ntmps92
  go_wp2_with fail
  go_loopw [0, 5] (fun nv sv wr => ∃ (f k : Nat) (T : ByteArray), nv = .int .i64 k ∧ sv = .string T ∧ k < 1000000000000000000 ∧ T.size + f = 20 ∧ Hid (k < 10 ^ f) ∧ Hid (res = digF f k l T.data.toList) ∧ Hid (Below w.heap.size w wr)) (fun _ sv _ => 20 - sizeOfV sv)
  case atStart => exact ⟨20, n, ⟨#[]⟩, rfl, rfl, hn, rfl, hide (by omega), HRES, hide (Below.refl _ _)⟩
  case round =>
    clear HRES
    obtain ⟨f, k, T, rfl, rfl, hk, hT, hf, hI, hB⟩ := hrel
    by_cases hc : 0 < k ∨ T.size < l
    · have hI' := hI.out
      have hf' := hf.out
      obtain ⟨f, rfl⟩ : ∃ f', f = f' + 1 := by
        cases f with
        | zero => exfalso; rw [Nat.pow_zero] at hf'; omega
        | succ f => exact ⟨f, rfl⟩
      unfold digF at hI'
      rw [if_pos (by rw [Array.length_toList]; exact hc)] at hI'
      by_cases k0 : k = 0
      · subst k0
        have g2 : decide ((T.size : Int) < (l : Int)) = true := by simp; omega
        have g3 : decide (T.size < l) = true := by simp; omega
        have g4 : T.size < l := by omega
        have hcv : (convert 87 9 (.slice (some ⟨wr.heap.size, 0, none⟩) 1 1)).run Tryd.prog (wr.alloc (Obj.cells #[.int .u8 48] 5)) = .ok (.string ⟨#[48]⟩) (wr.alloc (Obj.cells #[.int .u8 48] 5)) := conv_one wr 48 (by decide)
        have HF := hide (show 0 < 10 ^ f by exact Nat.pow_pos (by decide))
        have HT2 := hide (show ((⟨#[48]⟩ : ByteArray) ++ T).size + f = 20 by rw [ByteArray.size_append]; show 1 + T.size + f = 20; omega)
        have HI2 := hide (show res = digF f 0 l ((⟨#[48]⟩ : ByteArray) ++ T).data.toList by rw [hI', ByteArray.data_append, Array.toList_append]; rfl)
        have HB2 := hide (below_al hB.out (Obj.cells #[Value.int IntKind.u8 48] 5))
        clear hI' hf' hf hI hB hc
        go_wp2_with fail
        go_roundw
        case rel => exact ⟨f, 0, (⟨#[48]⟩ : ByteArray) ++ T, rfl, rfl, by decide, HT2.out, HF, HI2, HB2⟩
        case measure => have h2 := HT2.out; simp only [sizeOfV]; omega
      · obtain ⟨d, hd⟩ : ∃ d, d = 48 + k % 10 := ⟨_, rfl⟩
        obtain ⟨q, hq⟩ : ∃ q, q = k / 10 := ⟨_, rfl⟩
        obtain ⟨r, hr⟩ : ∃ r, r = k % 10 := ⟨_, rfl⟩
        rw [← hd, ← hq] at hI'
        have g1 : decide ((k : Int) > 0) = true := by simp; omega
        have e1 : (k : Int).tmod 10 = (r : Int) := by rw [Int.tmod_eq_emod_of_nonneg (by omega)]; omega
        have e2 : (k : Int) % 10 = (r : Int) := by omega
        have e3 : (k : Int).tdiv 10 = (q : Int) := by rw [Int.tdiv_eq_ediv_of_nonneg (by omega)]; omega
        have e4 : (k : Int) / 10 = (q : Int) := by omega
        have e5 : IntKind.i64.wrap (48 + (r : Int)) = (d : Int) := by rw [IntWalk.i64_in _ (by omega)]; omega
        have e6 : IntKind.u8.wrap (d : Int) = (d : Int) := by rw [IntKind.wrap_u8]; omega
        have e7 : IntKind.i64.wrap (r : Int) = (r : Int) := IntWalk.i64_in _ (by omega)
        have e8 : IntKind.i64.wrap (q : Int) = (q : Int) := IntWalk.i64_in _ (by omega)
        have hcv := conv_one wr d (by omega)
        have HF := hide (show q < 10 ^ f by rw [Nat.pow_succ] at hf'; omega)
        have hq2 : q < 1000000000000000000 := by omega
        have HT2 := hide (show ((⟨#[UInt8.ofNat d]⟩ : ByteArray) ++ T).size + f = 20 by rw [ByteArray.size_append]; show 1 + T.size + f = 20; omega)
        have HI2 := hide (show res = digF f q l ((⟨#[UInt8.ofNat d]⟩ : ByteArray) ++ T).data.toList by rw [hI', ByteArray.data_append, Array.toList_append]; rfl)
        have HB2 := hide (below_al hB.out (Obj.cells #[Value.int IntKind.u8 (d : Int)] 5))
        clear hd hq hr hI' hf' hf hI hB hc
        go_wp2_with fail
        go_roundw
        case rel => exact ⟨f, q, (⟨#[UInt8.ofNat d]⟩ : ByteArray) ++ T, rfl, rfl, hq2, HT2.out, HF, HI2, HB2⟩
        case measure => have h2 := HT2.out; simp only [sizeOfV]; omega
    · have g1 : decide ((k : Int) > 0) = false := by simp; omega
      have g2 : decide ((T.size : Int) < (l : Int)) = false := by simp; omega
      have g3 : decide (T.size < l) = false := by simp; omega
      have HZ := hide (show T = ⟨res.toArray⟩ by
        rw [hI.out]
        cases f with
        | zero => rfl
        | succ f => unfold digF; rw [if_neg (by rw [Array.length_toList]; exact hc)])
      clear hI hf
      go_wp2_with fail
      go_ret
      exact ⟨ret_str HZ.out, hB.out⟩

theorem drop_ext (l : List UInt8) : (⟨(l.drop 1).toArray⟩ : ByteArray) = (⟨l.toArray⟩ : ByteArray).extract 1 (⟨l.toArray⟩ : ByteArray).size := by
  refine ByteArray.ext (Array.toList_inj.1 ?_)
  rw [ByteArray.data_extract]
  have : (⟨l.toArray⟩ : ByteArray).size = l.length := by show l.toArray.size = _; simp
  rw [this]
  simp
  rw [List.take_of_length_le (by simp)]

set_option maxRecDepth 20000 in
set_option maxHeartbeats 2000000 in
theorem refNumText_run (u : Int) (w : World) : Calls Tryd.prog 77 #[.int .i64 u] w fun e w' => e = .returned (.string (numB u)) ∧ Below w.heap.size w w' := by
  obtain ⟨res, hres⟩ : ∃ r, r = numB u := ⟨_, rfl⟩
  rw [← hres]
  unfold numB at hres
  have HV := hide fun w => refValid_run u w
  cases hv : validB u with
  | false =>
    rw [hv] at HV hres
    have HZ := hide (show res = ⟨#[63]⟩ by rw [hres]; simp)
    clear hres
    go_enter Tryd.func77, Tryd.ntmps77
    go_wp2_with fail
    refine (HV.out _).mono ?_; rintro e w' ⟨rfl, rfl⟩
    go_wp2_with fail
    go_ret
    exact ⟨ret_str HZ.out.symm, Below.refl _ _⟩
  | true =>
    have HSZ := hide fun w => abs_run u hv w
    have hb : u.natAbs ≤ 1000000000000000 := by unfold validB at hv; simp at hv; omega
    rw [hv] at HV hres
    obtain ⟨n, hn⟩ : ∃ n, n = u.natAbs := ⟨_, rfl⟩
    have hnat := Int.natAbs_tmod u 10000
    have hmod : u.tmod 10000 = 0 ↔ n % 10000 = 0 := by
      rw [hn]
      constructor
      · intro h; rw [h] at hnat; exact hnat.symm
      · intro h
        have h2 : (u.tmod 10000).natAbs = 0 := hnat.trans h
        omega
    have hmb : (u.tmod 10000).natAbs < 10000 := by rw [hnat]; exact Nat.mod_lt _ (by decide)
    rw [← hn] at HSZ hb hres
    have HF1 := hide fun w' => Digits_run (n / 10000) 1 (by omega) (by omega) w'
    have HF2 := hide fun w' => Digits_run (n % 10000) 4 (by omega) (by omega) w'
    rw [digF_dec _ (by omega)] at HF1
    rw [digF_four _ (by omega), drop_ext] at HF2
    have e1 : (n : Int).tdiv 10000 = ((n / 10000 : Nat) : Int) := by rw [Int.tdiv_eq_ediv_of_nonneg (by omega)]; omega
    have e2 : (n : Int).tmod 10000 = ((n % 10000 : Nat) : Int) := by rw [Int.tmod_eq_emod_of_nonneg (by omega)]; omega
    have e3 : (n : Int) / 10000 = ((n / 10000 : Nat) : Int) := by omega
    have e4 : (n : Int) % 10000 = ((n % 10000 : Nat) : Int) := by omega
    have w4 : IntKind.i64.wrap ((n / 10000 : Nat) : Int) = ((n / 10000 : Nat) : Int) := IntWalk.i64_in _ (by omega)
    have w5 : IntKind.i64.wrap ((n % 10000 : Nat) : Int) = ((n % 10000 : Nat) : Int) := IntWalk.i64_in _ (by omega)
    have w6 : IntKind.i64.wrap (u.tmod 10000) = u.tmod 10000 := IntWalk.i64_in _ (by omega)
    obtain ⟨D, hD⟩ : ∃ D, D = decB (n / 10000) := ⟨_, rfl⟩
    obtain ⟨F, hF⟩ : ∃ D, D = decB (n % 10000 + 10000) := ⟨_, rfl⟩
    have hDs : D.size ≤ 20 := by rw [hD, decB_size]; exact nDigits_small (by omega)
    have hFs : F.size = 5 := by rw [hF, decB_size]; exact Lib.nDigits_unique 4 _ (by omega) (by omega)
    have HNE := hide (show n % 10000 ≠ 0 → (trimB (F.extract 1 F.size)).toList ≠ [] from fun h => by rw [hF]; exact frac_some (by omega) h)
    have HZE := hide (show n % 10000 = 0 → dotB (trimB (F.extract 1 F.size)) = ByteArray.empty from fun h => by
      rw [hF]
      have : trimB ((decB (n % 10000 + 10000)).extract 1 (decB (n % 10000 + 10000)).size) = ByteArray.empty := by rw [h]; exact frac_zero
      rw [this]
      have e0 : ByteArray.empty.toList = [] := by rw [ByteArray.toList_eq]; rfl
      unfold dotB; rw [if_pos e0])
    rw [show (⟨(Lib.decDigits (n / 10000)).toArray⟩ : ByteArray) = D from hD.symm] at HF1
    rw [show (⟨(Lib.decDigits (n % 10000 + 10000)).toArray⟩ : ByteArray) = F from hF.symm] at HF2
    unfold fracB at hres
    rw [← hD, ← hF] at hres
    have HRES := Lib.hid hres
    obtain ⟨q, hq⟩ : ∃ q, q = n / 10000 := ⟨_, rfl⟩
    obtain ⟨r, hr⟩ : ∃ q, q = n % 10000 := ⟨_, rfl⟩
    rw [← hq] at e1 e3 HF1 w4
    rw [← hr] at e2 e4 HF2 w5 HNE HZE hmod
    obtain ⟨tm, htm⟩ : ∃ t, t = u.tmod 10000 := ⟨_, rfl⟩
    have e9 := htm.symm
    rw [← htm] at w6 hmod
    clear hres hv hn hb hD hF hq hr htm hnat hmb
    go_enter Tryd.func77, Tryd.ntmps77
    go_wp2_with fail
    refine (HV.out _).mono ?_; rintro e w' ⟨rfl, rfl⟩
    go_wp2_with fail
    refine (HSZ.out _).mono ?_; rintro e w' ⟨rfl, rfl⟩
    go_wp2_with fail
    refine (HF1.out _).mono ?_; rintro e w2 ⟨rfl, hB2⟩
    have HB2 := hide hB2
    clear hB2 HF1
    obtain ⟨G, hG⟩ : ∃ G, G = signB u D := ⟨_, rfl⟩
    have hGs : G.size ≤ 21 := by
      rw [hG]; unfold signB; split
      · rw [ByteArray.size_append]; show 1 + D.size ≤ 21; omega
      · omega
    have hGG : (u < 0 ∧ (⟨#[45]⟩ : ByteArray) ++ D = G) ∨ (¬ u < 0 ∧ D = G) := by
      by_cases h : u < 0
      · exact .inl ⟨h, by rw [hG, signB, if_pos h]⟩
      · exact .inr ⟨h, by rw [hG, signB, if_neg h]⟩
    have HR2 := hide (show res = G ++ dotB (trimB (F.extract 1 F.size)) by rw [HRES.out, if_neg (by simp), hG])
    clear hG HRES
    obtain ⟨R, hR⟩ : ∃ R, R = F.extract 1 F.size := ⟨_, rfl⟩
    have hRs : R.size = 4 := by rw [hR, ByteArray.size_extract]; omega
    rw [← hR] at HR2 HF2 HNE HZE
    clear hR hFs
    by_cases hr0 : r = 0
    · have g3 : (tm == 0) = true := by simpa using hmod.2 hr0
      have HZ := hide (show res = G by rw [HR2.out, HZE.out hr0]; exact ByteArray.append_empty)
      clear hmod HNE HZE HF2 HR2 hr0
      rcases hGG with ⟨hu, hGG⟩ | ⟨hu, hGG⟩
      all_goals
        have HGG := Lib.hid hGG
        clear hGG
        go_wp2_with fail
        go_ret
        exact ⟨by first | (rw [HZ.out, ← HGG.out]; done) | (rw [HZ.out, ← HGG.out]; rfl), HB2.out⟩
    · have g3 : (tm == 0) = false := by
        rw [beq_eq_false_iff_ne]; exact fun h => hr0 (hmod.1 h)
      have HNE2 := hide (HNE.out hr0)
      clear hmod HNE HZE hr0
      rcases hGG with ⟨hu, hGG⟩ | ⟨hu, hGG⟩
      all_goals
        have HGG := Lib.hid hGG
        clear hGG
        go_wp2_with fail
        refine (HSZ.out _).mono ?_; rintro e w' ⟨rfl, rfl⟩
        go_wp2_with fail
        refine (HF2.out _).mono ?_; rintro e w3 ⟨rfl, hB3⟩
        have HB3 := hide (HB2.out.trans (hB3.mono HB2.out.size))
        clear hB3 HF2 HB2
        go_wp2_with fail
        go_loopw [4] (fun tv wr => ∃ (k : Nat) (T : ByteArray), tv = .string T ∧ T.size = k ∧ k ≤ 4 ∧ Hid (trimB R = trimF k T) ∧ wr = w3) (fun tv _ => sizeOfV tv)
        case atStart => exact ⟨4, R, rfl, hRs, by omega, hide (by rw [trimB, hRs]), rfl⟩
        case round =>
          obtain ⟨k, T, rfl, hTs, hk, hI, rfl⟩ := hrel
          cases k with
          | zero =>
            exfalso
            refine HNE2.out ?_
            rw [hI.out, trimF, Lib.toList_data]
            exact List.eq_nil_of_length_eq_zero (by rw [Array.length_toList]; exact hTs)
          | succ n =>
            have hn : n < T.size := by omega
            have hq := hI.out
            rw [trimF, get_eq T n hn] at hq
            have hidx : IntKind.i64.wrap (((n + 1 : Nat) : Int) - 1) = (n : Int) := by rw [IntWalk.i64_in _ (by omega)]; omega
            by_cases h48 : T[n] = 48
            · rw [if_pos h48] at hq
              have g8 : ((T[n].toNat : Int) == 48) = true := by rw [h48]; rfl
              have HQ := Lib.hid hq
              have hT2 : (T.extract 0 n).size = n := by rw [ByteArray.size_extract]; omega
              have HT2 := Lib.hid hT2
              clear hq h48 hI hT2
              go_wp2_with fail
              go_roundw
              case rel => exact ⟨n, T.extract 0 n, rfl, HT2.out, by omega, HQ, by first | rfl | trivial⟩
              case measure => simp [sizeOfV]; omega
            · rw [if_neg h48] at hq
              have g8 : ((T[n].toNat : Int) == 48) = false := by
                have : T[n].toNat ≠ 48 := fun h => h48 (UInt8.toNat_inj.1 (by rw [h]; rfl))
                simp; omega
              have hne : T.toList ≠ [] := fun h => by
                rw [Lib.toList_data] at h
                have h2 : T.data.toList.length = T.size := by rw [Array.length_toList]; rfl
                rw [h] at h2; simp at h2; omega
              have HZ := hide (show res = (G ++ ⟨#[46]⟩) ++ T by rw [HR2.out, hq, dotB, if_neg hne, ByteArray.append_assoc])
              clear hq h48 hne hI
              go_wp2_with fail
              go_ret
              exact ⟨by first | (rw [HZ.out, ← HGG.out]; done) | (rw [HZ.out, ← HGG.out]; rfl), HB3.out⟩
end Go.Proofs.YtajpgmacabeeeaaDoor

/- text and Text of the reference. -/
namespace Go.Proofs.YtajpgmacabeeeaaDoor
open Go.RowKit Go.Shelf

theorem comB_pre {l L : List ByteArray} (h : l <+: L) (hL : sumN (fun x => x.size + 2) L ≤ 1000000000) : (comB l).size ≤ 1000000000 := by
  obtain ⟨t, rfl⟩ := h
  rw [sumN_append] at hL
  have := comB_size l
  omega
theorem joinB_com (o e : ByteArray) (L : List ByteArray) : joinB o e L = o ++ comB L ++ e := rfl
theorem mtext_assoc (O L T : ByteArray) : ((O ++ L) ++ ⟨#[58, 32]⟩) ++ T = O ++ (L ++ ⟨#[58, 32]⟩ ++ T) := by
  rw [ByteArray.append_assoc, ByteArray.append_assoc, ← ByteArray.append_assoc (a := L)]

set_option maxRecDepth 100000 in
set_option maxHeartbeats 4000000 in
theorem rtext_run : ∀ (m r : Nat) (d : Dt) (A : Option Addr) (c : Nat) (A' : Option Addr) (c' : Nat) (w : World), Parts w w.heap.size m d A c A' c' → checkF r d = 0 → tbF m d ≤ 1000000000 →
    Calls Tryd.prog 54 #[datV d A c A' c'] w fun e w' => e = .returned (.string (textF m d)) ∧ Below w.heap.size w w' := by
  intro m
  induction m with
  | zero => intro r d A c A' c' w hp _ _; exact hp.elim
  | succ m ih =>
    intro r d A c A' c' w hp hv hbd
    obtain ⟨r', rfl, hown, hkv⟩ := check_zero' hv
    obtain ⟨hpl0, _⟩ := own_zero hown
    have hk6 := kinds_of hpl0
    have hflat : (iD d).length = 0 ∨ (mD d).length = 0 := by
      obtain ⟨_, _, p3, p4⟩ := plain_fields hpl0
      rcases p3 with h | h
      · right; rw [p4.resolve_left (by omega)]; rfl
      · left; rw [h]; rfl
    have htb := partsL_le m (textF m) (textF_le m) d
    have HPL := hide (show sumN (fun x => x.size + 2) (partsL (textF m) d) ≤ 1000000000 by omega)
    have hpl : (partsL (textF m) d).length ≤ 1000000000 := Nat.le_trans (sumN_len (fun x : ByteArray => x.size + 2) (fun x => by omega) _) HPL.out
    have hsz : (sD d).size ≤ 1000000000 := by omega
    obtain ⟨hb1, hb2⟩ := tbF_kids (m := m) (d := d)
    obtain ⟨⟨h1, h2, h3, h4⟩, hI, hM⟩ := hp
    have hm := maxLen_le h2; have hm' := maxLen_le h4
    have HI := hide fun i x (h : (iD d)[i]? = some x) => And.intro (hI i x h) (And.intro (hkv x (is_kid (List.mem_of_getElem? h))) (show tbF m x ≤ 1000000000 by have := hb1 x (List.mem_of_getElem? h); omega))
    have HM := hide fun i x (h : (mD d)[i]? = some x) => And.intro (hM i x h) (And.intro (hkv x.2 (ms_kid (List.mem_of_getElem? h))) (show x.1.size ≤ 1000000000 ∧ tbF m x.2 ≤ 1000000000 by have := hb2 x (List.mem_of_getElem? h); omega))
    obtain ⟨res, hres⟩ : ∃ r, r = textF (m + 1) d := ⟨_, rfl⟩
    rw [← hres]
    rw [textF] at hres
    unfold datV datCs
    obtain ⟨k, hk⟩ : ∃ k, k = kD d := ⟨_, rfl⟩
    obtain ⟨n, hn'⟩ : ∃ k, k = nD d := ⟨_, rfl⟩
    obtain ⟨s, hs⟩ : ∃ k, k = sD d := ⟨_, rfl⟩
    obtain ⟨L, hL⟩ : ∃ k, k = partsL (textF m) d := ⟨_, rfl⟩
    rw [← hL] at HPL hpl
    rw [← hk, ← hn', ← hs, ← hL] at hres
    rw [← hs] at hsz
    rw [← hk] at hk6
    unfold partsL at hL
    obtain ⟨xs, hxs⟩ : ∃ k, k = iD d := ⟨_, rfl⟩
    obtain ⟨ys, hys⟩ : ∃ k, k = mD d := ⟨_, rfl⟩
    rw [← hxs] at HI h1 hflat
    rw [← hys] at HM h3 hflat
    rw [← hxs, ← hys] at hL
    rw [← hk, ← hn', ← hs, ← hxs, ← hys]
    have hxy : xs.length + ys.length ≤ 1000000000 := by rw [hL] at hpl; simpa using hpl
    obtain ⟨LA, hLA⟩ : ∃ k, k = xs.map (textF m) := ⟨_, rfl⟩
    obtain ⟨LC, hLC⟩ : ∃ k, k = ys.map (mtext (textF m)) := ⟨_, rfl⟩
    have HLA := hide (show ∀ i X, xs[i]? = some X → LA[i]? = some (textF m X) from fun i X h => by rw [hLA, List.getElem?_map, h]; rfl)
    have HLC := hide (show ∀ i X, ys[i]? = some X → LC[i]? = some (mtext (textF m) X) from fun i X h => by rw [hLC, List.getElem?_map, h]; rfl)
    have HLAL := hide (show LA.length = xs.length by rw [hLA, List.length_map])
    have HLCL := hide (show LC.length = ys.length by rw [hLC, List.length_map])
    rw [← hLA, ← hLC] at hL
    clear hLA hLC
    obtain ⟨x, hx⟩ : ∃ k, k = xs.length := ⟨_, rfl⟩
    obtain ⟨y, hy⟩ : ∃ k, k = ys.length := ⟨_, rfl⟩
    rw [← hx] at h1 hxy hflat
    rw [← hy] at h3 hxy hflat
    rw [← hx, ← hy]
    have HPA := hide (show ∀ i, (comB (LA.take i)).size ≤ 1000000000 from fun i => comB_pre (by rw [hL]; exact (List.take_prefix i LA).trans (List.prefix_append _ _)) HPL.out)
    have HPC := hide (show ∀ i, (comB (LA ++ LC.take i)).size ≤ 1000000000 from fun i => comB_pre (by rw [hL]; exact (List.prefix_append_right_inj LA).2 (List.take_prefix i LC)) HPL.out)
    have HL := Lib.hid hL; have HX := Lib.hid hx; have HY := Lib.hid hy; have HRES := Lib.hid hres
    have HQ := hide fun w => refQuote_run s hsz w
    have HN := hide fun w => refNumText_run n w
    have HLL := hide fun S (h : S.size ≤ 1000000000) w => refLabel_run S h w
    clear hk hn' hs hxs hys hx hy h2 h4 hL hM hI hres hb1 hb2 hbd htb hpl hpl0 hv hkv hown
    go_enter Tryd.func54, Tryd.ntmps54
    go_upto_region 1 with fail
    obtain ⟨w1, g, e1, e2, hBL, c0, c1, c2, c3, c4, hROW⟩ := boxD w k n s (.slice A x c) (.slice A' y c')
    rw [e1, e2]
    have HBL := hide hBL; have HROW := hide hROW
    have hgl : g < w1.heap.size := hROW.lt
    have hgw : w.heap.size ≤ g := by omega
    clear e1 e2 hBL hROW
    have HC := hide fun W (h : Below w1.heap.size w1 W) => row5 (HROW.out.below h)
    by_cases k1 : k = 1
    · subst k1
      have HZ := hide (show res = ⟨#[110, 117, 108, 108]⟩ by rw [HRES.out]; rfl)
      go_wp2_with fail
      go_ret
      exact ⟨ret_str HZ.out.symm, HBL.out⟩
    by_cases k2 : k = 2
    · subst k2
      by_cases n1 : n = 1
      · subst n1
        have HZ := hide (show res = ⟨#[116, 114, 117, 101]⟩ by rw [HRES.out]; rfl)
        go_wp2_with fail
        go_ret
        exact ⟨ret_str HZ.out.symm, HBL.out⟩
      · have HZ := hide (show res = ⟨#[102, 97, 108, 115, 101]⟩ by rw [HRES.out]; unfold textK; rw [if_pos rfl, if_neg n1])
        have g1 : (n == 1) = false := by simpa using n1
        go_wp2_with fail
        go_ret
        exact ⟨ret_str HZ.out.symm, HBL.out⟩
    by_cases k3 : k = 3
    · subst k3
      have HZ := hide (show res = numB n by rw [HRES.out]; rfl)
      go_wp2_with fail
      refine (HN.out _).mono ?_; rintro e w4 ⟨rfl, hB4⟩
      have HB4 := hide (HBL.out.trans (hB4.mono HBL.out.size))
      clear hB4
      go_wp2_with fail
      go_ret
      exact ⟨ret_str HZ.out.symm, HB4.out⟩
    by_cases k4 : k = 4
    · subst k4
      have HZ := hide (show res = quoteB s by rw [HRES.out]; rfl)
      go_wp2_with fail
      refine (HQ.out _).mono ?_; rintro e w4 ⟨rfl, hB4⟩
      have HB4 := hide (HBL.out.trans (hB4.mono HBL.out.size))
      clear hB4
      go_wp2_with fail
      go_ret
      exact ⟨ret_str HZ.out.symm, HB4.out⟩
    have g1 : (k == 1) = false := by simpa using k1
    have g2 : (k == 2) = false := by simpa using k2
    have g3 : (k == 3) = false := by simpa using k3
    have g4 : (k == 4) = false := by simpa using k4
    have HFIN := hide (show (k = 5 ∧ res = ⟨#[91]⟩ ++ comB L ++ ⟨#[93]⟩) ∨ ((k == 5) = false ∧ res = ⟨#[123]⟩ ++ comB L ++ ⟨#[125]⟩) by
      rcases (show k = 5 ∨ k = 6 by omega) with h | h
      · exact .inl ⟨h, by rw [HRES.out, h]; rfl⟩
      · exact .inr ⟨by rw [h]; rfl, by rw [HRES.out, h]; rfl⟩)
    clear HRES HQ HN k1 k2 k3 k4 hk6 hsz HPL
    go_wp2_with fail
    clear g1 g2 g3 g4 c0 c1 c2 c3 c4
    go_loopw [3, 4] (fun ov iv wr => ∃ (i : Nat) (O : ByteArray), iv = .int .i64 i ∧ ov = .string O ∧ i ≤ x ∧ O.size ≤ 1000000000 ∧ Hid (O = comB (LA.take i)) ∧ Hid (Below w1.heap.size w1 wr)) (fun _ iv _ => x - (intOf iv).toNat)
    case atStart => exact ⟨0, ⟨#[]⟩, rfl, rfl, Nat.zero_le _, by decide, hide rfl, hide (Below.refl _ _)⟩
    case round =>
      obtain ⟨i, O, rfl, rfl, hi, hO, hI, hB⟩ := hrel
      have hwB := HBL.out.trans (hB.out.mono HBL.out.size)
      obtain ⟨c0, c1, c2, c3, c4⟩ := HC.out _ hB.out
      by_cases hlt : i < x
      · have hlt' : i < xs.length := by rw [← HX.out]; exact hlt
        obtain ⟨⟨ad, rfl, hb, a, q, a', q', hfive, hpts⟩, hkd, htx⟩ := HI.out i _ (List.getElem?_eq_getElem hlt')
        obtain ⟨X, hX⟩ : ∃ X, X = xs[i] := ⟨_, rfl⟩
        rw [← hX] at hfive hpts htx hkd
        have hbb : (ad.add (i * 5)).block < w.heap.size := by rw [block_of_add]; exact hb
        obtain ⟨s0, s1, s2, s3, s4⟩ := hfive.same hbb (Same.of_below hwB)
        have HCK := hide (ih r' X a q a' q' wr (hpts.turn (Same.of_below hwB) hwB.size) hkd htx)
        have hts := textF_le m X
        have HXX := hide (show (if 0 < i then O ++ ⟨#[44, 32]⟩ else O) ++ textF m X = comB (LA.take (i + 1)) by
          have h1 : (LA.take i).length = i := by rw [List.length_take, HLAL.out]; omega
          rw [List.take_add_one, HLA.out i _ (List.getElem?_eq_getElem hlt'), ← hX]
          show _ = comB (LA.take i ++ [textF m X])
          rw [comB_push, h1, ← hI.out])
        unfold datV datCs at HCK
        obtain ⟨T, hT⟩ : ∃ T, T = textF m X := ⟨_, rfl⟩
        rw [← hT] at HCK HXX hts
        have hT1 : T.size ≤ 1000000000 := by omega
        clear hfive hpts hX hlt' hb hbb htx hT hwB hI hkd hts
        by_cases hi0 : 0 < i
        · have g1 : decide ((i : Int) > 0) = true := by simp; omega
          have HY2 := hide (show O ++ ⟨#[44, 32]⟩ ++ T = comB (LA.take (i + 1)) by have := HXX.out; rwa [if_pos hi0] at this)
          have hs1 : (O ++ ⟨#[44, 32]⟩ : ByteArray).size ≤ 1000000002 := by rw [bsize_append]; show O.size + 2 ≤ _; omega
          clear HXX
          go_wp2_with fail
          refine HCK.out.mono ?_; rintro e w4 ⟨rfl, hB4⟩
          have HB4 := hide (hB.out.trans (hB4.mono hB.out.size))
          clear hB4 HCK s0 s1 s2 s3 s4 c0 c1 c2 c3 c4 hB
          go_wp2_with fail
          go_roundw
          case rel => exact ⟨i + 1, _, by go_num, rfl, by omega, by rw [HY2.out]; exact HPA.out _, HY2, HB4⟩
          case measure => simp [intOf]; omega
        · have g1 : decide ((i : Int) > 0) = false := by simp; omega
          have HY2 := hide (show O ++ T = comB (LA.take (i + 1)) by have := HXX.out; rwa [if_neg hi0] at this)
          clear HXX
          go_wp2_with fail
          refine HCK.out.mono ?_; rintro e w4 ⟨rfl, hB4⟩
          have HB4 := hide (hB.out.trans (hB4.mono hB.out.size))
          clear hB4 HCK s0 s1 s2 s3 s4 c0 c1 c2 c3 c4 hB
          go_wp2_with fail
          go_roundw
          case rel => exact ⟨i + 1, _, by go_num, rfl, by omega, by rw [HY2.out]; exact HPA.out _, HY2, HB4⟩
          case measure => simp [intOf]; omega
      · obtain rfl : i = x := by omega
        have HO0 := hide (show O = comB (LA ++ LC.take 0) by
          have e : LA.take i = LA := by rw [HX.out, ← HLAL.out, List.take_length]
          rw [hI.out, e, List.take_zero, List.append_nil])
        have HB0 := hide hB.out
        clear hI hwB
        go_wp2_with fail
        clear hB c0 c1 c2 c3 c4 HI hlt hi
        obtain ⟨w2, rfl⟩ : ∃ w2, w2 = wr := ⟨_, rfl⟩
        go_loopw [3, 5] (fun ov iv wr => ∃ (j : Nat) (O : ByteArray), iv = .int .i64 j ∧ ov = .string O ∧ j ≤ y ∧ O.size ≤ 1000000000 ∧ Hid (O = comB (LA ++ LC.take j)) ∧ Hid (Below w1.heap.size w1 wr)) (fun _ iv _ => y - (intOf iv).toNat)
        case atStart => exact ⟨0, O, rfl, rfl, Nat.zero_le _, hO, HO0, HB0⟩
        case round =>
          clear HO0 HB0
          obtain ⟨j, O, rfl, rfl, hj, hO, hI, hB⟩ := hrel
          have hwB := HBL.out.trans (hB.out.mono HBL.out.size)
          obtain ⟨c0, c1, c2, c3, c4⟩ := HC.out _ hB.out
          by_cases hlt : j < y
          · have hlt' : j < ys.length := by rw [← HY.out]; exact hlt
            have hx0 : i = 0 := by omega
            obtain ⟨⟨ad, rfl, hb, hlab, a, q, a', q', hfive, hpts⟩, hkd, hls, htx⟩ := HM.out j _ (List.getElem?_eq_getElem hlt')
            obtain ⟨M, hMM⟩ : ∃ M, M = ys[j] := ⟨_, rfl⟩
            rw [← hMM] at hlab hfive hpts htx hls hkd
            have hbb : (ad.add (j * 6)).block < w.heap.size := by rw [block_of_add]; exact hb
            have HSIX := hide fun W (h : Below wr.heap.size wr W) => And.intro (HC.out W (hB.out.trans (h.mono hB.out.size))).2.2.2.2 (six_of (((hwB.trans (h.mono hwB.size)).cell (p := ad.add (j * 6)) hbb).trans hlab) (hfive.same (p := ⟨_, _, none⟩) hbb (Same.of_below (hwB.trans (h.mono hwB.size)))))
            have HCK := hide fun w' (h : Below wr.heap.size wr w') => ih r' M.2 a q a' q' w' (hpts.turn (Same.of_below (hwB.trans (h.mono hwB.size))) (hwB.trans (h.mono hwB.size)).size) hkd htx
            have HLB := hide fun w' => HLL.out M.1 hls w'
            have hts := textF_le m M.2
            have hlbs := labelB_size M.1
            have HXX := hide (show (if 0 < j then O ++ ⟨#[44, 32]⟩ else O) ++ (labelB M.1 ++ ⟨#[58, 32]⟩ ++ textF m M.2) = comB (LA ++ LC.take (j + 1)) by
              have h1 : (LA ++ LC.take j).length = j := by rw [List.length_append, List.length_take, HLAL.out, HLCL.out, ← HX.out]; omega
              rw [List.take_add_one, HLC.out j _ (List.getElem?_eq_getElem hlt'), ← hMM, ← List.append_assoc]
              show _ = comB ((LA ++ LC.take j) ++ [mtext (textF m) M])
              rw [comB_push, h1, ← hI.out]; rfl)
            unfold datV datCs at HCK
            obtain ⟨T, hT⟩ : ∃ T, T = textF m M.2 := ⟨_, rfl⟩
            rw [← hT] at HCK HXX hts
            obtain ⟨LB, hLB⟩ : ∃ T, T = labelB M.1 := ⟨_, rfl⟩
            rw [← hLB] at HLB HXX hlbs
            have hT1 : T.size ≤ 1000000000 := by omega
            have hLB1 : LB.size ≤ 4000000002 := by omega
            obtain ⟨d4, s0, s1, s2, s3, s4, s5⟩ := HSIX.out _ (Below.refl _ _)
            clear hlab hfive hpts hMM hlt' hb hbb hT hLB hI hkd hls htx hts hlbs hx0
            by_cases hj0 : 0 < j
            · have g1 : decide ((j : Int) > 0) = true := by simp; omega
              have HY2 := hide (show ((O ++ ⟨#[44, 32]⟩ ++ LB) ++ ⟨#[58, 32]⟩) ++ T = comB (LA ++ LC.take (j + 1)) by have := HXX.out; rw [if_pos hj0] at this; rw [mtext_assoc]; exact this)
              have hs1 : (O ++ ⟨#[44, 32]⟩ : ByteArray).size ≤ 1000000002 := by rw [bsize_append]; show O.size + 2 ≤ _; omega
              clear HXX
              go_wp2_with fail
              go_region_held_law (fun W => W.cell? ⟨g, 4, none⟩ = some (.slice (some ad) y c') ∧ (W.cell? (ad.add (j * 6)) = some (.string M.1) ∧ W.cell? ⟨(ad.add (j * 6)).block, (ad.add (j * 6)).off + 1, none⟩ = some (.int .i64 (kD M.2)) ∧ W.cell? ⟨(ad.add (j * 6)).block, (ad.add (j * 6)).off + 2, none⟩ = some (.int .i64 (nD M.2)) ∧ W.cell? ⟨(ad.add (j * 6)).block, (ad.add (j * 6)).off + 3, none⟩ = some (.string (sD M.2)) ∧
                  W.cell? ⟨(ad.add (j * 6)).block, (ad.add (j * 6)).off + 4, none⟩ = some (.slice a (iD M.2).length q) ∧ W.cell? ⟨(ad.add (j * 6)).block, (ad.add (j * 6)).off + 5, none⟩ = some (.slice a' (mD M.2).length q')))
                (first
                  | exact HSIX.out _ (((Below.refl _ _).drew.trans hB3).trans (hB4.mono hB3.size))
                  | exact HSIX.out _ ((Below.refl _ _).drew.trans hB3)
                  | exact HSIX.out _ (Below.refl _ _).drew)
                (first
                  | (go_at_call 79; refine (HLB.out _).mono ?_; rintro e w3 ⟨rfl, hB3⟩)
                  | (go_at_call 54; refine (HCK.out _ ((Below.refl _ _).drew.trans hB3)).mono ?_; rintro e w4 ⟨rfl, hB4⟩))
              all_goals
                have HB4 := hide (hB.out.trans ((((Below.refl _ _).drew.trans hB3).trans (hB4.mono hB3.size)).mono hB.out.size))
                clear hB3 hB4 HCK HSIX HLB s0 s1 s2 s3 s4 s5 d4 c0 c1 c2 c3 c4 hB hwB
                go_wp2_with fail
                go_roundw
                case rel => exact ⟨j + 1, _, by go_num, rfl, by omega, by rw [HY2.out]; exact HPC.out _, HY2, HB4⟩
                case measure => simp [intOf]; omega
            · have g1 : decide ((j : Int) > 0) = false := by simp; omega
              have HY2 := hide (show ((O ++ LB) ++ ⟨#[58, 32]⟩) ++ T = comB (LA ++ LC.take (j + 1)) by have := HXX.out; rw [if_neg hj0] at this; rw [mtext_assoc]; exact this)
              clear HXX
              go_wp2_with fail
              go_region_held_law (fun W => W.cell? ⟨g, 4, none⟩ = some (.slice (some ad) y c') ∧ (W.cell? (ad.add (j * 6)) = some (.string M.1) ∧ W.cell? ⟨(ad.add (j * 6)).block, (ad.add (j * 6)).off + 1, none⟩ = some (.int .i64 (kD M.2)) ∧ W.cell? ⟨(ad.add (j * 6)).block, (ad.add (j * 6)).off + 2, none⟩ = some (.int .i64 (nD M.2)) ∧ W.cell? ⟨(ad.add (j * 6)).block, (ad.add (j * 6)).off + 3, none⟩ = some (.string (sD M.2)) ∧
                  W.cell? ⟨(ad.add (j * 6)).block, (ad.add (j * 6)).off + 4, none⟩ = some (.slice a (iD M.2).length q) ∧ W.cell? ⟨(ad.add (j * 6)).block, (ad.add (j * 6)).off + 5, none⟩ = some (.slice a' (mD M.2).length q')))
                (first
                  | exact HSIX.out _ (((Below.refl _ _).drew.trans hB3).trans (hB4.mono hB3.size))
                  | exact HSIX.out _ ((Below.refl _ _).drew.trans hB3)
                  | exact HSIX.out _ (Below.refl _ _).drew)
                (first
                  | (go_at_call 79; refine (HLB.out _).mono ?_; rintro e w3 ⟨rfl, hB3⟩)
                  | (go_at_call 54; refine (HCK.out _ ((Below.refl _ _).drew.trans hB3)).mono ?_; rintro e w4 ⟨rfl, hB4⟩))
              all_goals
                have HB4 := hide (hB.out.trans ((((Below.refl _ _).drew.trans hB3).trans (hB4.mono hB3.size)).mono hB.out.size))
                clear hB3 hB4 HCK HSIX HLB s0 s1 s2 s3 s4 s5 d4 c0 c1 c2 c3 c4 hB hwB
                go_wp2_with fail
                go_roundw
                case rel => exact ⟨j + 1, _, by go_num, rfl, by omega, by rw [HY2.out]; exact HPC.out _, HY2, HB4⟩
                case measure => simp [intOf]; omega
          · obtain rfl : j = y := by omega
            have HO2 := hide (show O = comB L by
              have e : LC.take j = LC := by rw [HY.out, ← HLCL.out, List.take_length]
              rw [hI.out, e, HL.out])
            have HB := hide hwB
            clear hI hwB hB HX HY HLA HLC HLAL HLCL HL HPA HPC HM
            rcases HFIN.out with ⟨rfl, hr⟩ | ⟨g5, hr⟩
            · have HZ := hide (show ⟨#[91]⟩ ++ O ++ ⟨#[93]⟩ = res by rw [hr, HO2.out])
              clear hr HFIN HO2
              go_wp2_with fail
              go_ret
              exact ⟨ret_str HZ.out, HB.out⟩
            · have HZ := hide (show ⟨#[123]⟩ ++ O ++ ⟨#[125]⟩ = res by rw [hr, HO2.out])
              clear hr HFIN HO2
              go_wp2_with fail
              go_ret
              exact ⟨ret_str HZ.out, HB.out⟩

set_option maxRecDepth 20000 in
theorem refText_run (m : Nat) (d : Dt) (A : Option Addr) (c : Nat) (A' : Option Addr) (c' : Nat) (w : World) (hp : Parts w w.heap.size m d A c A' c') (hb : tbF m d ≤ 1000000000) :
    Calls Tryd.prog 34 #[datV d A c A' c'] w fun e w' => e = .returned (.tuple #[.string (textD m d), .int .i64 (checkD d)]) ∧ Below w.heap.size w w' := by
  have HC := hide fun w' (hB : Below w.heap.size w w') => refCheck_run m d A c A' c' w' (hp.turn (Same.of_below hB) hB.size)
  have HT := hide fun (h : checkD d = 0) w' (hB : Below w.heap.size w w') => rtext_run m 16 d A c A' c' w' (hp.turn (Same.of_below hB) hB.size) h hb
  unfold textD
  obtain ⟨z, hz⟩ : ∃ z, z = checkD d := ⟨_, rfl⟩
  rw [← hz] at HC HT ⊢
  obtain ⟨T, hT⟩ : ∃ z, z = textF m d := ⟨_, rfl⟩
  rw [← hT] at HT ⊢
  unfold datV datCs at HC HT
  unfold datV datCs
  obtain ⟨h1, h2, h3, h4⟩ := hp.lens
  have hm := maxLen_le h2; have hm' := maxLen_le h4
  obtain ⟨k, hk⟩ : ∃ k, k = kD d := ⟨_, rfl⟩
  obtain ⟨n, hn'⟩ : ∃ k, k = nD d := ⟨_, rfl⟩
  obtain ⟨s, hs⟩ : ∃ k, k = sD d := ⟨_, rfl⟩
  obtain ⟨x, hx⟩ : ∃ k, k = (iD d).length := ⟨_, rfl⟩
  obtain ⟨y, hy⟩ : ∃ k, k = (mD d).length := ⟨_, rfl⟩
  rw [← hk, ← hn', ← hs, ← hx, ← hy] at HC HT ⊢
  rw [← hx] at h1
  rw [← hy] at h3
  clear hp hb hz hT hk hn' hs hx hy h2 h4
  go_enter Tryd.func34, Tryd.ntmps34
  go_upto_region 1 with fail
  obtain ⟨w1, g, e1, e2, hBL, c0, c1, c2, c3, c4, hROW⟩ := boxD w k n s (.slice A x c) (.slice A' y c')
  rw [e1, e2]
  have HBL := hide hBL; have HROW := hide hROW
  clear e1 e2 hBL hROW
  go_wp2_with fail
  refine (HC.out _ HBL.out).mono ?_; rintro e w2 ⟨rfl, hB2⟩
  obtain ⟨c0', c1', c2', c3', c4'⟩ := row5 (HROW.out.below hB2)
  have HB2 := hide (HBL.out.trans (hB2.mono HBL.out.size))
  clear c0 c1 c2 c3 c4 hB2 HROW HBL HC
  by_cases hz : z = 0
  · subst hz
    have HT1 := hide (HT.out (by trivial))
    clear HT
    go_wp2_with fail
    refine (HT1.out _ HB2.out).mono ?_; rintro e w3 ⟨rfl, hB3⟩
    have HB3 := hide (HB2.out.trans (hB3.mono HB2.out.size))
    clear hB3
    go_wp2_with fail
    go_ret2
    exact ⟨rfl, HB3.out⟩
  · have g1 : (z != 0) = true := by simpa using hz
    go_wp2_with fail
    go_ret2
    exact ⟨by first | rfl | (rw [if_neg hz]; rfl) | (simp [hz]; rfl), HB2.out⟩
end Go.Proofs.YtajpgmacabeeeaaDoor
