/- Ident and Label of package quote; The text of data: what it is, how long, and Label, join; text and Text of package data; Text of package data. -/
import Derived.Test.YtajpgmacabeeeaaDoorGE
import Derived.Test.YtajpgmacabeeeaaDoorLib
import Derived.Test.YtajpgmacabeeeaaDoorGC

/- Ident and Label of package quote. -/
namespace Go.Proofs.YtajpgmacabeeeaaDoor
open Go.RowKit Go.Shelf

def wordsL : List ByteArray := [⟨#[110, 117, 108, 108]⟩, ⟨#[116, 114, 117, 101]⟩, ⟨#[102, 97, 108, 115, 101]⟩, ⟨#[98, 111, 111, 108]⟩, ⟨#[105, 110, 116]⟩, ⟨#[110, 117, 109, 98, 101, 114]⟩, ⟨#[115, 116, 114, 105, 110, 103]⟩,
  ⟨#[108, 101, 116]⟩, ⟨#[105, 102]⟩, ⟨#[102, 111, 114]⟩, ⟨#[105, 110]⟩, ⟨#[112, 97, 99, 107, 97, 103, 101]⟩, ⟨#[105, 109, 112, 111, 114, 116]⟩]
def idChar (b : Nat) : Bool := letterN b || b == 95 || (decide (48 ≤ b) && decide (b ≤ 57))
def idAll (T : ByteArray) : Bool := (List.range T.size).all fun j => idChar (T.get! j).toNat
def identT (T : ByteArray) : Bool := decide (0 < T.size) && letterN (T.get! 0).toNat && idAll T
def headB (S : ByteArray) : Bool := decide (0 < S.size) && ((S.get! 0).toNat == 35 || (S.get! 0).toNat == 95)
def identB (S : ByteArray) : Bool := decide (S.size ≤ 32) && !(Lib.containsS wordsL S) && identT (if headB S then S.extract 1 S.size else S)

theorem all_up {T : ByteArray} {k : Nat} (h : ∀ j, j < k → idChar (T.get! j).toNat = true) (hk : idChar (T.get! k).toNat = true) : ∀ j, j < k + 1 → idChar (T.get! j).toNat = true := fun j hj => by
  rcases Nat.lt_or_ge j k with h1 | h1
  · exact h j h1
  · obtain rfl : j = k := by omega
    exact hk
theorem all_no {T : ByteArray} {k : Nat} (hk : k < T.size) (h : idChar (T.get! k).toNat = false) : idAll T = false := by
  unfold idAll
  rw [List.all_eq_false]
  exact ⟨k, List.mem_range.2 hk, by rw [h]; decide⟩
theorem all_yes {T : ByteArray} (h : ∀ j, j < T.size → idChar (T.get! j).toNat = true) : idAll T = true := by
  unfold idAll
  rw [List.all_eq_true]
  exact fun j hj => h j (List.mem_range.1 hj)
theorem letter_same (b : Nat) (w : World) : Calls Tryd.prog 99 #[.int .u8 b] w fun e w' => e = .returned (.bool (letterN b)) ∧ w = w' := (letter_run b w).mono fun _ _ h => ⟨h.1, h.2.symm⟩
theorem words_cells (w : World) (j : Nat) (hj : j < wordsL.length) : (w.alloc (Obj.cells ((wordsL.map Value.string).toArray) 9)).cell? ⟨w.heap.size, 0 + j, none⟩ = some (.string (wordsL.getD j ByteArray.empty)) := by
  rw [Nat.zero_add, World.cell?_alloc_mark]
  simp [List.getD, List.getElem?_eq_getElem hj]

set_option maxRecDepth 100000 in
set_option maxHeartbeats 8000000 in
theorem Ident_run (S : ByteArray) (hS : S.size ≤ 1000000000) (w : World) : Calls Tryd.prog 87 #[.string S] w fun e w' => e = .returned (.bool (identB S)) ∧ Below w.heap.size w w' := by
  obtain ⟨cb, hcb⟩ : ∃ cb, cb = Lib.containsS (wordsL.take 13) S := ⟨_, rfl⟩
  have hcon := Any.slices_Contains_string containsL w.heap.size 0 13 13 wordsL S _ (by decide) (by decide) (words_cells w)
  rw [← hcb] at hcon
  have HCON := hide hcon
  have hid : identB S = (decide (S.size ≤ 32) && !cb && identT (if headB S then S.extract 1 S.size else S)) := by rw [hcb]; rfl
  have HID := hide hid
  clear hcon hid hcb
  have hBw := below_al (Below.refl w.heap.size w) (Obj.cells ((wordsL.map Value.string).toArray) 9)
  have HBW := hide hBw
  clear hBw
  go_enter Tryd.func87, Tryd.ntmps87
  by_cases h32 : S.size ≤ 32
  · cases cb with
    | true =>
      go_wp2_with (first | (go_at_call 98; refine HCON.out.mono ?_; rintro e w' ⟨rfl, rfl⟩) | fail)
      go_ret
      exact ⟨ret_bool (by rw [HID.out]; simp), HBW.out⟩
    | false =>
      go_upto_region 4 with (first | (go_at_call 98; refine HCON.out.mono ?_; rintro e w' ⟨rfl, rfl⟩) | fail)
      obtain ⟨wz, hwz⟩ : ∃ wz, wz = w.alloc (Obj.cells (List.map Value.string wordsL).toArray 9) := ⟨_, rfl⟩
      rw [← hwz] at HBW ⊢
      clear hwz HCON
      by_cases h0 : S.size = 0
      · go_wp2_with fail
        go_ret
        exact ⟨ret_bool (by rw [HID.out]; simp [headB, identT, h0]), HBW.out⟩
      · have h0p : 0 < S.size := by omega
        have hgk : (S.get! 0).toNat = S[0].toNat := by rw [get_eq S 0 h0p]
        obtain ⟨b, hbb⟩ : ∃ b, b = S[0].toNat := ⟨_, rfl⟩
        have hb2 : (S[0].toNat : Int) = (b : Int) := by rw [hbb]
        rw [← hbb] at hgk
        clear hbb
        obtain ⟨hb, hhb⟩ : ∃ hb, hb = headB S := ⟨_, rfl⟩
        have hhd : hb = (b == 35 || b == 95) := by rw [hhb]; unfold headB; rw [hgk]; simp [h0p]
        rw [← hhb] at HID
        have HHD := hide hhd
        clear hhd hgk hhb
        go_cut [26] from 14 to 26 (fun a wc => a = .bool hb ∧ wc = wz)
        case first =>
          rcases (show b = 35 ∨ b = 95 ∨ (b ≠ 35 ∧ b ≠ 95) by omega) with rfl | rfl | ⟨g1, g2⟩
          · go_wp2_with fail
            go_meet
            exact ⟨by rw [HHD.out]; rfl, rfl⟩
          · go_wp2_with fail
            go_meet
            exact ⟨by rw [HHD.out]; rfl, rfl⟩
          · have g3 : ((b : Int) == 35) = false := by simp; omega
            have g4 : ((b : Int) == 95) = false := by simp; omega
            go_wp2_with fail
            go_meet
            exact ⟨by rw [HHD.out]; simp [g1, g2], rfl⟩
        case rest =>
          obtain ⟨rfl, ew⟩ := hcut
          obtain rfl := ew.symm
          clear hb2 HHD
          cases hb with
          | true =>
            go_upto_region 6 with fail
            obtain ⟨T, hT⟩ : ∃ T, T = S.extract 1 S.size := ⟨_, rfl⟩
            have hTs : T.size ≤ 32 := by rw [hT, ByteArray.size_extract]; omega
            have HIT := hide (show identB S = identT T by rw [HID.out, if_pos rfl, ← hT]; simp [h32])
            rw [← hT]
            clear hT HID
            by_cases t0 : T.size = 0
            · go_wp2_with fail
              go_ret
              exact ⟨ret_bool (by rw [HIT.out]; simp [identT, t0]), HBW.out⟩
            · have t0p : 0 < T.size := by omega
              have t0b : ((T.size : Int) == 0) = false := beq_false_of_ne (by omega)
              have t0c : decide (32 < (S.size : Int)) = false := by simp; omega
              have hgk : (T.get! 0).toNat = T[0].toNat := by rw [get_eq T 0 t0p]
              obtain ⟨c, hcc⟩ : ∃ c, c = T[0].toNat := ⟨_, rfl⟩
              have hc2 : (T[0].toNat : Int) = (c : Int) := by rw [hcc]
              rw [← hcc] at hgk
              clear hcc
              have HLET := hide fun w => letter_same c w
              cases hl : letterN c with
              | false =>
                rw [hl] at HLET
                have HF := hide (show identT T = false by unfold identT; rw [hgk, hl]; simp)
                clear hgk hl
                go_wp2_with (first | (go_at_call 99; refine (HLET.out _).mono ?_; rintro e w' ⟨rfl, rfl⟩) | fail)
                go_ret
                exact ⟨ret_bool (by rw [HIT.out, HF.out]), HBW.out⟩
              | true =>
                rw [hl] at HLET
                have HF := hide (show identT T = idAll T by unfold identT; rw [hgk, hl]; simp [t0p])
                clear hgk hl
                go_wp2_with (first | (go_at_call 99; refine (HLET.out _).mono ?_; rintro e w' ⟨rfl, rfl⟩) | fail)
                clear hc2 HLET
                go_loopw [4, 40] (fun a iv wr => ∃ k : Nat, k ≤ T.size ∧ iv = .int .i64 k ∧ wr = wz ∧ Hid (∀ j, j < k → idChar (T.get! j).toNat = true)) (fun _ iv _ => T.size - (intOf iv).toNat)
                case atStart => exact ⟨0, Nat.zero_le _, rfl, rfl, hide fun j hj => by omega⟩
                case round =>
                  obtain ⟨k, hk, rfl, rfl, hI⟩ := hrel
                  by_cases hlt : k < T.size
                  · have hgk : (T.get! k).toNat = T[k].toNat := by rw [get_eq T k hlt]
                    obtain ⟨c, hcc⟩ : ∃ c, c = T[k].toNat := ⟨_, rfl⟩
                    have hc2 : (T[k].toNat : Int) = (c : Int) := by rw [hcc]
                    rw [← hcc] at hgk
                    clear hcc
                    have HGK := Lib.hid hgk
                    have HLET := hide fun w => letter_same c w
                    clear hgk
                    have hcase : (letterN c = true ∨ letterN c = false ∧ (c = 95 ∨ (c ≠ 95 ∧ (c < 48 ∨ (48 ≤ c ∧ (57 < c ∨ c ≤ 57)))))) := by
                      cases letterN c
                      · exact .inr ⟨rfl, by omega⟩
                      · exact .inl rfl
                    rcases hcase with hl | ⟨hl, rfl | ⟨g1, g2 | ⟨g2, g3 | g3⟩⟩⟩
                    · have HX := hide (show idChar c = true by unfold idChar; rw [hl]; rfl)
                      rw [hl] at HLET
                      clear hl
                      go_wp2_with (first | (go_at_call 99; refine (HLET.out _).mono ?_; rintro e w' ⟨rfl, rfl⟩) | fail)
                      go_roundw
                      case rel => exact ⟨k + 1, by omega, by go_num, by first | trivial | rfl, hide (all_up hI.out (by rw [HGK.out]; exact HX.out))⟩
                      case measure => simp [intOf]; omega
                    · rw [hl] at HLET
                      clear hl
                      go_wp2_with (first | (go_at_call 99; refine (HLET.out _).mono ?_; rintro e w' ⟨rfl, rfl⟩) | fail)
                      go_roundw
                      case rel => exact ⟨k + 1, by omega, by go_num, by first | trivial | rfl, hide (all_up hI.out (by rw [HGK.out]; rfl))⟩
                      case measure => simp [intOf]; omega
                    · have HX := hide (show idChar c = false by unfold idChar; rw [hl]; simp; omega)
                      have e1 : ((c : Int) == 95) = false := by simp; omega
                      have e2 : decide ((c : Int) < 48) = true := by simp; omega
                      rw [hl] at HLET
                      clear hl
                      go_wp2_with (first | (go_at_call 99; refine (HLET.out _).mono ?_; rintro e w' ⟨rfl, rfl⟩) | fail)
                      go_ret
                      exact ⟨ret_bool (by rw [HIT.out, HF.out]; exact (all_no hlt (by rw [HGK.out]; exact HX.out)).symm), HBW.out⟩
                    · have HX := hide (show idChar c = false by unfold idChar; rw [hl]; simp; omega)
                      have e1 : ((c : Int) == 95) = false := by simp; omega
                      have e2 : decide ((c : Int) < 48) = false := by simp; omega
                      have e3 : decide ((c : Int) > 57) = true := by simp; omega
                      rw [hl] at HLET
                      clear hl
                      go_wp2_with (first | (go_at_call 99; refine (HLET.out _).mono ?_; rintro e w' ⟨rfl, rfl⟩) | fail)
                      go_ret
                      exact ⟨ret_bool (by rw [HIT.out, HF.out]; exact (all_no hlt (by rw [HGK.out]; exact HX.out)).symm), HBW.out⟩
                    · have HX := hide (show idChar c = true by unfold idChar; rw [hl]; simp; omega)
                      have e1 : ((c : Int) == 95) = false := by simp; omega
                      have e2 : decide ((c : Int) < 48) = false := by simp; omega
                      have e3 : decide ((c : Int) > 57) = false := by simp; omega
                      rw [hl] at HLET
                      clear hl
                      go_wp2_with (first | (go_at_call 99; refine (HLET.out _).mono ?_; rintro e w' ⟨rfl, rfl⟩) | fail)
                      go_roundw
                      case rel => exact ⟨k + 1, by omega, by go_num, by first | trivial | rfl, hide (all_up hI.out (by rw [HGK.out]; exact HX.out))⟩
                      case measure => simp [intOf]; omega
                  · obtain rfl : k = T.size := by omega
                    go_wp2_with fail
                    go_ret
                    exact ⟨ret_bool (by rw [HIT.out, HF.out]; exact (all_yes hI.out).symm), HBW.out⟩

          | false =>
            have HIT := hide (show identB S = identT S by rw [HID.out, if_neg (by decide)]; simp [h32])
            clear HID
            go_upto_region 6 with fail
            by_cases t0 : S.size = 0
            · go_wp2_with fail
              go_ret
              exact ⟨ret_bool (by rw [HIT.out]; simp [identT, t0]), HBW.out⟩
            · have t0p : 0 < S.size := by omega
              have t0b : ((S.size : Int) == 0) = false := beq_false_of_ne (by omega)
              have t0c : decide (32 < (S.size : Int)) = false := by simp; omega
              have hgk : (S.get! 0).toNat = S[0].toNat := by rw [get_eq S 0 t0p]
              obtain ⟨c, hcc⟩ : ∃ c, c = S[0].toNat := ⟨_, rfl⟩
              have hc2 : (S[0].toNat : Int) = (c : Int) := by rw [hcc]
              rw [← hcc] at hgk
              clear hcc
              have HLET := hide fun w => letter_same c w
              cases hl : letterN c with
              | false =>
                rw [hl] at HLET
                have HF := hide (show identT S = false by unfold identT; rw [hgk, hl]; simp)
                clear hgk hl
                go_wp2_with (first | (go_at_call 99; refine (HLET.out _).mono ?_; rintro e w' ⟨rfl, rfl⟩) | fail)
                go_ret
                exact ⟨ret_bool (by rw [HIT.out, HF.out]), HBW.out⟩
              | true =>
                rw [hl] at HLET
                have HF := hide (show identT S = idAll S by unfold identT; rw [hgk, hl]; simp [t0p])
                clear hgk hl
                go_wp2_with (first | (go_at_call 99; refine (HLET.out _).mono ?_; rintro e w' ⟨rfl, rfl⟩) | fail)
                clear hc2 HLET
                go_loopw [4, 40] (fun a iv wr => ∃ k : Nat, k ≤ S.size ∧ iv = .int .i64 k ∧ wr = wz ∧ Hid (∀ j, j < k → idChar (S.get! j).toNat = true)) (fun _ iv _ => S.size - (intOf iv).toNat)
                case atStart => exact ⟨0, Nat.zero_le _, rfl, rfl, hide fun j hj => by omega⟩
                case round =>
                  obtain ⟨k, hk, rfl, rfl, hI⟩ := hrel
                  by_cases hlt : k < S.size
                  · have hgk : (S.get! k).toNat = S[k].toNat := by rw [get_eq S k hlt]
                    obtain ⟨c, hcc⟩ : ∃ c, c = S[k].toNat := ⟨_, rfl⟩
                    have hc2 : (S[k].toNat : Int) = (c : Int) := by rw [hcc]
                    rw [← hcc] at hgk
                    clear hcc
                    have HGK := Lib.hid hgk
                    have HLET := hide fun w => letter_same c w
                    clear hgk
                    have hcase : (letterN c = true ∨ letterN c = false ∧ (c = 95 ∨ (c ≠ 95 ∧ (c < 48 ∨ (48 ≤ c ∧ (57 < c ∨ c ≤ 57)))))) := by
                      cases letterN c
                      · exact .inr ⟨rfl, by omega⟩
                      · exact .inl rfl
                    rcases hcase with hl | ⟨hl, rfl | ⟨g1, g2 | ⟨g2, g3 | g3⟩⟩⟩
                    · have HX := hide (show idChar c = true by unfold idChar; rw [hl]; rfl)
                      rw [hl] at HLET
                      clear hl
                      go_wp2_with (first | (go_at_call 99; refine (HLET.out _).mono ?_; rintro e w' ⟨rfl, rfl⟩) | fail)
                      go_roundw
                      case rel => exact ⟨k + 1, by omega, by go_num, by first | trivial | rfl, hide (all_up hI.out (by rw [HGK.out]; exact HX.out))⟩
                      case measure => simp [intOf]; omega
                    · rw [hl] at HLET
                      clear hl
                      go_wp2_with (first | (go_at_call 99; refine (HLET.out _).mono ?_; rintro e w' ⟨rfl, rfl⟩) | fail)
                      go_roundw
                      case rel => exact ⟨k + 1, by omega, by go_num, by first | trivial | rfl, hide (all_up hI.out (by rw [HGK.out]; rfl))⟩
                      case measure => simp [intOf]; omega
                    · have HX := hide (show idChar c = false by unfold idChar; rw [hl]; simp; omega)
                      have e1 : ((c : Int) == 95) = false := by simp; omega
                      have e2 : decide ((c : Int) < 48) = true := by simp; omega
                      rw [hl] at HLET
                      clear hl
                      go_wp2_with (first | (go_at_call 99; refine (HLET.out _).mono ?_; rintro e w' ⟨rfl, rfl⟩) | fail)
                      go_ret
                      exact ⟨ret_bool (by rw [HIT.out, HF.out]; exact (all_no hlt (by rw [HGK.out]; exact HX.out)).symm), HBW.out⟩
                    · have HX := hide (show idChar c = false by unfold idChar; rw [hl]; simp; omega)
                      have e1 : ((c : Int) == 95) = false := by simp; omega
                      have e2 : decide ((c : Int) < 48) = false := by simp; omega
                      have e3 : decide ((c : Int) > 57) = true := by simp; omega
                      rw [hl] at HLET
                      clear hl
                      go_wp2_with (first | (go_at_call 99; refine (HLET.out _).mono ?_; rintro e w' ⟨rfl, rfl⟩) | fail)
                      go_ret
                      exact ⟨ret_bool (by rw [HIT.out, HF.out]; exact (all_no hlt (by rw [HGK.out]; exact HX.out)).symm), HBW.out⟩
                    · have HX := hide (show idChar c = true by unfold idChar; rw [hl]; simp; omega)
                      have e1 : ((c : Int) == 95) = false := by simp; omega
                      have e2 : decide ((c : Int) < 48) = false := by simp; omega
                      have e3 : decide ((c : Int) > 57) = false := by simp; omega
                      rw [hl] at HLET
                      clear hl
                      go_wp2_with (first | (go_at_call 99; refine (HLET.out _).mono ?_; rintro e w' ⟨rfl, rfl⟩) | fail)
                      go_roundw
                      case rel => exact ⟨k + 1, by omega, by go_num, by first | trivial | rfl, hide (all_up hI.out (by rw [HGK.out]; exact HX.out))⟩
                      case measure => simp [intOf]; omega
                  · obtain rfl : k = S.size := by omega
                    go_wp2_with fail
                    go_ret
                    exact ⟨ret_bool (by rw [HIT.out, HF.out]; exact (all_yes hI.out).symm), HBW.out⟩
  · go_wp2_with fail
    go_ret
    exact ⟨ret_bool (by rw [HID.out]; simp; omega), HBW.out⟩
end Go.Proofs.YtajpgmacabeeeaaDoor

/- The text of data: what it is, how long, and Label, join. -/
namespace Go.Proofs.YtajpgmacabeeeaaDoor
open Go.RowKit Go.Shelf

def labelB (s : ByteArray) : ByteArray := if identB s = true then s else quoteB s
def joinB (o e : ByteArray) (l : List ByteArray) : ByteArray := o ++ ⟨(Lib.join (l.map (·.data.toList)) [44, 32]).toArray⟩ ++ e
def textK (k n : Int) (s : ByteArray) (L : List ByteArray) : ByteArray :=
  if k = 2 then (if n = 1 then ⟨#[116, 114, 117, 101]⟩ else ⟨#[102, 97, 108, 115, 101]⟩) else if k = 3 then numB n else if k = 4 then quoteB s
  else if k = 5 then joinB ⟨#[91]⟩ ⟨#[93]⟩ L else if k = 6 then joinB ⟨#[123]⟩ ⟨#[125]⟩ L else ⟨#[110, 117, 108, 108]⟩
def mtext (f : Dt → ByteArray) (x : ByteArray × Dt) : ByteArray := labelB x.1 ++ ⟨#[58, 32]⟩ ++ f x.2
def partsL (f : Dt → ByteArray) (d : Dt) : List ByteArray := (iD d).map f ++ (mD d).map (mtext f)
def textF : Nat → Dt → ByteArray
  | 0, _ => ByteArray.empty
  | m + 1, d => textK (kD d) (nD d) (sD d) (partsL (textF m) d)

/-- A sum over a list. -/
def sumN {α : Type} (f : α → Nat) : List α → Nat
  | [] => 0
  | x :: l => f x + sumN f l
theorem sumN_append {α : Type} (f : α → Nat) : ∀ l k : List α, sumN f (l ++ k) = sumN f l + sumN f k
  | [], k => by simp [sumN]
  | x :: l, k => by rw [List.cons_append, sumN, sumN, sumN_append f l k]; omega
theorem sumN_le {α : Type} (f : α → Nat) : ∀ {l : List α} {x : α}, x ∈ l → f x ≤ sumN f l
  | y :: l, x, h => by
    rcases List.mem_cons.1 h with rfl | h
    · rw [sumN]; omega
    · have := sumN_le f h; rw [sumN]; omega
theorem sumN_len {α : Type} (f : α → Nat) (hf : ∀ x, 1 ≤ f x) : ∀ l : List α, l.length ≤ sumN f l
  | [] => by simp [sumN]
  | x :: l => by have := sumN_len f hf l; have := hf x; rw [sumN, List.length_cons]; omega
theorem sumN_mono {α : Type} {f g : α → Nat} : ∀ {l : List α}, (∀ x ∈ l, f x ≤ g x) → sumN f l ≤ sumN g l
  | [], _ => Nat.le_refl _
  | x :: l, h => by
    have := sumN_mono (l := l) fun y hy => h y (List.mem_cons_of_mem _ hy)
    have := h x (List.mem_cons_self ..)
    rw [sumN, sumN]; omega
/-- A bound for the text, and for all that is made on the way. -/
def tbF : Nat → Dt → Nat
  | 0, _ => 60
  | m + 1, d => 60 + 4 * (sD d).size + sumN (tbF m) (iD d) + sumN (fun x : ByteArray × Dt => 10 + 4 * x.1.size + tbF m x.2) (mD d)

theorem bsize_append (a b : ByteArray) : (a ++ b).size = a.size + b.size := ByteArray.size_append
theorem quoteB_size (s : ByteArray) : (quoteB s).size ≤ 2 + 4 * s.size := by
  have : (quoteB s).size = (34 :: escL s ++ [34]).length := by
    show (34 :: escL s ++ [34]).toArray.size = _; simp
  rw [this, List.length_append]
  have h := fB_len (uptoL (fun j => escZ (s.get! j).toNat) s.size)
  rw [fB_def, uptoL_length] at h
  have : (34 :: escL s).length = (34 :: (uptoL (fun j => escZ (s.get! j).toNat) s.size).flatMap fun x => x.1.data.toList).length := rfl
  rw [this]; simp only [List.length_singleton]; omega
theorem labelB_size (s : ByteArray) : (labelB s).size ≤ 2 + 4 * s.size := by
  unfold labelB; split
  · omega
  · exact quoteB_size s
theorem trimF_size : ∀ (n : Nat) (s : ByteArray), (trimF n s).size ≤ s.size
  | 0, s => Nat.le_refl _
  | n + 1, s => by
    unfold trimF; split
    · exact Nat.le_trans (trimF_size n _) (by rw [ByteArray.size_extract]; omega)
    · exact Nat.le_refl _
theorem fracB_size (r : Nat) (hr : r < 10000) : (fracB r).size ≤ 20 := by
  have h1 := nDigits_small (u := r + 10000) (by omega)
  rw [← decB_size] at h1
  have := trimF_size ((decB (r + 10000)).extract 1 (decB (r + 10000)).size).size ((decB (r + 10000)).extract 1 (decB (r + 10000)).size)
  rw [ByteArray.size_extract] at this
  unfold fracB trimB
  rw [ByteArray.size_extract]
  omega
theorem numB_size (u : Int) : (numB u).size ≤ 50 := by
  unfold numB; split
  · decide
  · rename_i hv
    have hv : validB u = true := by cases h : validB u <;> simp_all
    have hv' : -1000000000000000 ≤ u ∧ u ≤ 1000000000000000 := by unfold validB at hv; simpa using hv
    have h1 := nDigits_small (u := u.natAbs / 10000) (by omega)
    rw [← decB_size] at h1
    have h2 := fracB_size (u.natAbs % 10000) (by omega)
    have h3 : (signB u (decB (u.natAbs / 10000))).size ≤ 21 := by
      unfold signB; split
      · rw [bsize_append]; have : (⟨#[45]⟩ : ByteArray).size = 1 := rfl
        omega
      · omega
    have h4 : (dotB (fracB (u.natAbs % 10000))).size ≤ 21 := by
      unfold dotB; split
      · have : ByteArray.empty.size = 0 := rfl
        omega
      · rw [bsize_append]; have : (⟨#[46]⟩ : ByteArray).size = 1 := rfl
        omega
    rw [bsize_append]; omega
theorem lens_sumN : ∀ l : List ByteArray, Lib.lens (l.map (·.data.toList)) = sumN (·.size) l
  | [] => rfl
  | x :: l => by
    have ih := lens_sumN l
    have : Lib.lens (List.map (·.data.toList) (x :: l)) = x.data.toList.length + Lib.lens (l.map (·.data.toList)) := by simp [Lib.lens]
    rw [this, ih, sumN, Array.length_toList]; rfl
theorem join_le (l : List ByteArray) : (Lib.join (l.map (·.data.toList)) [44, 32]).length ≤ sumN (fun x => x.size + 2) l := by
  cases l with
  | nil => simp [Lib.join_nil]
  | cons x l =>
    rw [List.map_cons, Lib.join_length]
    show _ + Lib.lens ((x :: l).map (fun y : ByteArray => y.data.toList)) ≤ _
    rw [lens_sumN]
    have : ∀ k : List ByteArray, sumN (fun x => x.size + 2) k = sumN (·.size) k + 2 * k.length := by
      intro k
      induction k with
      | nil => rfl
      | cons y k ih => rw [sumN, sumN, ih, List.length_cons]; omega
    rw [this]; simp; omega
theorem joinB_size (o e : ByteArray) (l : List ByteArray) (ho : o.size = 1) (he : e.size = 1) : (joinB o e l).size ≤ 2 + sumN (fun x => x.size + 2) l := by
  unfold joinB
  rw [bsize_append, bsize_append, ho, he]
  have : (⟨(Lib.join (l.map (·.data.toList)) [44, 32]).toArray⟩ : ByteArray).size = (Lib.join (l.map (·.data.toList)) [44, 32]).length := by show (_ : List UInt8).toArray.size = _; simp
  rw [this]; have := join_le l; omega
theorem sumN_map {α β : Type} (f : β → Nat) (g : α → β) : ∀ l : List α, sumN f (l.map g) = sumN (fun x => f (g x)) l
  | [] => rfl
  | x :: l => by rw [List.map_cons, sumN, sumN, sumN_map f g l]
/-- All texts between brackets are no longer than the bound. -/
theorem partsL_le (m : Nat) (f : Dt → ByteArray) (hf : ∀ x, (f x).size + 2 ≤ tbF m x) (d : Dt) : 60 + 4 * (sD d).size + sumN (fun x => x.size + 2) (partsL f d) ≤ tbF (m + 1) d := by
  unfold partsL
  rw [sumN_append, sumN_map, sumN_map, tbF]
  have h1 : sumN (fun x => (f x).size + 2) (iD d) ≤ sumN (tbF m) (iD d) := sumN_mono fun x _ => hf x
  have h2 : sumN (fun x => (mtext f x).size + 2) (mD d) ≤ sumN (fun x : ByteArray × Dt => 10 + 4 * x.1.size + tbF m x.2) (mD d) := sumN_mono fun x _ => by
    unfold mtext
    rw [bsize_append, bsize_append]
    have := labelB_size x.1
    have := hf x.2
    have : (⟨#[58, 32]⟩ : ByteArray).size = 2 := rfl
    omega
  omega
theorem textF_le : ∀ (m : Nat) (d : Dt), (textF m d).size + 2 ≤ tbF m d
  | 0, d => by rw [textF, tbF]; decide
  | m + 1, d => by
    have h := partsL_le m (textF m) (textF_le m) d
    rw [textF]; unfold textK
    split
    · split
      · have : (⟨#[116, 114, 117, 101]⟩ : ByteArray).size = 4 := rfl
        omega
      · have : (⟨#[102, 97, 108, 115, 101]⟩ : ByteArray).size = 5 := rfl
        omega
    · split
      · have := numB_size (nD d); omega
      · split
        · have := quoteB_size (sD d); omega
        · split
          · have := joinB_size ⟨#[91]⟩ ⟨#[93]⟩ (partsL (textF m) d) rfl rfl; omega
          · split
            · have := joinB_size ⟨#[123]⟩ ⟨#[125]⟩ (partsL (textF m) d) rfl rfl; omega
            · have : (⟨#[110, 117, 108, 108]⟩ : ByteArray).size = 4 := rfl
              omega

theorem Label_run (S : ByteArray) (hS : S.size ≤ 1000000000) (w : World) : Calls Tryd.prog 73 #[.string S] w fun e w' => e = .returned (.string (labelB S)) ∧ Below w.heap.size w w' := by
  have HI := hide fun w => Ident_run S hS w
  have HQ := hide fun w => Quote_run S hS w
  unfold labelB
  obtain ⟨b, hb⟩ : ∃ b, b = identB S := ⟨_, rfl⟩
  rw [← hb] at HI ⊢
  clear hb
  go_enter Tryd.func73, Tryd.ntmps73
  go_wp2_with fail
  refine (HI.out _).mono ?_; rintro e w1 ⟨rfl, hB1⟩
  have HB1 := hide hB1
  clear hB1
  cases b with
  | true =>
    go_wp2_with fail
    go_ret
    exact ⟨rfl, HB1.out⟩
  | false =>
    go_wp2_with fail
    refine (HQ.out _).mono ?_; rintro e w2 ⟨rfl, hB2⟩
    have HB2 := hide (HB1.out.trans (hB2.mono HB1.out.size))
    clear hB2
    go_wp2_with fail
    go_ret
    exact ⟨rfl, HB2.out⟩

theorem joinExtra : Builder.Extra Tryd.prog joinL_ren where
  sizeBuilder := by kernel_rfl
  liesBuilder := by kernel_rfl
  t5 := Tryd.underlying5
  a5 := Tryd.isAgg5
  z5 := Tryd.sizeOf5
  v5 := Tryd.zeroValue5
  infoByte := by kernel_rfl
  cellsByte := by kernel_rfl
  sizeByte := by kernel_rfl
  neB5 := by decide

/-- The strings, a cell each. -/
def strsV (l : List ByteArray) : List Value := l.map Value.string
theorem strsV_get {l : List ByteArray} {j : Nat} {x : ByteArray} (h : l[j]? = some x) : (strsV l)[j]? = some (.string x) := by
  unfold strsV; rw [List.getElem?_map, h]; rfl

theorem join_run (o e : ByteArray) (u : Value) (l : List ByteArray) (base : Nat) (w : World) (hown : w.ownsRow base 9 1 u l.length (strsV l)) (ho : o.size = 1) (he : e.size = 1) (hl : sumN (fun x => x.size + 2) l ≤ 1000000000) :
    Calls Tryd.prog 76 #[.string o, .string e, u] w fun r w' => r = .returned (.string (joinB o e l)) ∧ Below w.heap.size w w' := by
  have hlen : l.length ≤ 1000000000 := Nat.le_trans (sumN_len (fun x : ByteArray => x.size + 2) (fun x => by omega) l) hl
  have hjl := join_le l
  unfold joinB
  have HJ : Hid (∀ w1, Below w.heap.size w w1 → Calls Tryd.prog 91 #[u, .string ⟨#[44, 32]⟩] w1 fun r w' => r = .returned (.string ⟨(Lib.join (l.map (·.data.toList)) [44, 32]).toArray⟩) ∧ Below w1.heap.size w1 w') := hide fun w1 hB => by
    rcases hown.2 with ⟨rfl, hn⟩ | ⟨g, cap, cur, rfl, hb, hg, hc, _⟩
    · have : l = [] := List.eq_nil_of_length_eq_zero hn
      subst this
      exact (Any.strings_Join_none joinL joinExtra none 0 ⟨#[44, 32]⟩ w1).mono fun e w' ⟨he, hw⟩ => ⟨he, hw ▸ Below.refl _ _⟩
    · have hgl : g < w.heap.size := (Array.getElem?_eq_some_iff.1 hg).1
      exact Any.strings_Join joinL joinExtra g 0 cap l ⟨#[44, 32]⟩ w1 (fun j x hx => by
        rw [Nat.zero_add]
        have := hown.cells rfl j _ (strsV_get hx)
        rw [add_head] at this
        exact (hB.cell (p := ⟨g, j, none⟩) hgl).trans this) (by have := hB.size; omega) (by omega) hc (by show (Lib.join (l.map (·.data.toList)) [44, 32]).length ≤ _; omega)
  obtain ⟨J, hJ⟩ : ∃ J : ByteArray, J = ⟨(Lib.join (l.map (·.data.toList)) [44, 32]).toArray⟩ := ⟨_, rfl⟩
  have hJs : J.size ≤ 1000000000 := by rw [hJ]; show (_ : List UInt8).toArray.size ≤ _; simp; omega
  rw [← hJ] at HJ ⊢
  clear hJ hown hjl hl hlen
  go_enter Tryd.func76, Tryd.ntmps76
  go_wp2_with fail
  refine (HJ.out _ (by first | exact Below.refl _ _ | assumption)).mono ?_; rintro e w1 ⟨rfl, hB1⟩
  go_wp2_with fail
  go_ret
  exact ⟨rfl, hB1⟩
end Go.Proofs.YtajpgmacabeeeaaDoor

/- text and Text of package data. -/
namespace Go.Proofs.YtajpgmacabeeeaaDoor
open Go.RowKit

theorem infoS : (Tryd.prog.info? 9).map (fun i => (i.zero, i.size, i.bytes)) = some (some (.string ⟨#[]⟩), 1, 16) := by kernel_rfl
theorem strsV_append (a b : List ByteArray) : strsV (a ++ b) = strsV a ++ strsV b := by unfold strsV; rw [List.map_append]
theorem strsV_len (a : List ByteArray) : (strsV a).length = a.length := by unfold strsV; rw [List.length_map]
theorem tbF_kids {m : Nat} {d : Dt} : (∀ x ∈ iD d, tbF m x ≤ tbF (m + 1) d) ∧ (∀ x ∈ mD d, x.1.size + tbF m x.2 ≤ tbF (m + 1) d) := by
  constructor
  · intro x hx
    have := sumN_le (tbF m) hx
    rw [tbF]; omega
  · intro x hx
    have := sumN_le (fun x : ByteArray × Dt => 10 + 4 * x.1.size + tbF m x.2) hx
    rw [tbF]; omega

theorem own_below {w w' : World} {base : Nat} {e : TypeId} {size : Nat} {v : Value} {n : Nat} {xs : List Value} (h : w.ownsRow base e size v n xs) (hB : Below w.heap.size w w') : w'.ownsRow base e size v n xs :=
  h.kept (grown_of_below hB (Nat.le_refl _)) (by cases v.ownBlock <;> simp)
theorem one_str {t : ByteArray} : ∀ u ∈ [Value.string t], u.oneCell' = true := by simp [Value.oneCell']

set_option maxRecDepth 100000 in
set_option maxHeartbeats 4000000 in
theorem text_run : ∀ (m : Nat) (d : Dt) (A : Option Addr) (c : Nat) (A' : Option Addr) (c' : Nat) (w : World), Parts w w.heap.size m d A c A' c' → tbF m d ≤ 1000000000 → Tab w →
    Calls Tryd.prog 53 #[datV d A c A' c'] w fun e w' => e = .returned (.string (textF m d)) ∧ Below w.heap.size w w' := by
  intro m
  induction m with
  | zero => intro d A c A' c' w hp _ _; exact hp.elim
  | succ m ih =>
    intro d A c A' c' w hp hbd ht
    have htb := partsL_le m (textF m) (textF_le m) d
    have HPL := hide (show sumN (fun x => x.size + 2) (partsL (textF m) d) ≤ 1000000000 by omega)
    have hpl : (partsL (textF m) d).length ≤ 1000000000 := Nat.le_trans (sumN_len (fun x : ByteArray => x.size + 2) (fun x => by omega) _) HPL.out
    have hsz : (sD d).size ≤ 1000000000 := by omega
    obtain ⟨hb1, hb2⟩ := tbF_kids (m := m) (d := d)
    obtain ⟨⟨h1, h2, h3, h4⟩, hI, hM⟩ := hp
    have hm := maxLen_le h2; have hm' := maxLen_le h4
    have HI := hide fun i x (h : (iD d)[i]? = some x) => And.intro (hI i x h) (show tbF m x ≤ 1000000000 by have := hb1 x (List.mem_of_getElem? h); omega)
    have HM := hide fun i x (h : (mD d)[i]? = some x) => And.intro (hM i x h) (show x.1.size ≤ 1000000000 ∧ tbF m x.2 ≤ 1000000000 by have := hb2 x (List.mem_of_getElem? h); omega)
    have HTAB := hide fun W (hB : Below w.heap.size w W) => tab_below ht hB
    obtain ⟨i0, hi0, hz0, hz1, hz2⟩ := info_parts infoS
    obtain ⟨res, hres⟩ : ∃ r, r = textF (m + 1) d := ⟨_, rfl⟩
    rw [← hres]
    rw [textF] at hres
    unfold datV datCs
    obtain ⟨k, hk⟩ : ∃ k, k = kD d := ⟨_, rfl⟩
    obtain ⟨n, hn'⟩ : ∃ k, k = nD d := ⟨_, rfl⟩
    obtain ⟨s, hs⟩ : ∃ k, k = sD d := ⟨_, rfl⟩
    obtain ⟨L, hL⟩ : ∃ k, k = partsL (textF m) d := ⟨_, rfl⟩
    rw [← hL] at HPL hpl
    rw [← hk, ← hn', ← hs, ← hL] at hres
    rw [← hs] at hsz
    unfold partsL at hL
    obtain ⟨xs, hxs⟩ : ∃ k, k = iD d := ⟨_, rfl⟩
    obtain ⟨ys, hys⟩ : ∃ k, k = mD d := ⟨_, rfl⟩
    rw [← hxs] at HI h1
    rw [← hys] at HM h3
    rw [← hxs, ← hys] at hL
    rw [← hk, ← hn', ← hs, ← hxs, ← hys]
    have hxy : xs.length + ys.length ≤ 1000000000 := by rw [hL] at hpl; simpa using hpl
    obtain ⟨LA, hLA⟩ : ∃ k, k = xs.map (textF m) := ⟨_, rfl⟩
    obtain ⟨LC, hLC⟩ : ∃ k, k = ys.map (mtext (textF m)) := ⟨_, rfl⟩
    have HLA := hide (show ∀ i X, xs[i]? = some X → LA[i]? = some (textF m X) from fun i X h => by rw [hLA, List.getElem?_map, h]; rfl)
    have HLC := hide (show ∀ i X, ys[i]? = some X → LC[i]? = some (mtext (textF m) X) from fun i X h => by rw [hLC, List.getElem?_map, h]; rfl)
    have HLAL := hide (show LA.length = xs.length by rw [hLA, List.length_map])
    have HLCL := hide (show LC.length = ys.length by rw [hLC, List.length_map])
    rw [← hLA, ← hLC] at hL
    clear hLA hLC
    obtain ⟨x, hx⟩ : ∃ k, k = xs.length := ⟨_, rfl⟩
    obtain ⟨y, hy⟩ : ∃ k, k = ys.length := ⟨_, rfl⟩
    rw [← hx] at h1 hxy
    rw [← hy] at h3 hxy
    rw [← hx, ← hy]
    have HL := Lib.hid hL; have HX := Lib.hid hx; have HY := Lib.hid hy; have HRES := Lib.hid hres
    have HQ := hide fun w => Quote_run s hsz w
    have HN := hide fun w (h : Tab w) => numText_run n w h
    clear hk hn' hs hxs hys hx hy h2 h4 hL hM hI hres hb1 hb2 hbd ht htb hpl
    go_enter Tryd.func53, Tryd.ntmps53
    go_upto_region 1 with fail
    obtain ⟨w1, g, e1, e2, hBL, c0, c1, c2, c3, c4, hROW⟩ := boxD w k n s (.slice A x c) (.slice A' y c')
    rw [e1, e2]
    have HBL := hide hBL; have HROW := hide hROW
    have hgl : g < w1.heap.size := hROW.lt
    have hgw : w.heap.size ≤ g := by omega
    clear e1 e2 hBL hROW
    have HC := hide fun W (h : Below w1.heap.size w1 W) => row5 (HROW.out.below h)
    go_wp2_with fail
    go_loopw [3, 5, 11] (fun ov _ iv wr => ∃ i : Nat, iv = .int .i64 i ∧ i ≤ x ∧ Hid (Below w1.heap.size w1 wr) ∧ Hid (wr.ownsRow w1.heap.size 9 1 ov i (strsV (LA.take i)))) (fun _ _ iv _ => x - (intOf iv).toNat)
    case atStart => exact ⟨0, rfl, Nat.zero_le _, hide (Below.refl _ _), hide (World.ownsRow_nil _ _ _ _)⟩
    case round =>
      obtain ⟨i, rfl, hi, hB, hO⟩ := hrel
      have hwB := HBL.out.trans (hB.out.mono HBL.out.size)
      by_cases hlt : i < x
      · have hlt' : i < xs.length := by rw [← HX.out]; exact hlt
        obtain ⟨⟨ad, rfl, hb, a, q, a', q', hfive, hpts⟩, htx⟩ := HI.out i _ (List.getElem?_eq_getElem hlt')
        obtain ⟨X, hX⟩ : ∃ X, X = xs[i] := ⟨_, rfl⟩
        rw [← hX] at hfive hpts htx
        have hbb : (ad.add (i * 5)).block < w.heap.size := by rw [block_of_add]; exact hb
        obtain ⟨s0, s1, s2, s3, s4⟩ := hfive.same hbb (Same.of_below hwB)
        have HCK := hide fun w' (hB' : Below w.heap.size w w') => ih X a q a' q' w' (hpts.turn (Same.of_below hB') hB'.size) htx (HTAB.out _ hB')
        have HXX := hide (show strsV (LA.take (i + 1)) = strsV (LA.take i) ++ [.string (textF m X)] by
          rw [List.take_add_one, HLA.out i _ (List.getElem?_eq_getElem hlt'), strsV_append, hX]; rfl)
        unfold datV datCs at HCK
        obtain ⟨T, hT⟩ : ∃ T, T = textF m X := ⟨_, rfl⟩
        rw [← hT] at HCK HXX
        have HB := hide (below_al hwB (Obj.cells #[Value.int IntKind.i64 (kD X), Value.int IntKind.i64 (nD X), Value.string (sD X), Value.slice a (iD X).length q, Value.slice a' (mD X).length q'] 25))
        have HB1 := hide (below_al hB.out (Obj.cells #[Value.int IntKind.i64 (kD X), Value.int IntKind.i64 (nD X), Value.string (sD X), Value.slice a (iD X).length q, Value.slice a' (mD X).length q'] 25))
        have HO := hide (hO.out.alloc (Obj.cells #[Value.int IntKind.i64 (kD X), Value.int IntKind.i64 (nD X), Value.string (sD X), Value.slice a (iD X).length q, Value.slice a' (mD X).length q'] 25))
        clear hfive hpts hX hlt' hb hbb htx hT hwB hB hO c0 c1 c2 c3 c4
        go_wp2_with fail
        refine (HCK.out _ HB.out).mono ?_; rintro e w4 ⟨rfl, hB4⟩
        have HB4 := hide (hB4.mono HB1.out.size)
        have HO4 := hide (own_below HO.out hB4)
        have hw4 : w1.heap.size ≤ w4.heap.size := Nat.le_trans HB1.out.size hB4.size
        clear hB4 HCK s0 s1 s2 s3 s4 HO HB
        go_wp2_with (at_builtin; refine wpList_append_all _ rfl (.tmp 15) (.tmp 18) _ rfl w1.heap.size 9 i0 _ 1 16 Tryd.underlying75 hi0 hz0 hz1 hz2 rfl (by omega) u3 i (strsV (LA.take i)) rfl (HO4.out.alloc _) (some ⟨w4.heap.size, 0, none⟩) 1 1 [.string T] rfl (by intro h; cases h) rfl (by intro ad' h; injection h with h; subst h; exact World.news_of_block (heap_alloc_new _ _)) one_str (by unfold maxLen; omega) (by omega) (by simp; omega) ?_)
        intro v' w' o1 o2
        have HB5 := hide (Below.grown (below_al (HB1.out.trans HB4.out) (.cells #[.string T] 9)) o2.out (by simp; omega) (fun k e => (HO4.out.lt k e).1))
        have HO5 := hide (show w'.ownsRow w1.heap.size 9 1 v' (i + 1) (strsV (LA.take (i + 1))) by rw [HXX.out]; exact o1.out)
        clear o1 o2 HO4 HB4
        go_wp2_with fail
        go_roundw
        case rel => exact ⟨i + 1, by go_num, by omega, HB5, HO5⟩
        case measure => simp [intOf]; omega
      · obtain rfl : x = i := by omega
        have HO0 := hide (show wr.ownsRow w1.heap.size 9 1 u3 (x + 0) (strsV (LA ++ LC.take 0)) by
          have := hO.out
          have e : LA.take x = LA := by rw [HX.out, ← HLAL.out, List.take_length]
          rw [e] at this
          rw [List.take_zero, List.append_nil]
          exact this)
        have HB0 := hide hB.out
        obtain ⟨c0, c1, c2, c3, c4⟩ := HC.out _ hB.out
        clear hO hB hwB
        go_wp2_with fail
        clear hi hlt
        go_loopw [3, 7, 24] (fun ov _ iv wr => ∃ i : Nat, iv = .int .i64 i ∧ i ≤ y ∧ Hid (Below w1.heap.size w1 wr) ∧ Hid (wr.ownsRow w1.heap.size 9 1 ov (x + i) (strsV (LA ++ LC.take i)))) (fun _ _ iv _ => y - (intOf iv).toNat)
        case atStart => exact ⟨0, rfl, Nat.zero_le _, HB0, HO0⟩
        case round =>
          clear HB0 HO0 c0 c1 c2 c3 c4
          obtain ⟨i, rfl, hi, hB, hO⟩ := hrel
          have hwB := HBL.out.trans (hB.out.mono HBL.out.size)
          by_cases hlt : i < y
          · have hlt' : i < ys.length := by rw [← HY.out]; exact hlt
            obtain ⟨⟨ad, rfl, hb, hlab, a, q, a', q', hfive, hpts⟩, hls, htx⟩ := HM.out i _ (List.getElem?_eq_getElem hlt')
            obtain ⟨M, hMM⟩ : ∃ M, M = ys[i] := ⟨_, rfl⟩
            rw [← hMM] at hlab hfive hpts htx hls
            have hbb : (ad.add (i * 6)).block < w.heap.size := by rw [block_of_add]; exact hb
            have HSIX := hide (six_of ((hwB.cell (p := ad.add (i * 6)) hbb).trans hlab) (hfive.same (p := ⟨_, _, none⟩) hbb (Same.of_below hwB)))
            obtain ⟨s0, s1, s2, s3, s4, s5⟩ := HSIX.out
            have HCK := hide fun w' (hB' : Below w.heap.size w w') => ih M.2 a q a' q' w' (hpts.turn (Same.of_below hB') hB'.size) htx (HTAB.out _ hB')
            have HLB := hide fun w' => Label_run M.1 hls w'
            have HXX := hide (show strsV (LA ++ LC.take (i + 1)) = strsV (LA ++ LC.take i) ++ [.string (labelB M.1 ++ ⟨#[58, 32]⟩ ++ textF m M.2)] by
              rw [List.take_add_one, HLC.out i _ (List.getElem?_eq_getElem hlt'), ← List.append_assoc, strsV_append _ (Option.toList _), hMM]; rfl)
            have hts := textF_le m M.2
            have hlbs := labelB_size M.1
            unfold datV datCs at HCK
            obtain ⟨T, hT⟩ : ∃ T, T = textF m M.2 := ⟨_, rfl⟩
            rw [← hT] at HCK HXX hts
            obtain ⟨LB, hLB⟩ : ∃ T, T = labelB M.1 := ⟨_, rfl⟩
            rw [← hLB] at HLB HXX hlbs
            clear hlab hfive hpts hMM hlt' hb hbb HSIX hT hLB
            go_upto_region 10 with fail
            obtain ⟨wa, hwa⟩ : ∃ wa, wa = wr.alloc (Obj.cells #[Value.string M.1, Value.int IntKind.i64 (kD M.2), Value.int IntKind.i64 (nD M.2), Value.string (sD M.2), Value.slice a (iD M.2).length q, Value.slice a' (mD M.2).length q'] 53) := ⟨_, rfl⟩
            obtain ⟨b, hbb⟩ : ∃ b, b = wr.heap.size := ⟨_, rfl⟩
            have hR : Row wa b 53 [Value.string M.1, Value.int IntKind.i64 (kD M.2), Value.int IntKind.i64 (nD M.2), Value.string (sD M.2), Value.slice a (iD M.2).length q, Value.slice a' (mD M.2).length q'] := by rw [hwa, hbb]; exact Row.new wr _ _
            have HBA := hide (show Below w1.heap.size w1 wa by rw [hwa]; exact below_al hB.out _)
            have HOA := hide (show wa.ownsRow w1.heap.size 9 1 u3 (x + i) (strsV (LA ++ LC.take i)) by rw [hwa]; exact hO.out.alloc _)
            have hS0 : w1.heap.size ≤ wa.heap.size := HBA.out.size
            rw [← hwa, ← hbb]
            have HS := hide fun W (h : Below wa.heap.size wa W) => row6 (hR.below h)
            have HR := hide hR
            have HWB := hide fun W (h : Below wa.heap.size wa W) => HBL.out.trans ((HBA.out.trans (h.mono HBA.out.size)).mono HBL.out.size)
            obtain ⟨d0, d1, d2, d3, d4, d5⟩ := HS.out _ (Below.refl _ _)
            clear hwa hbb hR s0 s1 s2 s3 s4 s5 hB hO hwB
            go_region_held_law (fun W => W.cell? ⟨b, 0, none⟩ = some (.string M.1) ∧ W.cell? ⟨b, 1, none⟩ = some (.int .i64 (kD M.2)) ∧ W.cell? ⟨b, 2, none⟩ = some (.int .i64 (nD M.2)) ∧ W.cell? ⟨b, 3, none⟩ = some (.string (sD M.2)) ∧
                W.cell? ⟨b, 4, none⟩ = some (.slice a (iD M.2).length q) ∧ W.cell? ⟨b, 5, none⟩ = some (.slice a' (mD M.2).length q'))
              (first
                | exact row6 (((HR.out.below hB5).alloc _).grown o2.out (own_row_ne HOA.out HR.out (by decide)).symm)
                | exact HS.out _ (below_al (((Below.refl _ _).drew.trans hB3).trans (hB4.mono hB3.size)) _)
                | exact HS.out _ (((Below.refl _ _).drew.trans hB3).trans (hB4.mono hB3.size))
                | exact HS.out _ ((Below.refl _ _).drew.trans hB3)
                | exact HS.out _ (Below.refl _ _).drew)
              (first
                | (go_at_call 73; refine (HLB.out _).mono ?_; rintro e w3 ⟨rfl, hB3⟩)
                | (go_at_call 53; refine (HCK.out _ (HWB.out _ ((Below.refl _ _).drew.trans hB3))).mono ?_; rintro e w4 ⟨rfl, hB4⟩; have hB5 := ((Below.refl _ _).drew.trans hB3).trans (hB4.mono hB3.size); have hS5 := hB5.size)
                | (refine step_append_all _ rfl (.tmp 28) (.tmp 37) _ rfl w1.heap.size 9 i0 _ 1 16 Tryd.underlying75 hi0 hz0 hz1 hz2 rfl (by omega) u3 (x + i) (strsV (LA ++ LC.take i)) rfl ((own_below HOA.out hB5).alloc _) (some ⟨w4.heap.size, 0, none⟩) 1 1 [.string (LB ++ ⟨#[58, 32]⟩ ++ T)] rfl (by intro h; cases h) rfl (by intro ad' h; injection h with h; subst h; exact World.news_of_block (heap_alloc_new _ _)) one_str (by unfold maxLen; omega) (by omega) (by simp; omega) ?_; intro v' w' o1 o2))
            all_goals
              have HB5 := hide (Below.grown (below_al (HBA.out.trans (hB5.mono hS0)) (.cells #[.string (LB ++ ⟨#[58, 32]⟩ ++ T)] 9)) o2.out (by simp; omega) (fun k e => (HOA.out.lt k e).1))
              have HO5 := hide (show w'.ownsRow w1.heap.size 9 1 v' (x + (i + 1)) (strsV (LA ++ LC.take (i + 1))) by rw [HXX.out]; exact o1.out)
              clear o1 o2 HBA hB5 hB3 hB4 HS HR HOA HWB HCK HLB HXX d0 d1 d2 d3 d4 d5
              go_wp2_with fail
              go_roundw
              case rel => exact ⟨i + 1, by go_num, by omega, HB5, HO5⟩
              case measure => simp [intOf]; omega
          · obtain rfl : y = i := by omega
            obtain ⟨c0, c1, c2, c3, c4⟩ := HC.out _ hB.out
            have HJ := hide fun o e w' (ho : ByteArray.size o = 1) (he : ByteArray.size e = 1) (h : Below wr.heap.size wr w') => join_run o e u3 L w1.heap.size w' (by
              have h1 := own_below hO.out h
              have e1 : LC.take y = LC := by rw [HY.out, ← HLCL.out, List.take_length]
              rw [e1, ← HL.out] at h1
              have e2 : L.length = x + y := by rw [HL.out, List.length_append, HLAL.out, HLCL.out, ← HX.out, ← HY.out]
              rw [e2]; exact h1) ho he HPL.out
            have HB := hide hwB
            clear hO hB hwB HX HY HLA HLC HLAL HLCL HL HPL
            by_cases k2 : k = 2
            · subst k2
              by_cases n1 : n = 1
              · subst n1
                have HZ := hide (show res = ⟨#[116, 114, 117, 101]⟩ by rw [HRES.out]; rfl)
                go_wp2_with fail
                go_ret
                exact ⟨ret_str HZ.out.symm, HB.out⟩
              · have HZ := hide (show res = ⟨#[102, 97, 108, 115, 101]⟩ by rw [HRES.out]; unfold textK; rw [if_pos rfl, if_neg n1])
                have g1 : (n == 1) = false := by simpa using n1
                go_wp2_with fail
                go_ret
                exact ⟨ret_str HZ.out.symm, HB.out⟩
            · have g2 : (k == 2) = false := by simpa using k2
              by_cases k3 : k = 3
              · subst k3
                have HZ := hide (show res = numB n by rw [HRES.out]; rfl)
                go_wp2_with fail
                refine (HN.out _ (HTAB.out _ HB.out)).mono ?_; rintro e w4 ⟨rfl, hB4⟩
                have HB4 := hide (HB.out.trans (hB4.mono HB.out.size))
                clear hB4
                go_wp2_with fail
                go_ret
                exact ⟨ret_str HZ.out.symm, HB4.out⟩
              · have g3 : (k == 3) = false := by simpa using k3
                by_cases k4 : k = 4
                · subst k4
                  have HZ := hide (show res = quoteB s by rw [HRES.out]; rfl)
                  go_wp2_with fail
                  refine (HQ.out _).mono ?_; rintro e w4 ⟨rfl, hB4⟩
                  have HB4 := hide (HB.out.trans (hB4.mono HB.out.size))
                  clear hB4
                  go_wp2_with fail
                  go_ret
                  exact ⟨ret_str HZ.out.symm, HB4.out⟩
                · have g4 : (k == 4) = false := by simpa using k4
                  by_cases k5 : k = 5
                  · subst k5
                    have HZ := hide (show res = joinB ⟨#[91]⟩ ⟨#[93]⟩ L by rw [HRES.out]; rfl)
                    go_wp2_with fail
                    refine (HJ.out ⟨#[91]⟩ ⟨#[93]⟩ _ rfl rfl (Below.refl _ _)).mono ?_; rintro e w4 ⟨rfl, hB4⟩
                    have HB4 := hide (HB.out.trans (hB4.mono HB.out.size))
                    clear hB4
                    go_wp2_with fail
                    go_ret
                    exact ⟨ret_str HZ.out.symm, HB4.out⟩
                  · have g5 : (k == 5) = false := by simpa using k5
                    by_cases k6 : k = 6
                    · subst k6
                      have HZ := hide (show res = joinB ⟨#[123]⟩ ⟨#[125]⟩ L by rw [HRES.out]; rfl)
                      go_wp2_with fail
                      refine (HJ.out ⟨#[123]⟩ ⟨#[125]⟩ _ rfl rfl (Below.refl _ _)).mono ?_; rintro e w4 ⟨rfl, hB4⟩
                      have HB4 := hide (HB.out.trans (hB4.mono HB.out.size))
                      clear hB4
                      go_wp2_with fail
                      go_ret
                      exact ⟨ret_str HZ.out.symm, HB4.out⟩
                    · have g6 : (k == 6) = false := by simpa using k6
                      have HZ := hide (show res = ⟨#[110, 117, 108, 108]⟩ by rw [HRES.out]; unfold textK; rw [if_neg k2, if_neg k3, if_neg k4, if_neg k5, if_neg k6])
                      go_wp2_with fail
                      go_ret
                      exact ⟨ret_str HZ.out.symm, HB.out⟩
end Go.Proofs.YtajpgmacabeeeaaDoor

/- Text of package data. -/
namespace Go.Proofs.YtajpgmacabeeeaaDoor
open Go.RowKit

def textD (m : Nat) (d : Dt) : ByteArray := if checkD d = 0 then textF m d else ByteArray.empty
set_option maxRecDepth 20000 in
theorem Text_run (m : Nat) (d : Dt) (A : Option Addr) (c : Nat) (A' : Option Addr) (c' : Nat) (w : World) (hp : Parts w w.heap.size m d A c A' c') (hf : FitD 16 d) (hb : tbF m d ≤ 1000000000) (ht : Tab w) :
    Calls Tryd.prog 33 #[datV d A c A' c'] w fun e w' => e = .returned (.tuple #[.string (textD m d), .int .i64 (checkD d)]) ∧ Below w.heap.size w w' := by
  have HC := hide fun w' (hB : Below w.heap.size w w') => Check_run m d A c A' c' w' (hp.turn (Same.of_below hB) hB.size) hf
  have HT := hide fun w' (hB : Below w.heap.size w w') => text_run m d A c A' c' w' (hp.turn (Same.of_below hB) hB.size) hb (tab_below ht hB)
  unfold textD
  obtain ⟨z, hz⟩ : ∃ z, z = checkD d := ⟨_, rfl⟩
  rw [← hz] at HC ⊢
  obtain ⟨T, hT⟩ : ∃ z, z = textF m d := ⟨_, rfl⟩
  rw [← hT] at HT ⊢
  unfold datV datCs at HC HT
  unfold datV datCs
  obtain ⟨h1, h2, h3, h4⟩ := hp.lens
  have hm := maxLen_le h2; have hm' := maxLen_le h4
  obtain ⟨k, hk⟩ : ∃ k, k = kD d := ⟨_, rfl⟩
  obtain ⟨n, hn'⟩ : ∃ k, k = nD d := ⟨_, rfl⟩
  obtain ⟨s, hs⟩ : ∃ k, k = sD d := ⟨_, rfl⟩
  obtain ⟨x, hx⟩ : ∃ k, k = (iD d).length := ⟨_, rfl⟩
  obtain ⟨y, hy⟩ : ∃ k, k = (mD d).length := ⟨_, rfl⟩
  rw [← hk, ← hn', ← hs, ← hx, ← hy] at HC HT ⊢
  rw [← hx] at h1
  rw [← hy] at h3
  clear hp hf hb ht hz hT hk hn' hs hx hy h2 h4
  go_enter Tryd.func33, Tryd.ntmps33
  go_upto_region 1 with fail
  obtain ⟨w1, g, e1, e2, hBL, c0, c1, c2, c3, c4, hROW⟩ := boxD w k n s (.slice A x c) (.slice A' y c')
  rw [e1, e2]
  have HBL := hide hBL; have HROW := hide hROW
  clear e1 e2 hBL hROW
  go_wp2_with fail
  refine (HC.out _ HBL.out).mono ?_; rintro e w2 ⟨rfl, hB2⟩
  obtain ⟨c0', c1', c2', c3', c4'⟩ := row5 (HROW.out.below hB2)
  have HB2 := hide (HBL.out.trans (hB2.mono HBL.out.size))
  clear c0 c1 c2 c3 c4 hB2 HROW HBL HC
  by_cases hz : z = 0
  · subst hz
    go_wp2_with fail
    refine (HT.out _ HB2.out).mono ?_; rintro e w3 ⟨rfl, hB3⟩
    have HB3 := hide (HB2.out.trans (hB3.mono HB2.out.size))
    clear hB3
    go_wp2_with fail
    go_ret2
    exact ⟨rfl, HB3.out⟩
  · have g1 : (z != 0) = true := by simpa using hz
    go_wp2_with fail
    go_ret2
    exact ⟨by first | rfl | (rw [if_neg hz]; rfl) | (simp [hz]; rfl), HB2.out⟩
end Go.Proofs.YtajpgmacabeeeaaDoor
