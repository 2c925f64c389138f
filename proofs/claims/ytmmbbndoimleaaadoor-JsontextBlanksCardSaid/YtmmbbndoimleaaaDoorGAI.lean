/- number; value; The deferred closure of Parse; Parse; check and Check of the reference. -/
import Derived.Test.YtmmbbndoimleaaaDoorGAC
import Derived.Test.YtmmbbndoimleaaaDoorGAG
import Derived.Deep.CutBlock
import Derived.Deep.CutRange
import Derived.Test.YtmmbbndoimleaaaDoorGAH
import Derived.Recover
import Derived.Laws.Pointers
import Derived.Test.YtmmbbndoimleaaaDoorGAA

/- number. -/
namespace Go.Proofs.YtmmbbndoimleaaaDoor
open Go.RowKit

def NPost (g : Nat) (S : ByteArray) (w : World) (r : Except Flt (Int × Nat)) (e : Ending) (w' : World) : Prop :=
  match r with
  | .ok (u, j) => e = .returned (datV (mkD 3 u ⟨#[]⟩ [] []) none 0 none 0) ∧ Pr w' g S j ∧ Px g w w'
  | .error f => FPost g w f e w'
/-- The end of the whole part. -/
def wend (S : ByteArray) (i1 : Nat) : Nat := if nx S i1 = 48 then i1 + 1 else dge S i1
/-- The end of the number. -/
def nend (S : ByteArray) (j : Nat) : Nat := if nx S j = 46 then dge S (j + 1) else j
def numR (S : ByteArray) (i i1 j e : Nat) : Except Flt (Int × Nat) :=
  if 5 < e - j ∨ 15 < j - i1 then .error (1, i) else
    if 1000000000000000 < fracN S (j + 1) e (digN S i1 (j - i1)) 4 then .error (1, i) else .ok (if i1 = i then (fracN S (j + 1) e (digN S i1 (j - i1)) 4 : Int) else -(fracN S (j + 1) e (digN S i1 (j - i1)) 4 : Int), e)
theorem numE_eq (S : ByteArray) (i : Nat) : numE S i = if digB (nx S (if nx S i = 45 then i + 1 else i)) = false then .error (19, ((if nx S i = 45 then i + 1 else i : Nat) : Int)) else
    if nx S (wend S (if nx S i = 45 then i + 1 else i)) = 46 ∧ digB (nx S (wend S (if nx S i = 45 then i + 1 else i) + 1)) = false then .error (19, ((wend S (if nx S i = 45 then i + 1 else i) + 1 : Nat) : Int))
    else numR S i (if nx S i = 45 then i + 1 else i) (wend S (if nx S i = 45 then i + 1 else i)) (nend S (wend S (if nx S i = 45 then i + 1 else i))) := rfl
/-- Where the whole part ends, from inside. -/
def wpart (S : ByteArray) (i1 k J : Nat) : Prop := i1 < k → (nx S i1 = 48 → J = k) ∧ (nx S i1 ≠ 48 → J = dge S k)
theorem wpart_zero (S : ByteArray) (i1 J : Nat) : wpart S i1 i1 J := fun h => absurd h (Nat.lt_irrefl _)
theorem wpart_first {S : ByteArray} {i1 : Nat} (h : digB (nx S i1) = true) : wpart S i1 (i1 + 1) (wend S i1) := fun _ =>
  ⟨fun h48 => by unfold wend; rw [if_pos h48], fun h48 => by unfold wend; rw [if_neg h48]; exact run_step rfl h⟩
theorem wpart_next {S : ByteArray} {i1 k J : Nat} (h : wpart S i1 k J) (hk : i1 < k) (h48 : nx S i1 ≠ 48) (hd : digB (nx S k) = true) : wpart S i1 (k + 1) J := fun _ =>
  ⟨fun h => absurd h h48, fun h' => by rw [(h hk).2 h']; exact run_step rfl hd⟩
theorem wpart_stop {S : ByteArray} {i1 k J : Nat} (h : wpart S i1 k J) (hk : i1 < k) (hd : nx S i1 = 48 ∨ digB (nx S k) = false) : J = k := by
  by_cases h48 : nx S i1 = 48
  · exact (h hk).1 h48
  · rw [(h hk).2 h48]; exact run_stop (hd.resolve_left h48)

theorem boxZ (w : World) : ∃ w1 g, w.alloc (Obj.cells #[.int .i64 0, .int .i64 0, .string ⟨#[]⟩, .slice none 0 0, .slice none 0 0] 27) = w1 ∧ w.heap.size = g ∧ Below w.heap.size w w1 ∧
    Row w1 g 27 [.int .i64 0, .int .i64 0, .string ⟨#[]⟩, .slice none 0 0, .slice none 0 0] := by
  obtain ⟨w1, g, e1, e2, h, _, _, _, _, _, hR⟩ := boxD w 0 0 ⟨#[]⟩ (.slice none 0 0) (.slice none 0 0)
  exact ⟨w1, g, e1, e2, h, hR⟩
abbrev zrow : List Value := [.int .i64 0, .int .i64 0, .string ⟨#[]⟩, .slice none 0 0, .slice none 0 0]
/-- The parser and the result's box. -/
def Nb (w0 : World) (g b : Nat) (S : ByteArray) (k : Nat) (wr : World) : Prop := Pr wr g S k ∧ Px g w0 wr ∧ Row wr b 27 zrow ∧ g < b ∧ w0.heap.size ≤ b
section
variable {w0 wr w' : World} {g b k : Nat} {S : ByteArray}
theorem Nb.drewN (h : Nb w0 g b S k wr) (n : Nat) : Nb w0 g b S k (wr.drewN n) := ⟨h.1.drewN n, h.2.1.drewN n, h.2.2.1.drewN n, h.2.2.2⟩
theorem Nb.step (h : Nb w0 g b S k wr) (j : Nat) : Nb w0 g b S j (wr.setCell ⟨g, 1, none⟩ (.int .i64 j)) := ⟨h.1.set_ j, h.2.1.set_ 1 _, h.2.2.1.far (by have := h.2.2.2.1; show b ≠ g; omega) _, h.2.2.2⟩
end

theorem valid_yes (u : Int) (w : World) (h0 : 0 ≤ u) (h1 : u ≤ 1000000000000000) : Calls Tryd.prog 34 #[.int .i64 u] w fun e w' => e = .returned (.bool true) ∧ w = w' :=
  (valid_run u w).mono fun e w' ⟨h, h'⟩ => ⟨by rw [h, show validB u = true by unfold validB; simp; omega], h'.symm⟩
theorem valid_no (u : Int) (w : World) (h1 : 1000000000000000 < u) : Calls Tryd.prog 34 #[.int .i64 u] w fun e w' => e = .returned (.bool false) ∧ w = w' :=
  (valid_run u w).mono fun e w' ⟨h, h'⟩ => ⟨by rw [h, show validB u = false by unfold validB; simp; omega], h'.symm⟩
theorem Px.set5 {g b : Nat} {w0 wr : World} (h : Px g w0 wr) (hb : w0.heap.size ≤ b) (x0 x1 x2 x3 x4 : Value) : Px g w0 (set5 wr b x0 x1 x2 x3 x4) :=
  ((((h.setFar (p := ⟨b, 0, none⟩) hb x0).setFar (p := ⟨b, 1, none⟩) hb x1).setFar (p := ⟨b, 2, none⟩) hb x2).setFar (p := ⟨b, 3, none⟩) hb x3).setFar (p := ⟨b, 4, none⟩) hb x4
theorem number_fin {w0 wr : World} {g b E : Nat} {S : ByteArray} {r : Except Flt (Int × Nat)} {u : Int} (h : Nb w0 g b S E wr) (hr : r = .ok (u, E)) (x0 x1 x2 x3 x4 : Value) :
    NPost g S w0 r (.returned (.agg #[.int .i64 3, .int .i64 u, .string ⟨#[]⟩, .slice none 0 0, .slice none 0 0])) (set5 wr b x0 x1 x2 x3 x4) := by
  rw [hr]
  exact ⟨rfl, row_far5 h.1 (by have := h.2.2.2.1; omega) _ _ _ _ _, h.2.1.set5 h.2.2.2.2 _ _ _ _ _⟩

set_option maxRecDepth 100000 in
set_option maxHeartbeats 4000000 in
theorem number_run (S : ByteArray) (g i : Nat) (w : World) (h : Pr w g S i) (hS : S.size ≤ 1000000000) (hi : i ≤ S.size) :
    Calls Tryd.prog 24 #[.pointer (some ⟨g, 0, none⟩)] w (NPost g S w (numE S i)) := by
  obtain ⟨r, hr⟩ : ∃ r, r = numE S i := ⟨_, rfl⟩
  rw [← hr]
  rw [numE_eq] at hr
  obtain ⟨i1, hi1⟩ : ∃ k, k = (if nx S i = 45 then i + 1 else i) := ⟨_, rfl⟩
  rw [← hi1] at hr
  obtain ⟨J, hJ⟩ : ∃ k, k = wend S i1 := ⟨_, rfl⟩
  rw [← hJ] at hr
  obtain ⟨E, hE⟩ : ∃ k, k = nend S J := ⟨_, rfl⟩
  rw [← hE] at hr
  have HR := Lib.hid hr; have HI1 := Lib.hid hi1; have HJ := Lib.hid hJ; have HE := Lib.hid hE
  have HN := hide fun k V (h : Pr V g S k) => next_run S g k V h
  have HD := hide fun k V (h : Pr V g S k) => digit_run S g k V h
  have HF := hide fun (e : Int) (k : Nat) V => fail_run (.pointer (some ⟨g, 0, none⟩)) e (k : Nat) V
  have hi1s : i1 ≤ S.size := by
    rw [hi1]
    split
    · rename_i h45; exact nx_in (by omega)
    · exact hi
  have hi1i : i ≤ i1 ∧ i1 ≤ i + 1 := by rw [hi1]; split <;> omega
  have HP := hide h
  clear h hr hi1 hJ hE
  go_enter Tryd.func24, Tryd.ntmps24
  go_upto_region 1 with fail
  obtain ⟨w1, b, e1, e2, hB1, hR1⟩ := boxZ w
  have hgb : g < b := by have := HP.out.lt; omega
  have H1 := hide (show Nb w g b S i w1 from ⟨HP.out.below hB1, Px.of_below hB1, hR1, hgb, by omega⟩)
  rw [e1, e2]
  clear e1 e2 hB1 hR1 HP
  obtain ⟨c0, c1, f1⟩ := H1.out.1.cells
  have HN1 := hide fun V (h : Pr V g S i) => HN.out i V h
  obtain ⟨x, hx⟩ : ∃ x, x = nx S i := ⟨_, rfl⟩
  rw [← hx] at HN1
  have HX := Lib.hid hx
  clear hx
  go_wp2_with fail
  refine (HN1.out _ H1.out.1).mono ?_; rintro e w2 ⟨rfl, n1, rfl⟩
  go_upto_if 15 with (fail)
  have H2 := hide (H1.out.drewN n1)
  obtain ⟨w2, hw2⟩ : ∃ W, W = w1.drewN n1 := ⟨_, rfl⟩
  rw [← hw2] at H2 ⊢
  clear hw2 H1 c0 c1 f1 HN1
  obtain ⟨c0, c1, f1⟩ := H2.out.1.cells
  go_cut [3] from 14 to 22 (fun a wc => a = .int .i64 i ∧ Hid (Nb w g b S i1 wc))
  case first =>
    by_cases h45 : x = 45
    · subst h45
      have HI2 := hide (show i1 = i + 1 by rw [HI1.out, if_pos HX.out.symm])
      go_wp2_with fail
      go_meet
      case rel => exact ⟨rfl, hide (by rw [HI2.out]; exact H2.out.step (i + 1))⟩
    · have d45 : ((x : Int) == 45) = false := by simp; omega
      have HI2 := hide (show i1 = i by rw [HI1.out, if_neg (by rw [← HX.out]; exact h45)])
      go_wp2_with fail
      go_meet
      case rel => exact ⟨rfl, hide (by rw [HI2.out]; exact H2.out)⟩
  case rest =>
    obtain ⟨rfl, H2⟩ := hcut
    obtain ⟨c0, c1, f1⟩ := H2.out.1.cells
    have HD1 := hide fun V (h : Pr V g S i1) => HD.out i1 V h
    obtain ⟨q, hq⟩ : ∃ q, q = digB (nx S i1) := ⟨_, rfl⟩
    rw [← hq] at HD1
    have HQ := Lib.hid hq
    clear hq
    cases q with
    | false =>
      have HE2 := hide (show r = .error (19, (i1 : Int)) by rw [HR.out, if_pos HQ.out.symm])
      go_wp2_with fail
      refine (HD1.out _ H2.out.1).mono ?_; rintro e w2 ⟨rfl, n1, rfl⟩
      go_wp2_with fail
      refine (HF.out 19 i1 _).mono ?_; rintro e w2 ⟨rfl, rfl⟩
      go_wp2_with fail
      rw [HE2.out]
      exact ⟨rfl, rfl, H2.out.2.1.drewN _⟩
    | true =>
      have HR2 := hide (show r = if nx S J = 46 ∧ digB (nx S (J + 1)) = false then .error (19, ((J + 1 : Nat) : Int)) else numR S i i1 J E by rw [HR.out, if_neg (by rw [← HQ.out]; simp)])
      have hJs : J ≤ S.size ∧ i1 < J := by
        have h1 : i1 < S.size := nx_in (by intro h0; have := HQ.out; rw [h0] at this; cases this)
        rw [HJ.out]
        unfold wend
        split
        · omega
        · rw [show dge S i1 = dge S (i1 + 1) from run_step rfl HQ.out.symm]
          exact ⟨run_le _ (by omega), run_ge _ _ _⟩
      obtain ⟨hJs, hJ1⟩ := hJs
      have HDJ := hide (show ∀ m, i1 ≤ m → m < J → digB (nx S m) = true from fun m h1 h2 => by
        rw [HJ.out] at h2
        unfold wend at h2
        split at h2
        · obtain rfl : m = i1 := by omega
          exact HQ.out.symm
        · exact run_all h1 h2)
      clear HR HI1
      go_wp2_with fail
      refine (HD1.out _ H2.out.1).mono ?_; rintro e w2 ⟨rfl, n1, rfl⟩
      have H3 := hide (H2.out.drewN n1)
      obtain ⟨w3, hw3⟩ : ∃ W, W = wc.drewN n1 := ⟨_, rfl⟩
      rw [← hw3] at H3 ⊢
      clear hw3 H2 c0 c1 f1 HD1
      go_upto_block 0 with fail
      go_cut [4] from 36 to 61 (fun a wc => a = .int .i64 i1 ∧ Hid (Nb w g b S J wc))
      case first =>
        go_wp2_with fail
        go_loopw [36] (fun _ wr => ∃ k : Nat, i1 ≤ k ∧ k ≤ S.size ∧ Hid (Nb w g b S k wr ∧ wpart S i1 k J)) (fun _ wr => S.size + 1 - atOf wr g)
        case atStart => exact ⟨i1, Nat.le_refl _, hi1s, hide ⟨H3.out, wpart_zero _ _ _⟩⟩
        case round =>
          clear H3
          obtain ⟨k, hk1, hk2, hR⟩ := hrel
          obtain ⟨c0, c1, f1⟩ := hR.out.1.1.cells
          have HD1 := hide fun V (h : Pr V g S k) => HD.out k V h
          obtain ⟨d, hd⟩ : ∃ d, d = digB (nx S k) := ⟨_, rfl⟩
          rw [← hd] at HD1
          have HDD := Lib.hid hd
          clear hd
          cases d with
          | false =>
            have HK := hide (show J = k from wpart_stop hR.out.2 (by
              rcases Nat.lt_or_ge i1 k with h | h
              · exact h
              · have : k = i1 := by omega
                subst this
                have h1 := HDD.out; have h2 := HQ.out; rw [← h2] at h1; cases h1) (.inr HDD.out.symm))
            go_wp2_with fail
            refine (HD1.out _ hR.out.1.1).mono ?_; rintro e w2 ⟨rfl, n1, rfl⟩
            go_wp2_with fail
            go_meet
            case rel => exact ⟨rfl, hide (by rw [HK.out]; exact hR.out.1.drewN _)⟩
          | true =>
            have hks : k < S.size := nx_in (by intro h0; have := HDD.out; rw [h0] at this; cases this)
            by_cases hk : k = i1
            · subst hk
              have HNX := hide (show wpart S k (k + 1) J by rw [HJ.out]; exact wpart_first HDD.out.symm)
              go_wp2_with fail
              refine (HD1.out _ hR.out.1.1).mono ?_; rintro e w2 ⟨rfl, n1, rfl⟩
              go_wp2_with fail
              go_roundw
              case rel => exact ⟨k + 1, by omega, hks, hide ⟨(hR.out.1.drewN _).step (k + 1), HNX.out⟩⟩
              case measure =>
                have e1 : atOf (((wr.drewN n1)).setCell ⟨g, 1, none⟩ (.int .i64 ((k : Int) + 1))) g = k + 1 := ((hR.out.1.drewN n1).step (k + 1)).1.at_
                rw [e1, hR.out.1.1.at_]; omega
            · have hkn : ((k : Int) == (i1 : Int)) = false := by simp; omega
              obtain ⟨y, hy⟩ : ∃ y, y = (S[i1]'(by omega)).toNat := ⟨_, rfl⟩
              have hy1 : nx S i1 = y := by rw [hy]; exact nx_at (by omega)
              have HY := Lib.hid hy1
              have hi1lt : i1 < S.size := by omega
              have hy2 : (S[i1]).toNat = y := hy.symm
              clear hy hy1
              by_cases h48 : y = 48
              · have HK := hide (show J = k from wpart_stop hR.out.2 (by omega) (.inl (by rw [HY.out]; exact h48)))
                subst h48
                go_wp2_with fail
                refine (HD1.out _ hR.out.1.1).mono ?_; rintro e w2 ⟨rfl, n1, rfl⟩
                go_wp2_with fail
                go_meet
                case rel => exact ⟨rfl, hide (by rw [HK.out]; exact hR.out.1.drewN _)⟩
              · have d48 : ((y : Int) != 48) = true := by simp; omega
                have HNX := hide (wpart_next hR.out.2 (by omega) (by rw [HY.out]; exact h48) HDD.out.symm)
                go_wp2_with fail
                refine (HD1.out _ hR.out.1.1).mono ?_; rintro e w2 ⟨rfl, n1, rfl⟩
                go_wp2_with fail
                go_roundw
                case rel => exact ⟨k + 1, by omega, hks, hide ⟨(hR.out.1.drewN _).step (k + 1), HNX.out⟩⟩
                case measure =>
                  have e1 : atOf (((wr.drewN n1)).setCell ⟨g, 1, none⟩ (.int .i64 ((k : Int) + 1))) g = k + 1 := ((hR.out.1.drewN n1).step (k + 1)).1.at_
                  rw [e1, hR.out.1.1.at_]; omega
      case rest =>
        obtain ⟨rfl, H4⟩ := hcut
        obtain ⟨c0, c1, f1⟩ := H4.out.1.cells
        have HN1 := hide fun V (h : Pr V g S J) => HN.out J V h
        obtain ⟨x, hx⟩ : ∃ x, x = nx S J := ⟨_, rfl⟩
        rw [← hx] at HN1 HR2
        have HX := Lib.hid hx
        clear hx HJ HQ
        go_wp2_with fail
        refine (HN1.out _ H4.out.1).mono ?_; rintro e w4 ⟨rfl, n1, rfl⟩
        go_upto_if 68 with (fail)
        have H5 := hide (H4.out.drewN n1)
        obtain ⟨w5, hw5⟩ : ∃ W, W = wc.drewN n1 := ⟨_, rfl⟩
        rw [← hw5] at H5 ⊢
        clear hw5 H4 c0 c1 f1 HN1
        obtain ⟨c0, c1, f1⟩ := H5.out.1.cells
        go_cut [3, 4, 5] from 67 to 93 (fun a b' c wc => a = .int .i64 i ∧ b' = .int .i64 i1 ∧ c = .int .i64 J ∧ Hid (Nb w g b S E wc ∧ E ≤ S.size ∧ J ≤ E ∧ r = numR S i i1 J E ∧ (J < E → E = dge S (J + 1))))
        case first =>
          by_cases h46 : x = 46
          · subst h46
            have hJ2 : J < S.size := nx_in (by rw [← HX.out]; decide)
            have HD1 := hide fun V (h : Pr V g S (J + 1)) => HD.out (J + 1) V h
            obtain ⟨d, hd⟩ : ∃ d, d = digB (nx S (J + 1)) := ⟨_, rfl⟩
            rw [← hd] at HD1 HR2
            have HDD := Lib.hid hd
            clear hd
            go_upto_region 12 with fail
            obtain ⟨w6, hw6⟩ : ∃ W, W = w5.setCell ⟨g, 1, none⟩ (.int .i64 ((J : Int) + 1)) := ⟨_, rfl⟩
            have H6 := hide (show Nb w g b S (J + 1) w6 by rw [hw6]; exact H5.out.step (J + 1))
            rw [← hw6]
            clear hw6 H5 c0 c1 f1
            obtain ⟨c0, c1, f1⟩ := H6.out.1.cells
            cases d with
            | false =>
              have HE2 := hide (show r = .error (19, ((J + 1 : Nat) : Int)) by rw [HR2.out, if_pos ⟨rfl, rfl⟩])
              go_wp2_with fail
              refine (HD1.out _ H6.out.1).mono ?_; rintro e w7 ⟨rfl, n2, rfl⟩
              go_wp2_with fail
              refine (HF.out 19 (J + 1) _).mono ?_; rintro e w7 ⟨rfl, rfl⟩
              go_wp2_with fail
              rw [HE2.out]
              exact ⟨rfl, rfl, H6.out.2.1.drewN _⟩
            | true =>
              have HE2 := hide (show r = numR S i i1 J E by rw [HR2.out, if_neg (by simp)])
              have HE3 := hide (show E = dge S (J + 1) by rw [HE.out]; unfold nend; rw [if_pos HX.out.symm])
              go_wp2_with fail
              refine (HD1.out _ H6.out.1).mono ?_; rintro e w7 ⟨rfl, n2, rfl⟩
              have H7 := hide (H6.out.drewN n2)
              obtain ⟨w7, hw7⟩ : ∃ W, W = w6.drewN n2 := ⟨_, rfl⟩
              rw [← hw7] at H7 ⊢
              clear hw7 H6 c0 c1 f1 HD1 HR2
              go_wp2_with fail
              go_loopw [85] (fun _ wr => ∃ k : Nat, J + 1 ≤ k ∧ k ≤ S.size ∧ Hid (Nb w g b S k wr ∧ E = dge S k)) (fun _ wr => S.size + 1 - atOf wr g)
              case atStart => exact ⟨J + 1, Nat.le_refl _, hJ2, hide ⟨H7.out, HE3.out⟩⟩
              case round =>
                clear H7
                obtain ⟨k, hk1, hk2, hR⟩ := hrel
                obtain ⟨c0, c1, f1⟩ := hR.out.1.1.cells
                have HD1 := hide fun V (h : Pr V g S k) => HD.out k V h
                obtain ⟨d, hd⟩ : ∃ d, d = digB (nx S k) := ⟨_, rfl⟩
                rw [← hd] at HD1
                have HDE := Lib.hid hd
                clear hd
                cases d with
                | false =>
                  have HK := hide (show E = k by rw [hR.out.2]; exact run_stop HDE.out.symm)
                  go_wp2_with fail
                  refine (HD1.out _ hR.out.1.1).mono ?_; rintro e w8 ⟨rfl, n3, rfl⟩
                  go_wp2_with fail
                  go_meet
                  case rel => exact ⟨rfl, rfl, rfl, hide ⟨by rw [HK.out]; exact hR.out.1.drewN _, by rw [HK.out]; exact hk2, by rw [HK.out]; omega, HE2.out, fun _ => HE3.out⟩⟩
                | true =>
                  have hks : k < S.size := nx_in (by intro h0; have := HDE.out; rw [h0] at this; cases this)
                  have HNX := hide (show E = dge S (k + 1) by rw [hR.out.2]; exact run_step rfl HDE.out.symm)
                  go_wp2_with fail
                  refine (HD1.out _ hR.out.1.1).mono ?_; rintro e w8 ⟨rfl, n3, rfl⟩
                  go_wp2_with fail
                  go_roundw
                  case rel => exact ⟨k + 1, by omega, hks, hide ⟨(hR.out.1.drewN _).step (k + 1), HNX.out⟩⟩
                  case measure =>
                    have e1 : atOf (((wr.drewN n3)).setCell ⟨g, 1, none⟩ (.int .i64 ((k : Int) + 1))) g = k + 1 := ((hR.out.1.drewN n3).step (k + 1)).1.at_
                    rw [e1, hR.out.1.1.at_]; omega
          · have d46 : ((x : Int) == 46) = false := by simp; omega
            have HE2 := hide (show r = numR S i i1 J E by rw [HR2.out, if_neg (fun h => h46 h.1)])
            have HE3 := hide (show E = J by rw [HE.out]; unfold nend; rw [if_neg (by rw [← HX.out]; exact h46)])
            go_wp2_with fail
            go_meet
            case rel => exact ⟨rfl, rfl, rfl, hide ⟨by rw [HE3.out]; exact H5.out, by rw [HE3.out]; exact hJs, by rw [HE3.out]; omega, HE2.out, fun h => by rw [HE3.out] at h; omega⟩⟩
        case rest =>
          obtain ⟨rfl, rfl, rfl, H6⟩ := hcut
          obtain ⟨hNb, hE1, hE2, hr, hE3⟩ := H6.out
          have HNB := hide hNb; have HR4 := Lib.hid hr
          have HDE := hide (show ∀ m, J + 1 ≤ m → m < E → digB (nx S m) = true from fun m h1 h2 => run_all (i := J + 1) h1 (by rw [show runF digB S (J + 1) = E from (hE3 (by omega)).symm]; exact h2))
          clear H6 hNb hr hE3 H5 c0 c1 f1 HR2 HX HE HN HD
          obtain ⟨c0, c1, f1⟩ := HNB.out.1.cells
          have HF1 := hide fun V => HF.out 1 i V
          by_cases hbig : 5 < E - J ∨ 15 < J - i1
          · have HE2 := hide (show r = .error (1, (i : Int)) by rw [HR4.out]; unfold numR; rw [if_pos hbig])
            by_cases h5 : 5 < E - J
            · have q0 : (5 : Int) < (E : Int) - (J : Int) := by omega
              go_wp2_with fail
              refine (HF1.out _).mono ?_; rintro e w8 ⟨rfl, rfl⟩
              go_wp2_with fail
              rw [HE2.out]
              exact ⟨rfl, rfl, HNB.out.2.1⟩
            · have q0 : ¬ (5 : Int) < (E : Int) - (J : Int) := by omega
              have q1 : (15 : Int) < (J : Int) - (i1 : Int) := by omega
              go_wp2_with fail
              refine (HF1.out _).mono ?_; rintro e w8 ⟨rfl, rfl⟩
              go_wp2_with fail
              rw [HE2.out]
              exact ⟨rfl, rfl, HNB.out.2.1⟩
          · have q0 : ¬ (5 : Int) < (E : Int) - (J : Int) := by omega
            have q1 : ¬ (15 : Int) < (J : Int) - (i1 : Int) := by omega
            have HR5 := hide (show r = if 1000000000000000 < fracN S (J + 1) E (digN S i1 (J - i1)) 4 then .error (1, (i : Int)) else .ok (if i1 = i then (fracN S (J + 1) E (digN S i1 (J - i1)) 4 : Int) else -(fracN S (J + 1) E (digN S i1 (J - i1)) 4 : Int), E) by
              rw [HR4.out]; unfold numR; rw [if_neg hbig])
            have h15 : J - i1 ≤ 15 := by omega
            clear HR4 hbig
            go_wp2_with fail
            clear q0 q1
            go_loop [6, 7] (fun uv mv => ∃ m : Nat, mv = .int .i64 m ∧ i1 ≤ m ∧ m ≤ J ∧ uv = .int .i64 (digN S i1 (m - i1))) (fun _ mv => J - (intOf mv).toNat)
            case atStart => exact ⟨i1, rfl, Nat.le_refl _, by omega, by rw [Nat.sub_self]; rfl⟩
            case round =>
              obtain ⟨m, rfl, hm1, hm2, rfl⟩ := hrel
              have hu := digN_small (S := S) (a := i1) (n := m - i1) (fun m' h1 h2 => HDJ.out m' h1 (by omega)) (by omega)
              by_cases hlt : m < J
              · have hb := dig_bounds (HDJ.out m hm1 hlt)
                have hms : m < S.size := by omega
                obtain ⟨y, hy⟩ : ∃ y, y = (S[m]).toNat := ⟨_, rfl⟩
                have hy1 : nx S m = y := by rw [hy]; exact nx_at hms
                have hy2 : (S[m]).toNat = y := hy.symm
                rw [hy1] at hb
                have HNX := hide (show digN S i1 (m + 1 - i1) = digN S i1 (m - i1) * 10 + (y - 48) by
                  rw [show m + 1 - i1 = (m - i1) + 1 by omega, digN, show i1 + (m - i1) = m by omega, hy1])
                obtain ⟨U, hU⟩ : ∃ u, u = digN S i1 (m - i1) := ⟨_, rfl⟩
                rw [← hU] at hu HNX ⊢
                clear hy hy1 hU
                go_wp2_with fail
                go_round
                case rel => exact ⟨m + 1, by go_num, by omega, hlt, by rw [HNX.out]; go_num⟩
                case measure => simp [intOf]; omega
              · obtain rfl : m = J := by omega
                obtain ⟨U, hU⟩ : ∃ u, u = digN S i1 (m - i1) := ⟨_, rfl⟩
                rw [← hU] at hu HR5 ⊢
                clear hU HDJ hlt
                obtain ⟨J, rfl⟩ : ∃ J, J = m := ⟨_, rfl⟩
                go_wp2_with fail
                go_loop [6, 8] (fun uv mv => ∃ m : Nat, mv = .int .i64 m ∧ J + 1 ≤ m ∧ m ≤ J + 5 ∧ uv = .int .i64 (fracN S (J + 1) E U (m - (J + 1))) ∧ fracN S (J + 1) E U (m - (J + 1)) ≤ 1000000000000000) (fun _ mv => J + 5 - (intOf mv).toNat)
                case atStart => exact ⟨J + 1, by go_num, Nat.le_refl _, by omega, by rw [Nat.sub_self]; rfl, by rw [Nat.sub_self]; show U ≤ _; omega⟩
                case round =>
                  clear hu
                  obtain ⟨m, rfl, hm1, hm2, rfl, hu⟩ := hrel
                  by_cases hlt : m ≤ J + 4
                  · have HNX := hide (show fracN S (J + 1) E U (m + 1 - (J + 1)) = fracN S (J + 1) E U (m - (J + 1)) * 10 + (if m < E then nx S m - 48 else 0) by
                      rw [show m + 1 - (J + 1) = (m - (J + 1)) + 1 by omega, fracN, show J + 1 + (m - (J + 1)) = m by omega])
                    have HMO := hide (show fracN S (J + 1) E U (m + 1 - (J + 1)) ≤ fracN S (J + 1) E U 4 by
                      have := frac_mono S (J + 1) E U (m + 1 - (J + 1)) (4 - (m + 1 - (J + 1)))
                      rwa [show m + 1 - (J + 1) + (4 - (m + 1 - (J + 1))) = 4 by omega] at this)
                    obtain ⟨F, hF⟩ : ∃ u, u = fracN S (J + 1) E U (m - (J + 1)) := ⟨_, rfl⟩
                    obtain ⟨G, hG⟩ : ∃ u, u = fracN S (J + 1) E U (m + 1 - (J + 1)) := ⟨_, rfl⟩
                    rw [← hF] at hu HNX ⊢
                    rw [← hG] at HNX HMO
                    have HGG := Lib.hid hG
                    clear hF hG
                    by_cases hmE : m < E
                    · have hb := dig_bounds (HDE.out m hm1 hmE)
                      have hms : m < S.size := by omega
                      obtain ⟨y, hy⟩ : ∃ y, y = (S[m]).toNat := ⟨_, rfl⟩
                      have hy1 : nx S m = y := by rw [hy]; exact nx_at hms
                      have hy2 : (S[m]).toNat = y := hy.symm
                      rw [hy1] at hb
                      have HG2 := hide (show G = F * 10 + (y - 48) by rw [HNX.out, if_pos hmE, hy1])
                      clear hy hy1 HNX
                      by_cases hv : F * 10 + (y - 48) ≤ 1000000000000000
                      · go_wp2_with fail
                        refine (valid_yes _ _ (by omega) (by omega)).mono ?_; rintro e w8 ⟨rfl, rfl⟩
                        go_wp2_with fail
                        go_round
                        case rel => exact ⟨m + 1, by go_num, by omega, by omega, by rw [← HGG.out, HG2.out]; go_num, by rw [← HGG.out, HG2.out]; exact hv⟩
                        case measure => simp [intOf]; omega
                      · have HE2 := hide (show r = .error (1, (i : Int)) by rw [HR5.out, if_pos (by have := HMO.out; have := HG2.out; omega)])
                        go_wp2_with fail
                        refine (valid_no _ _ (by omega)).mono ?_; rintro e w8 ⟨rfl, rfl⟩
                        go_wp2_with fail
                        refine (HF1.out _).mono ?_; rintro e w8 ⟨rfl, rfl⟩
                        go_wp2_with fail
                        rw [HE2.out]
                        exact ⟨rfl, rfl, HNB.out.2.1⟩
                    · have HG2 := hide (show G = F * 10 by rw [HNX.out, if_neg hmE]; omega)
                      clear HNX
                      by_cases hv : F * 10 ≤ 1000000000000000
                      · go_wp2_with fail
                        refine (valid_yes _ _ (by omega) (by omega)).mono ?_; rintro e w8 ⟨rfl, rfl⟩
                        go_wp2_with fail
                        go_round
                        case rel => exact ⟨m + 1, by go_num, by omega, by omega, by rw [← HGG.out, HG2.out]; go_num, by rw [← HGG.out, HG2.out]; exact hv⟩
                        case measure => simp [intOf]; omega
                      · have HE2 := hide (show r = .error (1, (i : Int)) by rw [HR5.out, if_pos (by have := HMO.out; have := HG2.out; omega)])
                        go_wp2_with fail
                        refine (valid_no _ _ (by omega)).mono ?_; rintro e w8 ⟨rfl, rfl⟩
                        go_wp2_with fail
                        refine (HF1.out _).mono ?_; rintro e w8 ⟨rfl, rfl⟩
                        go_wp2_with fail
                        rw [HE2.out]
                        exact ⟨rfl, rfl, HNB.out.2.1⟩
                  · obtain rfl : m = J + 5 := by omega
                    rw [show J + 5 - (J + 1) = 4 by omega] at hu ⊢
                    obtain ⟨F, hF⟩ : ∃ u, u = fracN S (J + 1) E U 4 := ⟨_, rfl⟩
                    rw [← hF] at hu HR5 ⊢
                    clear hF
                    obtain ⟨r0, r1, r2, r3, r4⟩ := row5 HNB.out.2.2.1
                    have z0 := HNB.out.2.2.1.frozen 0
                    have z1 := HNB.out.2.2.1.frozen 1
                    have z2 := HNB.out.2.2.1.frozen 2
                    have z3 := HNB.out.2.2.1.frozen 3
                    have z4 := HNB.out.2.2.1.frozen 4
                    by_cases hneg : i1 = i
                    · have HE2 := hide (show r = .ok ((F : Int), E) by rw [HR5.out, if_neg (by omega), if_pos hneg])
                      have q3 : ¬ (i : Int) < (i1 : Int) := by omega
                      go_wp2_with fail
                      refine bodyPost_ret (results_dat rfl _ _ b _ _ _ _ _ rfl (row_set5 HNB.out.2.2.1 _ _ _ _ _)) rfl ?_
                      exact number_fin HNB.out HE2.out _ _ _ _ _
                    · have HE2 := hide (show r = .ok (-(F : Int), E) by rw [HR5.out, if_neg (by omega), if_neg hneg])
                      have q3 : (i : Int) < (i1 : Int) := by omega
                      go_wp2_with fail
                      refine bodyPost_ret (results_dat rfl _ _ b _ _ _ _ _ rfl (row_set5 HNB.out.2.2.1 _ _ _ _ _)) rfl ?_
                      exact number_fin HNB.out HE2.out _ _ _ _ _
end Go.Proofs.YtmmbbndoimleaaaDoor

/- value. -/
namespace Go.Proofs.YtmmbbndoimleaaaDoor
open Go.RowKit

/-- The state of reading a struct. -/
def MeI (w : World) (g b1 b2 b3 b0 m : Nat) (l : List (ByteArray × Dt)) (wr : World) : Prop :=
  ∃ u, VSt w g b1 b2 b3 b0 [.int .i64 6, .int .i64 0, .string ⟨#[]⟩, .slice none 0 0, u] wr ∧ OwnM (PZ b0 u.ownBlock wr m) wr b0 u l
theorem MeI.px {w wr W : World} {g b1 b2 b3 b0 m : Nat} {l : List (ByteArray × Dt)} (h : MeI w g b1 b2 b3 b0 m l wr) (hX : Px g wr W) : MeI w g b1 b2 b3 b0 m l W := by
  obtain ⟨u, h1, h2⟩ := h
  exact ⟨u, h1.px hX, h2.px hX (by have := h1.1; omega)⟩
theorem OwnM.form {R : Reads} {w : World} {b : Nat} {u : Value} {l : List (ByteArray × Dt)} (h : OwnM R w b u l) : ∃ A q, u = .slice A l.length q := by
  obtain ⟨xs, ho, _⟩ := h
  rcases ho.2 with ⟨h1, h2⟩ | ⟨gg, cap, cur, h1, _⟩
  · exact ⟨_, _, by rw [h1, h2]⟩
  · exact ⟨_, _, h1⟩
theorem OwnD.form {R : Reads} {w : World} {b : Nat} {u : Value} {l : List Dt} (h : OwnD R w b u l) : ∃ A q, u = .slice A l.length q := by
  obtain ⟨xs, ho, _⟩ := h
  rcases ho.2 with ⟨h1, h2⟩ | ⟨gg, cap, cur, h1, _⟩
  · exact ⟨_, _, by rw [h1, h2]⟩
  · exact ⟨_, _, h1⟩
theorem OwnM.set {w : World} {b0 m : Nat} {ob : Option Nat} {u : Value} {l : List (ByteArray × Dt)} (h : OwnM (PZ b0 ob w m) w b0 u l) {p : Addr} (hp : p.block < b0) (v : Value) : OwnM (PZ b0 ob (w.setCell p v) m) (w.setCell p v) b0 u l := by
  obtain ⟨xs, ho, hf⟩ := h
  refine ⟨xs, own_set ho hp v, hf.turn fun x a c a' c' hx => ?_⟩
  exact PZ.turn hx (by rw [csize_set]; exact Nat.le_refl _) fun k k1 k2 k3 => ⟨Below.heap_setCell _ _ _ _ (by omega), k1, k3⟩

set_option maxRecDepth 20000 in
set_option maxHeartbeats 1000000 in
theorem memb_run (S : ByteArray) (w0 : World) (g b1 b2 b3 b0 m i n : Nat) (l : List (ByteArray × Dt)) (w : World) (hI : MeI w0 g b1 b2 b3 b0 m l w) (h : Pr w g S i) (hS : S.size ≤ 1000000000) (hi : i ≤ S.size) (hl : l.length ≤ 1000000000)
    (hv : ∀ k W, Pr W g S k → i < k → k ≤ S.size → Calls Tryd.prog 15 #[.pointer (some ⟨g, 0, none⟩)] W (VPost g S W m (valF S n k))) :
    Calls Tryd.prog 27 #[.pointer (some ⟨b1, 0, none⟩), .pointer (some ⟨b3, 0, none⟩)] w (KPost (MeI w0 g b1 b2 b3 b0 m) g S w0 (memS S (valF S n) l i)) := by
  obtain ⟨u, hST, hO⟩ := hI
  have HM := hide (member_run S g b0 m i n u l w h hS hi (by have := hST.1; omega) hST.2.1 hO hl hv)
  obtain ⟨A, q, rfl⟩ := hO.form
  obtain ⟨N, hN⟩ : ∃ n, n = l.length := ⟨_, rfl⟩
  rw [← hN] at HM hST
  clear hN
  obtain ⟨r, hr⟩ : ∃ r, r = memS S (valF S n) l i := ⟨_, rfl⟩
  rw [← hr] at HM ⊢
  obtain ⟨t0, t1, t2, t3, t4⟩ := row5 hST.2.2.2.2.2
  have p1 : w.cell? ⟨b1, 0, none⟩ = some (.pointer (some ⟨g, 0, none⟩)) := hST.2.2.2.1.cell 0
  have hb3 : b3 < b0 ∧ g ≠ b3 := (by have := hST.1; omega)
  have HS := hide hST
  clear hST hO hr hv
  go_enter Tryd.func27, Tryd.ntmps27
  go_wp2_with fail
  refine HM.out.mono ?_
  cases r with
  | error f =>
    rintro e w1 ⟨rfl, hx⟩
    have HX := hide (HS.out.2.2.1.trans hx)
    clear hx HM
    go_wp2_with fail
    exact ⟨rfl, rfl, HX.out⟩
  | ok p =>
    obtain ⟨l2, j⟩ := p
    rintro e w1 ⟨v, rfl, hP1, hK1, hO1⟩
    have HS1 := hide (HS.out.kp hK1)
    have HP1 := hide hP1
    obtain ⟨A', q', rfl⟩ := hO1.form
    have HO1 := hide hO1
    have q4 := HS1.out.2.2.2.2.2.frozen 4
    obtain ⟨t0', t1', t2', t3', t4'⟩ := row5 HS1.out.2.2.2.2.2
    clear hK1 hP1 hO1 HM HS t0 t1 t2 t3 t4 p1
    go_wp2_with fail
    go_end0
    have r1 : Pr (w1.setCell ⟨b3, 4, none⟩ (.slice A' l2.length q')) g S j := Row.far HP1.out hb3.2 _
    have r2 := HS1.out.set 4 (.slice A' l2.length q')
    have r3 := OwnM.set HO1.out (p := ⟨b3, 4, none⟩) hb3.1 (.slice A' l2.length q')
    show _ ∧ Pr _ g S j ∧ MeI w0 g b1 b2 b3 b0 m l2 _
    exact ⟨rfl, r1, _, r2, r3⟩
theorem OwnM.mz {lo base : Nat} {w : World} {m : Nat} {u : Value} {l : List (ByteArray × Dt)} (h : OwnM (PZ base u.ownBlock w m) w base u l) (hl : lo ≤ base) : MZ lo w m u l := by
  obtain ⟨A, c, rfl, h1, h2, _⟩ := h.mems
  refine ⟨A, c, rfl, h1, h2, fun W g1 g2 => ?_⟩
  obtain ⟨xs, ho, hf⟩ := h
  rcases Nat.eq_zero_or_pos l.length with h0 | h0
  · rw [List.eq_nil_of_length_eq_zero h0]; intro i x hx; simp at hx
  · obtain ⟨g, rfl, hg, hg2⟩ := own_lo ho h0
    refine MemsAt.of_flat (hf.turn fun x a c a' c' hp => hp W g1 fun k k1 k2 _ => g2 k (by omega) k2) (by show g < _; omega) fun j v hv => ?_
    have hc := ho.cells (g := g) rfl j v hv
    rw [add_head] at hc ⊢
    exact (World.cell?_of_block (g2 g (by omega) hg2)).trans hc
/-- The end of value. -/
theorem val_fin {w wr : World} {S : ByteArray} {g b1 b2 b3 b0 m j : Nat} {D3 : List Value} {k n : Int} {s : ByteArray} {u v : Value} {l : List Dt} {ms : List (ByteArray × Dt)}
    (h : VSt w g b1 b2 b3 b0 D3 wr) (hP : Pr wr g S j) (hd : DZ b0 wr m u l) (hm : MZ b0 wr m v ms) (x0 x1 x2 x3 x4 : Value) :
    (∃ a c a' c', Ending.returned (.agg #[.int .i64 k, .int .i64 n, .string s, u, v]) = .returned (datV (mkD k n s l ms) a c a' c') ∧ PZ w.heap.size none (set5 wr b2 x0 x1 x2 x3 x4) (m + 1) (mkD k n s l ms) a c a' c') ∧ Pr (set5 wr b2 x0 x1 x2 x3 x4) g S j ∧ Px g w (set5 wr b2 x0 x1 x2 x3 x4) := by
  obtain ⟨h0, h1, h2, h3, h4, h5⟩ := h
  have hk : ∀ k, k ≠ b2 → (set5 wr b2 x0 x1 x2 x3 x4).heap[k]? = wr.heap[k]? := fun k hk => set5_heap _ _ _ _ _ _ _ hk
  have hs := set5_size wr b2 x0 x1 x2 x3 x4
  obtain ⟨a, c, a', c', rfl, rfl, hp⟩ := pz_mk (k := k) (n := n) (s := s) (hd.turn (lo' := w.heap.size) (w' := set5 wr b2 x0 x1 x2 x3 x4) (by omega) (by omega) fun k k1 _ => hk k (by omega)) (hm.turn (lo' := w.heap.size) (w' := set5 wr b2 x0 x1 x2 x3 x4) (by omega) (by omega) fun k k1 _ => hk k (by omega))
  refine ⟨⟨a, c, a', c', by unfold datV datCs; simp, hp⟩, (hk g (by omega)).trans hP, ?_⟩
  unfold set5
  exact ((((h2.setFar (p := ⟨b2, _, none⟩) (by show _ ≤ b2; omega) _).setFar (p := ⟨b2, _, none⟩) (by show _ ≤ b2; omega) _).setFar (p := ⟨b2, _, none⟩) (by show _ ≤ b2; omega) _).setFar (p := ⟨b2, _, none⟩) (by show _ ≤ b2; omega) _).setFar (p := ⟨b2, _, none⟩) (by show _ ≤ b2; omega) _
theorem item_len {v : Nat → Except Flt (Dt × Nat)} {x y : List Dt} {i j : Nat} (h : itemS v x i = .ok (y, j)) : y.length = x.length + 1 := by
  unfold itemS at h
  cases hv : v i with
  | error f => rw [hv] at h; cases h
  | ok p =>
    obtain ⟨d, k⟩ := p
    rw [hv] at h
    injection h with h; injection h with h1 h2
    rw [← h1]; simp
theorem mem_len {S : ByteArray} {v : Nat → Except Flt (Dt × Nat)} {x y : List (ByteArray × Dt)} {i j : Nat} (h : memS S v x i = .ok (y, j)) : y.length = x.length + 1 := by
  unfold memS at h
  cases hs1 : strF S i with
  | error f => rw [hs1] at h; cases h
  | ok p =>
    obtain ⟨s, a⟩ := p
    rw [hs1] at h
    simp only at h
    split at h
    · cases h
    cases hw : wordF S [58] (blk S a) with
    | error f => rw [hw] at h; cases h
    | ok k =>
      rw [hw] at h
      simp only at h
      cases hv : v (blk S k) with
      | error f => rw [hv] at h; cases h
      | ok p =>
        obtain ⟨d, q⟩ := p
        rw [hv] at h
        injection h with h; injection h with h1 h2
        rw [← h1]; simp

set_option maxRecDepth 20000 in
set_option maxHeartbeats 4000000 in
theorem value_run (S : ByteArray) (g : Nat) (hS : S.size ≤ 1000000000) : ∀ (n i : Nat) (w : World), Pr w g S i → i ≤ S.size → S.size - i < n →
    Calls Tryd.prog 15 #[.pointer (some ⟨g, 0, none⟩)] w (VPost g S w n (valF S n i)) := by
  intro n
  induction n with
  | zero => intro i w _ _ h; omega
  | succ n ih =>
    intro i w h hi hn
    have HV := hide fun k W (h : Pr W g S k) (h1 : i < k) (h2 : k ≤ S.size) => ih k W h h2 (by omega)
    have HN := hide fun V (h : Pr V g S i) => next_run S g i V h
    have HDG := hide fun V (h : Pr V g S i) => digit_run S g i V h
    have HNUM := hide fun V (h : Pr V g S i) => number_run S g i V h hS hi
    have HSTR := hide fun V (h : Pr V g S i) => str_run S g i V h hS hi
    have HF := hide fun V => fail_run (.pointer (some ⟨g, 0, none⟩)) 19 (i : Nat) V
    have HW := hide fun (W : ByteArray) V (h : Pr V g S i) (hW : W.size ≤ 1000) => word_run S W g i V h (by omega) hW
    obtain ⟨r, hr⟩ : ∃ r, r = valF S (n + 1) i := ⟨_, rfl⟩
    rw [← hr]
    unfold valF at hr
    obtain ⟨c, hc⟩ : ∃ c, c = nx S i := ⟨_, rfl⟩
    have hc2 := nx_lt S i
    have HIN := hide (show c ≠ 0 → i < S.size by rw [hc]; exact nx_in)
    rw [← hc] at hr hc2 HN HDG
    have HR := Lib.hid hr
    have hgw := h.lt
    have H1 := hide h
    clear hr hc ih h
    go_enter Tryd.func15, Tryd.ntmps15
    go_upto_region 2 with fail
    obtain ⟨b1, hb1⟩ : ∃ b, b = w.heap.size := ⟨_, rfl⟩
    obtain ⟨b2, hb2⟩ : ∃ b, b = w.heap.size + 1 := ⟨_, rfl⟩
    obtain ⟨b3, hb3⟩ : ∃ b, b = w.heap.size + 1 + 1 := ⟨_, rfl⟩
    obtain ⟨wa, hwa⟩ : ∃ W, W = ((w.alloc (.cells #[.pointer (some ⟨g, 0, none⟩)] 40)).alloc (.cells #[.int .i64 0, .int .i64 0, .string ⟨#[]⟩, .slice none 0 0, .slice none 0 0] 27)).alloc (.cells #[.int .i64 5, .int .i64 0, .string ⟨#[]⟩, .slice none 0 0, .slice none 0 0] 27) := ⟨_, rfl⟩
    have HA := hide (show VSt w g b1 b2 b3 (b1 + 3) [.int .i64 5, .int .i64 0, .string ⟨#[]⟩, .slice none 0 0, .slice none 0 0] wa ∧ Pr wa g S i by
      subst hwa
      refine ⟨⟨⟨hb1.symm, by omega, by omega, rfl, by omega⟩, by simp; omega, ((Px.refl.alloc _).alloc _).alloc _, ?_, ?_, ?_⟩, ((H1.out.alloc _).alloc _).alloc _⟩
      · rw [hb1]; exact ((Row.new w _ _).alloc _).alloc _
      · rw [hb2]; have := (Row.new (w.alloc (.cells #[.pointer (some ⟨g, 0, none⟩)] 40)) 27 [.int .i64 0, .int .i64 0, .string ⟨#[]⟩, .slice none 0 0, .slice none 0 0]).alloc (.cells #[.int .i64 5, .int .i64 0, .string ⟨#[]⟩, .slice none 0 0, .slice none 0 0] 27); simpa using this
      · rw [hb3]; have := Row.new ((w.alloc (.cells #[.pointer (some ⟨g, 0, none⟩)] 40)).alloc (.cells #[.int .i64 0, .int .i64 0, .string ⟨#[]⟩, .slice none 0 0, .slice none 0 0] 27)) 27 [.int .i64 5, .int .i64 0, .string ⟨#[]⟩, .slice none 0 0, .slice none 0 0]; simpa using this)
    have hbb : g < b1 ∧ g ≠ b2 ∧ g ≠ b3 ∧ b1 ≠ b2 ∧ b1 ≠ b3 ∧ b2 ≠ b3 := by omega
    rw [← hwa, ← hb3, ← hb2, ← hb1]
    clear hwa hb1 hb2 hb3 H1
    have p1 : wa.cell? ⟨b1, 0, none⟩ = some (.pointer (some ⟨g, 0, none⟩)) := HA.out.1.2.2.2.1.cell 0
    go_wp2_with fail
    refine (HN.out _ HA.out.2).mono ?_; rintro e w1 ⟨rfl, n1, rfl⟩
    go_upto_region 4 with fail
    obtain ⟨wb, hwb⟩ : ∃ W, W = wa.drewN n1 := ⟨_, rfl⟩
    have HB := hide (show VSt w g b1 b2 b3 (b1 + 3) [.int .i64 5, .int .i64 0, .string ⟨#[]⟩, .slice none 0 0, .slice none 0 0] wb ∧ Pr wb g S i by rw [hwb]; exact ⟨HA.out.1.px (Px.refl.drewN _), HA.out.2.drewN _⟩)
    rw [← hwb]
    clear hwb HA p1 HN
    have p1 : wb.cell? ⟨b1, 0, none⟩ = some (.pointer (some ⟨g, 0, none⟩)) := HB.out.1.2.2.2.1.cell 0
    by_cases h110 : c = 110
    · subst h110
      have HR1 := hide (show r = match wordF S [110, 117, 108, 108] i with
        | .error f => .error f
        | .ok j => .ok (leafD 1 0 ⟨#[]⟩, j) by rw [HR.out, if_pos rfl]; first | done | rfl)
      have HW1 := hide (HW.out ⟨#[110, 117, 108, 108]⟩ wb HB.out.2 (by decide))
      rw [show (⟨#[110, 117, 108, 108]⟩ : ByteArray).data.toList = [110, 117, 108, 108] from rfl] at HW1
      obtain ⟨q, hq⟩ : ∃ q, q = wordF S [110, 117, 108, 108] i := ⟨_, rfl⟩
      rw [← hq] at HR1 HW1
      clear hq HR
      go_wp2_with fail
      refine HW1.out.mono ?_
      cases q with
      | error f =>
        rintro e w2 ⟨rfl, hx⟩
        have HE2 := hide (show r = .error f from HR1.out)
        have HX := hide (HB.out.1.2.2.1.trans hx)
        clear hx HR1 HW1
        go_wp2_with fail
        rw [HE2.out]
        exact ⟨rfl, rfl, HX.out⟩
      | ok j =>
        rintro e w2 ⟨rfl, hP, hx⟩
        have HE2 := hide (show r = .ok (leafD 1 0 ⟨#[]⟩, j) from HR1.out)
        have HS2 := hide (HB.out.1.px hx)
        have HP2 := hide hP
        clear hx hP HR1 HW1
        have f0 := HS2.out.2.2.2.2.1.frozen 0
        have f1 := HS2.out.2.2.2.2.1.frozen 1
        have f2 := HS2.out.2.2.2.2.1.frozen 2
        have f3 := HS2.out.2.2.2.2.1.frozen 3
        have f4 := HS2.out.2.2.2.2.1.frozen 4
        obtain ⟨r0, r1, r2, r3, r4⟩ := row5 HS2.out.2.2.2.2.1
        go_wp2_with fail
        refine bodyPost_ret (results_dat rfl _ _ b2 _ _ _ _ _ rfl (row_set5 HS2.out.2.2.2.2.1 _ _ _ _ _)) rfl ?_
        rw [HE2.out]
        exact val_fin HS2.out HP2.out (DZ.nil _ _ _) (MZ.nil _ _ _) _ _ _ _ _
    have d110 : ((c : Int) == 110) = false := by simp; omega
    by_cases h116 : c = 116
    · subst h116
      have HR1 := hide (show r = match wordF S [116, 114, 117, 101] i with
        | .error f => .error f
        | .ok j => .ok (leafD 2 1 ⟨#[]⟩, j) by rw [HR.out, if_neg (by decide), if_pos rfl]; first | done | rfl)
      have HW1 := hide (HW.out ⟨#[116, 114, 117, 101]⟩ wb HB.out.2 (by decide))
      rw [show (⟨#[116, 114, 117, 101]⟩ : ByteArray).data.toList = [116, 114, 117, 101] from rfl] at HW1
      obtain ⟨q, hq⟩ : ∃ q, q = wordF S [116, 114, 117, 101] i := ⟨_, rfl⟩
      rw [← hq] at HR1 HW1
      clear hq HR
      go_wp2_with fail
      refine HW1.out.mono ?_
      cases q with
      | error f =>
        rintro e w2 ⟨rfl, hx⟩
        have HE2 := hide (show r = .error f from HR1.out)
        have HX := hide (HB.out.1.2.2.1.trans hx)
        clear hx HR1 HW1
        go_wp2_with fail
        rw [HE2.out]
        exact ⟨rfl, rfl, HX.out⟩
      | ok j =>
        rintro e w2 ⟨rfl, hP, hx⟩
        have HE2 := hide (show r = .ok (leafD 2 1 ⟨#[]⟩, j) from HR1.out)
        have HS2 := hide (HB.out.1.px hx)
        have HP2 := hide hP
        clear hx hP HR1 HW1
        have f0 := HS2.out.2.2.2.2.1.frozen 0
        have f1 := HS2.out.2.2.2.2.1.frozen 1
        have f2 := HS2.out.2.2.2.2.1.frozen 2
        have f3 := HS2.out.2.2.2.2.1.frozen 3
        have f4 := HS2.out.2.2.2.2.1.frozen 4
        obtain ⟨r0, r1, r2, r3, r4⟩ := row5 HS2.out.2.2.2.2.1
        go_wp2_with fail
        refine bodyPost_ret (results_dat rfl _ _ b2 _ _ _ _ _ rfl (row_set5 HS2.out.2.2.2.2.1 _ _ _ _ _)) rfl ?_
        rw [HE2.out]
        exact val_fin HS2.out HP2.out (DZ.nil _ _ _) (MZ.nil _ _ _) _ _ _ _ _
    have d116 : ((c : Int) == 116) = false := by simp; omega
    by_cases h102 : c = 102
    · subst h102
      have HR1 := hide (show r = match wordF S [102, 97, 108, 115, 101] i with
        | .error f => .error f
        | .ok j => .ok (leafD 2 0 ⟨#[]⟩, j) by rw [HR.out, if_neg (by decide), if_neg (by decide), if_pos rfl]; first | done | rfl)
      have HW1 := hide (HW.out ⟨#[102, 97, 108, 115, 101]⟩ wb HB.out.2 (by decide))
      rw [show (⟨#[102, 97, 108, 115, 101]⟩ : ByteArray).data.toList = [102, 97, 108, 115, 101] from rfl] at HW1
      obtain ⟨q, hq⟩ : ∃ q, q = wordF S [102, 97, 108, 115, 101] i := ⟨_, rfl⟩
      rw [← hq] at HR1 HW1
      clear hq HR
      go_wp2_with fail
      refine HW1.out.mono ?_
      cases q with
      | error f =>
        rintro e w2 ⟨rfl, hx⟩
        have HE2 := hide (show r = .error f from HR1.out)
        have HX := hide (HB.out.1.2.2.1.trans hx)
        clear hx HR1 HW1
        go_wp2_with fail
        rw [HE2.out]
        exact ⟨rfl, rfl, HX.out⟩
      | ok j =>
        rintro e w2 ⟨rfl, hP, hx⟩
        have HE2 := hide (show r = .ok (leafD 2 0 ⟨#[]⟩, j) from HR1.out)
        have HS2 := hide (HB.out.1.px hx)
        have HP2 := hide hP
        clear hx hP HR1 HW1
        have f0 := HS2.out.2.2.2.2.1.frozen 0
        have f1 := HS2.out.2.2.2.2.1.frozen 1
        have f2 := HS2.out.2.2.2.2.1.frozen 2
        have f3 := HS2.out.2.2.2.2.1.frozen 3
        have f4 := HS2.out.2.2.2.2.1.frozen 4
        obtain ⟨r0, r1, r2, r3, r4⟩ := row5 HS2.out.2.2.2.2.1
        go_wp2_with fail
        refine bodyPost_ret (results_dat rfl _ _ b2 _ _ _ _ _ rfl (row_set5 HS2.out.2.2.2.2.1 _ _ _ _ _)) rfl ?_
        rw [HE2.out]
        exact val_fin HS2.out HP2.out (DZ.nil _ _ _) (MZ.nil _ _ _) _ _ _ _ _
    have d102 : ((c : Int) == 102) = false := by simp; omega
    by_cases h34 : c = 34
    · subst h34
      have HR1 := hide (show r = match strF S i with
        | .error f => .error f
        | .ok (s, j) => .ok (leafD 4 0 s, j) by rw [HR.out, if_neg (by decide), if_neg (by decide), if_neg (by decide), if_pos rfl]; first | done | rfl)
      have HW1 := hide (HSTR.out wb HB.out.2)
      obtain ⟨q, hq⟩ : ∃ q, q = strF S i := ⟨_, rfl⟩
      rw [← hq] at HR1 HW1
      clear hq HR
      go_wp2_with fail
      refine HW1.out.mono ?_
      cases q with
      | error f =>
        rintro e w2 ⟨rfl, hx⟩
        have HE2 := hide (show r = .error f from HR1.out)
        have HX := hide (HB.out.1.2.2.1.trans hx)
        clear hx HR1 HW1
        go_wp2_with fail
        rw [HE2.out]
        exact ⟨rfl, rfl, HX.out⟩
      | ok p =>
        obtain ⟨s, j⟩ := p
        rintro e w2 ⟨rfl, hP, hx⟩
        have HE2 := hide (show r = .ok (leafD 4 0 s, j) from HR1.out)
        have HS2 := hide (HB.out.1.px hx)
        have HP2 := hide hP
        clear hx hP HR1 HW1
        have f0 := HS2.out.2.2.2.2.1.frozen 0
        have f1 := HS2.out.2.2.2.2.1.frozen 1
        have f2 := HS2.out.2.2.2.2.1.frozen 2
        have f3 := HS2.out.2.2.2.2.1.frozen 3
        have f4 := HS2.out.2.2.2.2.1.frozen 4
        obtain ⟨r0, r1, r2, r3, r4⟩ := row5 HS2.out.2.2.2.2.1
        go_wp2_with fail
        refine bodyPost_ret (results_dat rfl _ _ b2 _ _ _ _ _ rfl (row_set5 HS2.out.2.2.2.2.1 _ _ _ _ _)) rfl ?_
        rw [HE2.out]
        exact val_fin HS2.out HP2.out (DZ.nil _ _ _) (MZ.nil _ _ _) _ _ _ _ _
    have d34 : ((c : Int) == 34) = false := by simp; omega
    by_cases h45 : c = 45
    · have HS1 := hide HB.out.1
      have HP1 := hide HB.out.2
      have d45 : ((c : Int) == 45) = true := by simp; omega
      go_wp2_with fail
      have HR1 := hide (show r = match numE S i with
        | .error f => .error f
        | .ok (u, j) => .ok (leafD 3 u ⟨#[]⟩, j) by rw [HR.out, if_neg h110, if_neg h116, if_neg h102, if_neg h34, if_pos (.inl h45)]; first | done | rfl)
      have HW1 := hide (HNUM.out _ HP1.out)
      obtain ⟨q, hq⟩ : ∃ q, q = numE S i := ⟨_, rfl⟩
      rw [← hq] at HR1 HW1
      clear hq HR
      refine HW1.out.mono ?_
      cases q with
      | error f =>
        rintro e w2 ⟨rfl, hx⟩
        have HE2 := hide (show r = .error f from HR1.out)
        have HX := hide (HS1.out.2.2.1.trans hx)
        clear hx HR1 HW1
        go_wp2_with fail
        rw [HE2.out]
        exact ⟨rfl, rfl, HX.out⟩
      | ok p =>
        obtain ⟨u, j⟩ := p
        rintro e w2 ⟨rfl, hP, hx⟩
        rw [show datV (mkD 3 u ⟨#[]⟩ [] []) none 0 none 0 = .agg #[.int .i64 3, .int .i64 u, .string ⟨#[]⟩, .slice none 0 0, .slice none 0 0] from rfl]
        have HE2 := hide (show r = .ok (leafD 3 u ⟨#[]⟩, j) from HR1.out)
        have HS2 := hide (HS1.out.px hx)
        have HP2 := hide hP
        clear hx hP HR1 HW1
        have f0 := HS2.out.2.2.2.2.1.frozen 0
        have f1 := HS2.out.2.2.2.2.1.frozen 1
        have f2 := HS2.out.2.2.2.2.1.frozen 2
        have f3 := HS2.out.2.2.2.2.1.frozen 3
        have f4 := HS2.out.2.2.2.2.1.frozen 4
        obtain ⟨r0, r1, r2, r3, r4⟩ := row5 HS2.out.2.2.2.2.1
        go_wp2_with fail
        refine bodyPost_ret (results_dat rfl _ _ b2 _ _ _ _ _ rfl (row_set5 HS2.out.2.2.2.2.1 _ _ _ _ _)) rfl ?_
        rw [HE2.out]
        exact val_fin HS2.out HP2.out (DZ.nil _ _ _) (MZ.nil _ _ _) _ _ _ _ _
    have d45 : ((c : Int) == 45) = false := by simp; omega
    obtain ⟨b, hb⟩ : ∃ b, b = digB c := ⟨_, rfl⟩
    have HDG1 := hide (HDG.out _ HB.out.2)
    rw [← hb] at HDG1
    cases b with
    | true =>
      have HDB := hide hb
      clear hb
      go_wp2_with fail
      refine HDG1.out.mono ?_; rintro e w2 ⟨rfl, n2, rfl⟩
      have HS1 := hide (HB.out.1.px (Px.refl.drewN n2))
      have HP1 := hide (HB.out.2.drewN n2)
      go_wp2_with fail
      have HR1 := hide (show r = match numE S i with
        | .error f => .error f
        | .ok (u, j) => .ok (leafD 3 u ⟨#[]⟩, j) by rw [HR.out, if_neg h110, if_neg h116, if_neg h102, if_neg h34, if_pos (.inr HDB.out.symm)]; first | done | rfl)
      have HW1 := hide (HNUM.out _ HP1.out)
      obtain ⟨q, hq⟩ : ∃ q, q = numE S i := ⟨_, rfl⟩
      rw [← hq] at HR1 HW1
      clear hq HR
      refine HW1.out.mono ?_
      cases q with
      | error f =>
        rintro e w2 ⟨rfl, hx⟩
        have HE2 := hide (show r = .error f from HR1.out)
        have HX := hide (HS1.out.2.2.1.trans hx)
        clear hx HR1 HW1
        go_wp2_with fail
        rw [HE2.out]
        exact ⟨rfl, rfl, HX.out⟩
      | ok p =>
        obtain ⟨u, j⟩ := p
        rintro e w2 ⟨rfl, hP, hx⟩
        rw [show datV (mkD 3 u ⟨#[]⟩ [] []) none 0 none 0 = .agg #[.int .i64 3, .int .i64 u, .string ⟨#[]⟩, .slice none 0 0, .slice none 0 0] from rfl]
        have HE2 := hide (show r = .ok (leafD 3 u ⟨#[]⟩, j) from HR1.out)
        have HS2 := hide (HS1.out.px hx)
        have HP2 := hide hP
        clear hx hP HR1 HW1
        have f0 := HS2.out.2.2.2.2.1.frozen 0
        have f1 := HS2.out.2.2.2.2.1.frozen 1
        have f2 := HS2.out.2.2.2.2.1.frozen 2
        have f3 := HS2.out.2.2.2.2.1.frozen 3
        have f4 := HS2.out.2.2.2.2.1.frozen 4
        obtain ⟨r0, r1, r2, r3, r4⟩ := row5 HS2.out.2.2.2.2.1
        go_wp2_with fail
        refine bodyPost_ret (results_dat rfl _ _ b2 _ _ _ _ _ rfl (row_set5 HS2.out.2.2.2.2.1 _ _ _ _ _)) rfl ?_
        rw [HE2.out]
        exact val_fin HS2.out HP2.out (DZ.nil _ _ _) (MZ.nil _ _ _) _ _ _ _ _
    | false =>
      have hnd : ¬(c = 45 ∨ digB c = true) := by rw [← hb]; simp [h45]
      clear hb
      go_wp2_with fail
      refine HDG1.out.mono ?_; rintro e w2 ⟨rfl, n2, rfl⟩
      go_upto_region 17 with fail
      obtain ⟨wc, hwc⟩ : ∃ W, W = wb.drewN n2 := ⟨_, rfl⟩
      have HC := hide (show VSt w g b1 b2 b3 (b1 + 3) [.int .i64 5, .int .i64 0, .string ⟨#[]⟩, .slice none 0 0, .slice none 0 0] wc ∧ Pr wc g S i by rw [hwc]; exact ⟨HB.out.1.px (Px.refl.drewN _), HB.out.2.drewN _⟩)
      have HR2 := hide (show r = if c = 91 then match sevF S 93 (itemS (valF S n)) [] i with
          | .error f => .error f
          | .ok (l, j) => .ok (mkD 5 0 ⟨#[]⟩ l [], j)
        else if c = 123 then match sevF S 125 (memS S (valF S n)) [] i with
          | .error f => .error f
          | .ok (l, j) => .ok (mkD 6 0 ⟨#[]⟩ [] l, j)
        else .error (19, (i : Int)) by rw [HR.out, if_neg h110, if_neg h116, if_neg h102, if_neg h34, if_neg hnd]; first | done | rfl)
      rw [← hwc]
      clear hwc HB p1 HR HDG1 hnd HDG HNUM HSTR HW
      have p1 : wc.cell? ⟨b1, 0, none⟩ = some (.pointer (some ⟨g, 0, none⟩)) := HC.out.1.2.2.2.1.cell 0
      by_cases h91 : c = 91
      · subst h91
        have HR3 := hide (show r = match sevF S 93 (itemS (valF S n)) [] i with
          | .error f => .error f
          | .ok (l, j) => .ok (mkD 5 0 ⟨#[]⟩ l [], j) by rw [HR2.out, if_pos rfl])
        have hsi : i < S.size := HIN.out (by decide)
        have HSV := hide (several_run S g i 93 w wc 26 (.pointer (some ⟨b3, 0, none⟩)) (.pointer (some ⟨b1, 0, none⟩)) (ItI w g b1 b2 b3 (b1 + 3) n) (itemS (valF S n)) [] (fun l k => l.length ≤ k)
          (fun x i y j hx hs => by have := item_len hs; have := (item_gain (S := S) (fun _ _ _ h => val_gain n h) _ _ _ _ hs).1; omega) (fun x i j hij hx => Nat.le_trans hx hij) (Nat.zero_le _)
          (fun W => by rfl) (item_gain fun _ _ _ h => val_gain n h) (by omega) (fun y W h => by obtain ⟨u, h1, _⟩ := h; exact h1.2.2.1) (fun y W W' h hX => h.px hX)
          (fun y k W hI hQ hP hk hks => by
            rw [itemS_eq]
            exact item_run S w g b1 b2 b3 (b1 + 3) n y W (valF S n k) hI (by omega) fun W' hB => HV.out k W' (hP.below hB) hk hks)
          HC.out.2 ⟨_, HC.out.1, [], World.ownsRow_nil _ _ _ _, rfl⟩ hS hsi)
        obtain ⟨q, hq⟩ : ∃ q, q = sevF S 93 (itemS (valF S n)) [] i := ⟨_, rfl⟩
        rw [← hq] at HR3 HSV
        clear hq HR2
        go_wp2_with fail
        refine HSV.out.mono ?_
        cases q with
        | error f =>
          rintro e w2 ⟨rfl, hx⟩
          have HE2 := hide (show r = .error f from HR3.out)
          have HX := hide hx
          clear hx HR3 HSV
          go_wp2_with fail
          rw [HE2.out]
          exact ⟨rfl, rfl, HX.out⟩
        | ok p =>
          obtain ⟨l, j⟩ := p
          rintro e w2 ⟨rfl, hP, u, hST, hO⟩
          have HE2 := hide (show r = .ok (mkD 5 0 ⟨#[]⟩ l [], j) from HR3.out)
          have HS2 := hide hST
          have HP2 := hide hP
          obtain ⟨A, q, rfl⟩ := hO.form
          have HD2 := hide (hO.dz (Nat.le_refl _))
          clear hP hST hO HR3 HSV
          have f0 := HS2.out.2.2.2.2.1.frozen 0
          have f1 := HS2.out.2.2.2.2.1.frozen 1
          have f2 := HS2.out.2.2.2.2.1.frozen 2
          have f3 := HS2.out.2.2.2.2.1.frozen 3
          have f4 := HS2.out.2.2.2.2.1.frozen 4
          obtain ⟨r0, r1, r2, r3, r4⟩ := row5 HS2.out.2.2.2.2.1
          obtain ⟨s0, s1, s2, s3, s4⟩ := row5 HS2.out.2.2.2.2.2
          go_wp2_with fail
          refine bodyPost_ret (results_dat rfl _ _ b2 _ _ _ _ _ rfl (row_set5 HS2.out.2.2.2.2.1 _ _ _ _ _)) rfl ?_
          rw [HE2.out]
          exact val_fin HS2.out HP2.out HD2.out (MZ.nil _ _ _) _ _ _ _ _
      have d91 : ((c : Int) == 91) = false := by simp; omega
      by_cases h123 : c = 123
      · subst h123
        have HR3 := hide (show r = match sevF S 125 (memS S (valF S n)) [] i with
          | .error f => .error f
          | .ok (l, j) => .ok (mkD 6 0 ⟨#[]⟩ [] l, j) by rw [HR2.out, if_neg (by decide), if_pos rfl])
        have hsi : i < S.size := HIN.out (by decide)
        have r0 : wc.cell? ⟨b3, 0, none⟩ = some (.int .i64 5) := HC.out.1.2.2.2.2.2.cell 0
        have q0 := HC.out.1.2.2.2.2.2.frozen 0
        go_upto_region 21 with fail
        obtain ⟨wd, hwd⟩ : ∃ W, W = wc.setCell ⟨b3, 0, none⟩ (.int .i64 6) := ⟨_, rfl⟩
        have HD := hide (show VSt w g b1 b2 b3 (b1 + 3) [.int .i64 6, .int .i64 0, .string ⟨#[]⟩, .slice none 0 0, .slice none 0 0] wd ∧ Pr wd g S i by rw [hwd]; exact ⟨HC.out.1.set 0 (.int .i64 6), Row.far HC.out.2 (p := ⟨b3, 0, none⟩) hbb.2.2.1 _⟩)
        rw [← hwd]
        clear hwd HC p1 r0 q0
        have p1 : wd.cell? ⟨b1, 0, none⟩ = some (.pointer (some ⟨g, 0, none⟩)) := HD.out.1.2.2.2.1.cell 0
        have HSV := hide (several_run S g i 125 w wd 27 (.pointer (some ⟨b1, 0, none⟩)) (.pointer (some ⟨b3, 0, none⟩)) (MeI w g b1 b2 b3 (b1 + 3) n) (memS S (valF S n)) [] (fun l k => l.length ≤ k)
          (fun x i y j hx hs => by have := mem_len hs; have := (mem_gain (S := S) (fun _ _ _ h => val_gain n h) _ _ _ _ hs).1; omega) (fun x i j hij hx => Nat.le_trans hx hij) (Nat.zero_le _)
          (fun W => by rfl) (mem_gain fun _ _ _ h => val_gain n h) (by omega) (fun y W h => by obtain ⟨u, h1, _⟩ := h; exact h1.2.2.1) (fun y W W' h hX => h.px hX)
          (fun y k W hI hQ hP hk hks => memb_run S w g b1 b2 b3 (b1 + 3) n k n y W hI hP hS hks (by omega) fun k' W' h' h1 h2 => HV.out k' W' h' (by omega) h2)
          HD.out.2 ⟨_, HD.out.1, [], World.ownsRow_nil _ _ _ _, rfl⟩ hS hsi)
        obtain ⟨q, hq⟩ : ∃ q, q = sevF S 125 (memS S (valF S n)) [] i := ⟨_, rfl⟩
        rw [← hq] at HR3 HSV
        clear hq HR2
        go_wp2_with fail
        refine HSV.out.mono ?_
        cases q with
        | error f =>
          rintro e w2 ⟨rfl, hx⟩
          have HE2 := hide (show r = .error f from HR3.out)
          have HX := hide hx
          clear hx HR3 HSV
          go_wp2_with fail
          rw [HE2.out]
          exact ⟨rfl, rfl, HX.out⟩
        | ok p =>
          obtain ⟨l, j⟩ := p
          rintro e w2 ⟨rfl, hP, u, hST, hO⟩
          have HE2 := hide (show r = .ok (mkD 6 0 ⟨#[]⟩ [] l, j) from HR3.out)
          have HS2 := hide hST
          have HP2 := hide hP
          obtain ⟨A, q, rfl⟩ := hO.form
          have HD2 := hide (hO.mz (Nat.le_refl _))
          clear hP hST hO HR3 HSV
          have f0 := HS2.out.2.2.2.2.1.frozen 0
          have f1 := HS2.out.2.2.2.2.1.frozen 1
          have f2 := HS2.out.2.2.2.2.1.frozen 2
          have f3 := HS2.out.2.2.2.2.1.frozen 3
          have f4 := HS2.out.2.2.2.2.1.frozen 4
          obtain ⟨r0, r1, r2, r3, r4⟩ := row5 HS2.out.2.2.2.2.1
          obtain ⟨s0, s1, s2, s3, s4⟩ := row5 HS2.out.2.2.2.2.2
          go_wp2_with fail
          refine bodyPost_ret (results_dat rfl _ _ b2 _ _ _ _ _ rfl (row_set5 HS2.out.2.2.2.2.1 _ _ _ _ _)) rfl ?_
          rw [HE2.out]
          exact val_fin HS2.out HP2.out (DZ.nil _ _ _) HD2.out _ _ _ _ _
      have d123 : ((c : Int) == 123) = false := by simp; omega
      have HE2 := hide (show r = .error (19, (i : Int)) by rw [HR2.out, if_neg h91, if_neg h123])
      clear HR2 h91 h123
      go_upto_region 3 with fail
      refine wp_region_any (by kernel_rfl) (wpAny_of_held (S := fun W => W.cell? ⟨b1, 0, none⟩ = some (.pointer (some ⟨g, 0, none⟩)) ∧ W.cell? ⟨g, 1, none⟩ = some (.int .i64 i)) _ _ _ _ ?_)
      have hH : wc.drew.cell? ⟨b1, 0, none⟩ = some (.pointer (some ⟨g, 0, none⟩)) ∧ wc.drew.cell? ⟨g, 1, none⟩ = some (.int .i64 i) := ⟨p1, HC.out.2.cells.2.1⟩
      refine takeH (i := 0) (v := ?_) rfl (by kernel_rfl) (by kernel_rfl) (by kernel_rfl) (fun _ _ _ h => h) (Or.inl ⟨by rfl, ?_⟩) hH ?_
      rotate_left
      · (intro w hSw; (try dsimp only at hSw); go_simp; try with_reducible rfl)
      simp only [Act.put, List.setIfInBounds_toArray, List.set_cons_zero, List.set_cons_succ]
      refine takeH (i := 1) (v := ?_) rfl (by kernel_rfl) (by kernel_rfl) (by kernel_rfl) (fun _ _ _ h => h) (Or.inl ⟨by rfl, ?_⟩) hH ?_
      rotate_left
      · (intro w hSw; (try dsimp only at hSw); go_simp; try with_reducible rfl)
      simp only [Act.put, List.setIfInBounds_toArray, List.set_cons_zero, List.set_cons_succ]
      refine takeH (i := 2) (v := ?_) rfl (by kernel_rfl) (by kernel_rfl) (by kernel_rfl) (fun _ _ _ h => h) (Or.inl ⟨by rfl, ?_⟩) hH ?_
      rotate_left
      · (intro w hSw; (try dsimp only at hSw); go_simp; try with_reducible rfl)
      simp only [Act.put, List.setIfInBounds_toArray, List.set_cons_zero, List.set_cons_succ]
      refine takeH (i := 3) (v := ?_) rfl (by kernel_rfl) (by kernel_rfl) (by kernel_rfl) (fun _ _ _ h => h) (Or.inl ⟨by rfl, ?_⟩) hH ?_
      rotate_left
      · (intro w hSw; (try dsimp only at hSw); go_simp; try with_reducible rfl)
      simp only [Act.put, List.setIfInBounds_toArray, List.set_cons_zero, List.set_cons_succ]
      refine takeH (i := 4) (v := ?_) rfl (by kernel_rfl) (by kernel_rfl) (by kernel_rfl) (fun _ _ _ h => h) (Or.inl ⟨by rfl, ?_⟩) hH ?_
      rotate_left
      · (intro w hSw; (try dsimp only at hSw); go_simp; try with_reducible rfl)
      simp only [Act.put, List.setIfInBounds_toArray, List.set_cons_zero, List.set_cons_succ]
      refine oneH (i := 5) rfl (by kernel_rfl) (fun K hK => ?_)
      go_simp
      go_at_call 16
      refine (HF.out _).mono ?_; rintro e w2 ⟨rfl, rfl⟩
      rw [HE2.out]
      exact ⟨rfl, rfl, HC.out.1.2.2.1.drew⟩
end Go.Proofs.YtmmbbndoimleaaaDoor

/- The deferred closure of Parse. -/
namespace Go.Proofs.YtmmbbndoimleaaaDoor
open Go.RowKit

set_option maxRecDepth 20000 in
set_option maxHeartbeats 200000 in
theorem catch_run (gd gf gp : Nat) (e a : Int) (w : World) (D F : List Value) (hd : Row w gd 27 D) (hD : D.length = 5) (hf : Row w gf 30 F) (hF : F.length = 2) (hne : gd ≠ gf) :
    CallsD Tryd.prog 13 #[.pointer (some ⟨gd, 0, none⟩), .pointer (some ⟨gf, 0, none⟩), .pointer (some ⟨gp, 0, none⟩)] (.panicking ({ v := fV (e, a), recovered := false } :: [])) w fun r u' w' =>
      r = .returned (.tuple #[]) ∧ u' = .panicking ({ v := fV (e, a), recovered := true } :: []) ∧ Row w' gd 27 [.int .i64 0, .int .i64 0, .string ⟨#[]⟩, .slice none 0 0, .slice none 0 0] ∧ Row w' gf 30 [.int .i64 e, .int .i64 a] ∧ Below 0 w w' ∧
        ∀ k, k < w.heap.size → k ≠ gd → k ≠ gf → w'.heap[k]? = w.heap[k]? := by
  refine callsD_of_wpS Tryd.func13 rfl fun c₀ cs hu => ?_
  apply wpS_seq
  apply wpS_region
  simp [wpOpsS, go_sem, recoverD, hu, Tryd.ntmps13, Exit.thenS, fV]
  apply wpS_seq
  apply wpS_region
  simp [wpOpsS, go_sem, Exit.thenS, Array.replicate, List.replicate]
  refine wpS_cond (t := true) (by simp [Act.eval]) ?_
  simp only [if_true]
  refine wpS_of_wp ?_
  have hd1 := hd.alloc (.cells #[.int .i64 e, .int .i64 a] 44)
  have hf1 := hf.alloc (.cells #[.int .i64 e, .int .i64 a] 44)
  have hn1 := Row.new w 44 [.int .i64 e, .int .i64 a]
  obtain ⟨w1, hw1⟩ : ∃ W, W = w.alloc (.cells #[.int .i64 e, .int .i64 a] 44) := ⟨_, rfl⟩
  obtain ⟨gy, hgy⟩ : ∃ k, k = w.heap.size := ⟨_, rfl⟩
  have hta : ∀ (v : Value) (W : World), (Instr.typeAssert (.iface 44 v) 20 44 true).run Tryd.prog W = .ok (.tuple #[v, .bool true]) W := fun v W => by kernel_rfl
  rw [← hw1] at hd1 hf1 hn1
  rw [← hgy] at hn1
  go_upto_region 3 with fail
  rw [← hw1, ← hgy]
  obtain ⟨d0, d1, d2, d3, d4, rfl⟩ : ∃ d0 d1 d2 d3 d4, D = [d0, d1, d2, d3, d4] := by
    match D, hD with
    | [d0, d1, d2, d3, d4], _ => exact ⟨_, _, _, _, _, rfl⟩
  obtain ⟨e0, e1, rfl⟩ : ∃ e0 e1, F = [e0, e1] := by
    match F, hF with
    | [e0, e1], _ => exact ⟨_, _, rfl⟩
  have hgd : gd ≠ gy := by have := hd.lt; omega
  have hgf : gf ≠ gy := by have := hf.lt; omega
  have HD := hide hd1; have HF := hide hf1; have HY := hide hn1
  have HW := hide (And.intro hw1 hgy)
  have c0 : w1.cell? ⟨gd, 0, none⟩ = some d0 := hd1.cell 0
  have c1 : w1.cell? ⟨gd, 1, none⟩ = some d1 := hd1.cell 1
  have c2 : w1.cell? ⟨gd, 2, none⟩ = some d2 := hd1.cell 2
  have c3 : w1.cell? ⟨gd, 3, none⟩ = some d3 := hd1.cell 3
  have c4 : w1.cell? ⟨gd, 4, none⟩ = some d4 := hd1.cell 4
  have f0 := hd1.frozen 0
  have f1 := hd1.frozen 1
  have f2 := hd1.frozen 2
  have f3 := hd1.frozen 3
  have f4 := hd1.frozen 4
  have g0 : w1.cell? ⟨gf, 0, none⟩ = some e0 := hf1.cell 0
  have g1 : w1.cell? ⟨gf, 1, none⟩ = some e1 := hf1.cell 1
  have k0 := hf1.frozen 0
  have k1 := hf1.frozen 1
  have y0 : w1.cell? ⟨gy, 0, none⟩ = some (.int .i64 e) := hn1.cell 0
  have y1 : w1.cell? ⟨gy, 1, none⟩ = some (.int .i64 a) := hn1.cell 1
  clear hd hf hd1 hf1 hn1 hw1 hgy
  have hne2 := Ne.symm hne
  go_wp2_with fail
  have hB0 : Below 0 w w1 := by rw [HW.out.1]; exact (Below.refl 0 w).alloc (Nat.zero_le _) _
  have hK0 : ∀ k, k < w.heap.size → w1.heap[k]? = w.heap[k]? := fun k k1 => by rw [HW.out.1]; exact Below.heap_alloc _ _ k (by omega)
  have r1 := ((((((HD.out.set_ 0 (.int .i64 0)).set_ 1 (.int .i64 0)).set_ 2 (.string ⟨#[]⟩)).set_ 3 (.slice none 0 0)).set_ 4 (.slice none 0 0)).far (p := ⟨gf, 0, none⟩) hne (.int .i64 e)).far (p := ⟨gf, 1, none⟩) hne (.int .i64 a)
  have r2 := ((((((HF.out.far (p := ⟨gd, 0, none⟩) hne2 (.int .i64 0)).far (p := ⟨gd, 1, none⟩) hne2 (.int .i64 0)).far (p := ⟨gd, 2, none⟩) hne2 (.string ⟨#[]⟩)).far (p := ⟨gd, 3, none⟩) hne2 (.slice none 0 0)).far (p := ⟨gd, 4, none⟩) hne2 (.slice none 0 0)).set_ 0 (.int .i64 e)).set_ 1 (.int .i64 a)
  have r3 : Below 0 w (((((((w1.setCell ⟨gd, 0, none⟩ (.int .i64 0)).setCell ⟨gd, 1, none⟩ (.int .i64 0)).setCell ⟨gd, 2, none⟩ (.string ⟨#[]⟩)).setCell ⟨gd, 3, none⟩ (.slice none 0 0)).setCell ⟨gd, 4, none⟩ (.slice none 0 0)).setCell ⟨gf, 0, none⟩ (.int .i64 e)).setCell ⟨gf, 1, none⟩ (.int .i64 a)) := (((((((hB0.setCell (p := ⟨gd, 0, none⟩) (Nat.zero_le _) _).setCell (p := ⟨gd, 1, none⟩) (Nat.zero_le _) _).setCell (p := ⟨gd, 2, none⟩) (Nat.zero_le _) _).setCell (p := ⟨gd, 3, none⟩) (Nat.zero_le _) _).setCell (p := ⟨gd, 4, none⟩) (Nat.zero_le _) _).setCell (p := ⟨gf, 0, none⟩) (Nat.zero_le _) _).setCell (p := ⟨gf, 1, none⟩) (Nat.zero_le _) _)
  have r4 : ∀ k, k < w.heap.size → k ≠ gd → k ≠ gf → (((((((w1.setCell ⟨gd, 0, none⟩ (.int .i64 0)).setCell ⟨gd, 1, none⟩ (.int .i64 0)).setCell ⟨gd, 2, none⟩ (.string ⟨#[]⟩)).setCell ⟨gd, 3, none⟩ (.slice none 0 0)).setCell ⟨gd, 4, none⟩ (.slice none 0 0)).setCell ⟨gf, 0, none⟩ (.int .i64 e)).setCell ⟨gf, 1, none⟩ (.int .i64 a)).heap[k]? = w.heap[k]? := fun k k1 k2 k3 => by
    rw [Below.heap_setCell _ _ _ _ (show k ≠ gf from k3), Below.heap_setCell _ _ _ _ (show k ≠ gf from k3), Below.heap_setCell _ _ _ _ (show k ≠ gd from k2), Below.heap_setCell _ _ _ _ (show k ≠ gd from k2), Below.heap_setCell _ _ _ _ (show k ≠ gd from k2), Below.heap_setCell _ _ _ _ (show k ≠ gd from k2), Below.heap_setCell _ _ _ _ (show k ≠ gd from k2), hK0 k k1]
  obtain ⟨W, hW⟩ : ∃ W, W = (((((((w1.setCell ⟨gd, 0, none⟩ (.int .i64 0)).setCell ⟨gd, 1, none⟩ (.int .i64 0)).setCell ⟨gd, 2, none⟩ (.string ⟨#[]⟩)).setCell ⟨gd, 3, none⟩ (.slice none 0 0)).setCell ⟨gd, 4, none⟩ (.slice none 0 0)).setCell ⟨gf, 0, none⟩ (.int .i64 e)).setCell ⟨gf, 1, none⟩ (.int .i64 a)) := ⟨_, rfl⟩
  rw [← hW] at r1 r2 r3 r4 ⊢
  have q : ∀ k, k < w.heap.size → ¬k = gd → ¬k = gf → W.heap[k]? = w.heap[k]? := r4
  simp only [bodyPostS]
  simp [results, Tryd.results13]
  exact ⟨r1, r2, r3, q⟩
set_option maxHeartbeats 400000 in
theorem catch_idle (gd gf gp : Nat) (w : World) :
    CallsD Tryd.prog 13 #[.pointer (some ⟨gd, 0, none⟩), .pointer (some ⟨gf, 0, none⟩), .pointer (some ⟨gp, 0, none⟩)] .returning w fun r u' w' => r = .returned (.tuple #[]) ∧ u' = .returning ∧ w' = w := by
  refine callsD_of_wpS Tryd.func13 rfl fun c₀ cs hu => ?_
  apply wpS_seq
  apply wpS_region
  simp [wpOpsS, go_sem, recoverD, hu, Tryd.ntmps13, Exit.thenS]
  apply wpS_seq
  apply wpS_region
  simp [wpOpsS, go_sem, Exit.thenS, Array.replicate]
  refine wpS_cond (t := false) (by simp [Act.eval]) ?_
  simp only [Bool.false_eq_true, if_false]
  refine wpS_of_wp (wp_skip ?_)
  cases c₀
  simp_all [bodyPostS, results, Tryd.results13]
end Go.Proofs.YtmmbbndoimleaaaDoor

/- Parse. -/
namespace Go.Proofs.YtmmbbndoimleaaaDoor
open Go.RowKit

/-- What Parse answers: the data and the fault. -/
def parseF (S : ByteArray) : Dt × Flt :=
  if 65536 < S.size then (zeroD, (2, 0)) else
  match valF S (S.size + 1) (blk S 0) with
  | .error f => (zeroD, f)
  | .ok (d, j) => if blk S j < S.size then (zeroD, (19, (blk S j : Nat))) else
    if checkD (cleanF (S.size + 1) 1 d) = 0 then (cleanF (S.size + 1) 1 d, (0, 0)) else (zeroD, (checkD (cleanF (S.size + 1) 1 d), 0))
def ParsePost (w : World) (m : Nat) (p : Dt × Flt) (e : Ending) (w' : World) : Prop :=
  ∃ a c a' c', e = .returned (.tuple #[datV p.1 a c a' c', .agg #[.int .i64 p.2.1, .int .i64 p.2.2]]) ∧ PZ w.heap.size none w' m p.1 a c a' c' ∧ Below w.heap.size w w'

theorem infoSizeF : (Tryd.prog.info? 30).map (·.size) = some 2 := by kernel_rfl
theorem results_df {fn : Func} {p u : Tmp} (h : fn.results = #[.cell p 27, .cell u 30]) (tmps : Array Value) (w : World) (g g' : Nat) (a b c d e f k : Value)
    (hp : tmps.getD p undef = .pointer (some ⟨g, 0, none⟩)) (hR : Row w g 27 [a, b, c, d, e]) (hu : tmps.getD u undef = .pointer (some ⟨g', 0, none⟩)) (hF : Row w g' 30 [f, k]) :
    (results fn tmps).run Tryd.prog w = .ok (.tuple #[.agg #[a, b, c, d, e], .agg #[f, k]]) w := by
  obtain ⟨fr, hr⟩ := row_heap hR
  obtain ⟨fr', hr'⟩ := row_heap hF
  have hl := run_loadVar_row (P := Tryd.prog) w g 27 27 _ fr _ hr Tryd.underlying27 rfl infoSizeD
  have hl' := run_loadVar_row (P := Tryd.prog) w g' 30 30 _ fr' _ hr' Tryd.underlying30 rfl infoSizeF
  have hp' : tmps[p]?.getD undef = .pointer (some ⟨g, 0, none⟩) := by simpa using hp
  have hu' : tmps[u]?.getD undef = .pointer (some ⟨g', 0, none⟩) := by simpa using hu
  simp only [results, h]
  simp [hp', hu', asAddr, hl, hl', Sem.run_bind, Result.andThen]
theorem zero_pz (lo : Nat) (w : World) (m : Nat) : PZ lo none w (m + 1) zeroD none 0 none 0 := fun _ _ _ => zero_parts _ _ _
/-- The last stores of Parse. -/
theorem parse_fin {w0 w W : World} {gd gf lo m : Nat} {y0 y1 y2 y3 y4 x0 x1 x2 x3 x4 f0 f1 : Value} (h3 : ∃ d0 d1 d2 d3 d4, Row w gd 27 [d0, d1, d2, d3, d4]) (h4 : ∃ e0 e1, Row w gf 30 [e0, e1]) (hne : gd ≠ gf) (hB : Below w0.heap.size w0 w) (hg : w0.heap.size ≤ gd ∧ w0.heap.size ≤ gf) (hl : gd < lo ∧ gf < lo ∧ w0.heap.size ≤ lo)
    (hW : W = ((set5 (set5 w gd y0 y1 y2 y3 y4) gd x0 x1 x2 x3 x4).setCell ⟨gf, 0, none⟩ f0).setCell ⟨gf, 1, none⟩ f1) :
    Row W gd 27 [x0, x1, x2, x3, x4] ∧ Row W gf 30 [f0, f1] ∧ Below w0.heap.size w0 W ∧ (∀ d a c a' c', PZ lo none w m d a c a' c' → PZ w0.heap.size none W m d a c a' c') := by
  obtain ⟨d0, d1, d2, d3, d4, h3⟩ := h3
  obtain ⟨e0, e1, h4⟩ := h4
  subst hW
  refine ⟨((row_set5 (row_set5 h3 y0 y1 y2 y3 y4) x0 x1 x2 x3 x4).far (p := ⟨gf, 0, none⟩) hne _).far (p := ⟨gf, 1, none⟩) hne _, ((row_far5 (row_far5 h4 (Ne.symm hne) y0 y1 y2 y3 y4) (Ne.symm hne) x0 x1 x2 x3 x4).set_ 0 f0).set_ 1 f1,
    ((below_set5 (below_set5 hB hg.1 y0 y1 y2 y3 y4) hg.1 x0 x1 x2 x3 x4).setCell (p := ⟨gf, 0, none⟩) hg.2 _).setCell (p := ⟨gf, 1, none⟩) hg.2 _, fun d a c a' c' h => ?_⟩
  refine h.turn (by simp only [csize_set, set5_size]; exact Nat.le_refl _) fun k k1 k2 _ => ⟨?_, by omega, by simp⟩
  rw [Below.heap_setCell _ _ _ _ (by show k ≠ gf; omega), Below.heap_setCell _ _ _ _ (by show k ≠ gf; omega), set5_heap _ _ _ _ _ _ _ (by omega), set5_heap _ _ _ _ _ _ _ (by omega)]
/-- The blocks of a call of Parse: the two results, the parser, its pointer. -/
def PaSt (w : World) (gd gf gp gt : Nat) (S : ByteArray) (k : Nat) (D : List Value) (W : World) : Prop :=
  (w.heap.size = gd ∧ gf = gd + 1 ∧ gp = gd + 2 ∧ gt = gd + 3) ∧ gd + 4 ≤ W.heap.size ∧ Below w.heap.size w W ∧ Row W gd 27 D ∧ Row W gf 30 [.int .i64 0, .int .i64 0] ∧ Pr W gp S k ∧ Row W gt 40 [.pointer (some ⟨gp, 0, none⟩)]
theorem PaSt.px {w W W' : World} {gd gf gp gt : Nat} {S : ByteArray} {k j : Nat} {D : List Value} (h : PaSt w gd gf gp gt S k D W) (hX : Px gp W W') (hP : Pr W' gp S j) : PaSt w gd gf gp gt S j D W' := by
  obtain ⟨h0, h1, h2, h3, h4, _, h6⟩ := h
  exact ⟨h0, Nat.le_trans h1 hX.size, Px.to_below h2 hX (by omega) (by omega), (hX.2 gd (by omega) (by omega)).trans h3, (hX.2 gf (by omega) (by omega)).trans h4, hP, (hX.2 gt (by omega) (by omega)).trans h6⟩

theorem leaves_same {P : Program} {fn : Func} {t t' : Array Value} {R : Ending → World → Prop} (h : results fn t = results fn t') : ∀ (ds : List Deferred) (u : FrameMode) (w : World), Leaves P fn t R ds u w → Leaves P fn t' R ds u w
  | [], .returning, w, hl => by unfold Leaves at hl ⊢; rw [← h]; exact hl
  | [], .panicking c, w, hl => hl
  | [], .run, w, hl => hl
  | d :: ds, u, w, hl => by
    obtain ⟨h1, fv, cap, f, args, h2, h3, h4⟩ := hl
    refine ⟨h1, fv, cap, f, args, h2, h3, ?_⟩
    refine CallsD.mono h4 fun e u' w' he => ?_
    cases e with
    | returned v => exact leaves_same h ds _ _ he
    | panicked c => exact leaves_same h ds _ _ he
    | outgrown => exact he
theorem parse_put {R : Ending → World → Prop} {k : Nat} {v : Value} {c : List PanicEntry} {a : Act} {w : World} (hk : (k != 2 && k != 3) = true) (h : bodyPostD Tryd.prog Tryd.f8 R (.panic c) (a.put (some k) v) w) : bodyPostD Tryd.prog Tryd.f8 R (.panic c) a w := by
  simp at hk
  have e : results Tryd.f8 (a.put (some k) v).tmps = results Tryd.f8 a.tmps := by
    have h2 : (a.put (some k) v).tmps[2]? = a.tmps[2]? := by simp [Act.put, hk.1]
    have h3 : (a.put (some k) v).tmps[3]? = a.tmps[3]? := by simp [Act.put, hk.2]
    simp only [results, Tryd.results8]
    simp [h2, h3]
  exact leaves_same e _ _ _ h
abbrev doorD (gd gf gt : Nat) : List Deferred := [{ target := .fn (.func 13) #[.pointer (some ⟨gd, 0, none⟩), .pointer (some ⟨gf, 0, none⟩), .pointer (some ⟨gt, 0, none⟩)], args := #[] }]
/-- The door, by a panic. -/
theorem parse_catch {w W : World} {gd gf gt : Nat} {m : Nat} {D : List Value} (h3 : Row W gd 27 D) (h4 : Row W gf 30 [.int .i64 0, .int .i64 0]) (h0 : w.heap.size ≤ gd ∧ w.heap.size ≤ gf ∧ gd ≠ gf) (h2 : Below w.heap.size w W) (hD : D.length = 5) (f : Flt) (tmps : Array Value) (hp : tmps.getD 2 undef = .pointer (some ⟨gd, 0, none⟩)) (hu : tmps.getD 3 undef = .pointer (some ⟨gf, 0, none⟩)) :
    Leaves Tryd.prog Tryd.f8 tmps (ParsePost w (m + 1) (zeroD, f)) (doorD gd gf gt) (.panicking [{ v := fV f, recovered := false }]) W := by
  refine leaves_cons (f := 13) (args := #[.pointer (some ⟨gd, 0, none⟩), .pointer (some ⟨gf, 0, none⟩), .pointer (some ⟨gt, 0, none⟩)]) (by simp) (by simp [go_sem]) ?_
  refine (catch_run gd gf gt f.1 f.2 W D _ h3 hD h4 rfl h0.2.2).mono ?_
  rintro e u' w' ⟨rfl, rfl, r1, r2, r3, r4⟩
  simp only [settle]
  refine ⟨_, results_df rfl _ _ gd gf _ _ _ _ _ _ _ hp r1 hu r2, none, 0, none, 0, rfl, zero_pz _ _ _, ?_⟩
  exact h2.trans ⟨r3.os, r3.tape, r3.output, r3.size, fun k hk => r4 k (by have := h2.size; omega) (by omega) (by omega)⟩
/-- The door, by a return. -/
theorem parse_idle {w W : World} {gd gf gt : Nat} {m : Nat} {p : Dt × Flt} {a c a' c'} (tmps : Array Value) (hp : tmps.getD 2 undef = .pointer (some ⟨gd, 0, none⟩)) (hu : tmps.getD 3 undef = .pointer (some ⟨gf, 0, none⟩))
    (hd : Row W gd 27 (datCs p.1 a c a' c')) (hf : Row W gf 30 [.int .i64 p.2.1, .int .i64 p.2.2]) (hP : PZ w.heap.size none W m p.1 a c a' c') (hB : Below w.heap.size w W) :
    Leaves Tryd.prog Tryd.f8 tmps (ParsePost w m p) (doorD gd gf gt) .returning W := by
  refine leaves_cons (f := 13) (args := #[.pointer (some ⟨gd, 0, none⟩), .pointer (some ⟨gf, 0, none⟩), .pointer (some ⟨gt, 0, none⟩)]) (by simp) (by simp [go_sem]) ?_
  refine (catch_idle gd gf gt W).mono ?_
  rintro e u' w' ⟨rfl, rfl, rfl⟩
  exact ⟨_, results_df rfl _ _ gd gf _ _ _ _ _ _ _ hp hd hu hf, a, c, a', c', rfl, hP, hB⟩

set_option maxRecDepth 20000 in
set_option maxHeartbeats 1000000 in
theorem Parse_run (S : ByteArray) (w : World) : Calls Tryd.prog 8 #[.string S] w (ParsePost w (S.size + 1) (parseF S)) := by
  obtain ⟨r, hr⟩ : ∃ r, r = parseF S := ⟨_, rfl⟩
  rw [← hr]
  unfold parseF at hr
  by_cases hbig : 65536 < S.size
  · rw [if_pos hbig] at hr
    have g0 : (65536 : Int) < (S.size : Int) := by omega
    have HR := Lib.hid hr
    clear hr
    go_enter_defers Tryd.func8, Tryd.ntmps8
    go_wp2_with fail
    have rD := (Row.new w 27 [.int .i64 0, .int .i64 0, .string ⟨#[]⟩, .slice none 0 0, .slice none 0 0]).alloc (.cells #[.int .i64 2, .int .i64 0] 30)
    have rF := Row.new (w.alloc (.cells #[.int .i64 0, .int .i64 0, .string ⟨#[]⟩, .slice none 0 0, .slice none 0 0] 27)) 30 [.int .i64 2, .int .i64 0]
    rw [show (w.alloc (.cells #[.int .i64 0, .int .i64 0, .string ⟨#[]⟩, .slice none 0 0, .slice none 0 0] 27)).heap.size = w.heap.size + 1 by simp] at rF
    rw [HR.out]
    refine ⟨_, results_df rfl _ _ w.heap.size (w.heap.size + 1) _ _ _ _ _ _ _ rfl rD rfl rF, none, 0, none, 0, rfl, zero_pz _ _ _, ?_⟩
    exact ((Below.refl _ _).alloc (Nat.le_refl _) _).alloc (by simp) _
  · rw [if_neg hbig] at hr
    have g0 : ¬ (65536 : Int) < (S.size : Int) := by omega
    have HR := Lib.hid hr
    clear hr
    go_enter_defers Tryd.func8, Tryd.ntmps8
    go_upto_region 5 with fail
    obtain ⟨gd, hgd⟩ : ∃ b, b = w.heap.size := ⟨_, rfl⟩
    obtain ⟨gf, hgf⟩ : ∃ b, b = w.heap.size + 1 := ⟨_, rfl⟩
    obtain ⟨gp, hgp⟩ : ∃ b, b = w.heap.size + 1 + 1 := ⟨_, rfl⟩
    obtain ⟨gt, hgt⟩ : ∃ b, b = w.heap.size + 1 + 1 + 1 := ⟨_, rfl⟩
    rw [← hgt, ← hgp, ← hgf, ← hgd]
    obtain ⟨wa, hwa⟩ : ∃ W, W = (((w.alloc (.cells #[.int .i64 0, .int .i64 0, .string ⟨#[]⟩, .slice none 0 0, .slice none 0 0] 27)).alloc (.cells #[.int .i64 0, .int .i64 0] 30)).alloc (.cells #[.string S, .int .i64 0] 42)).alloc (.cells #[.pointer (some ⟨gp, 0, none⟩)] 40) := ⟨_, rfl⟩
    have HA := hide (show PaSt w gd gf gp gt S 0 [.int .i64 0, .int .i64 0, .string ⟨#[]⟩, .slice none 0 0, .slice none 0 0] wa by
      subst hwa
      refine ⟨⟨hgd.symm, by omega, by omega, by omega⟩, by simp; omega, ((((Below.refl _ _).alloc (Nat.le_refl _) _).alloc (by simp) _).alloc (by simp; omega) _).alloc (by simp; omega) _, ?_, ?_, ?_, ?_⟩
      · rw [hgd]; exact (((Row.new w _ _).alloc _).alloc _).alloc _
      · rw [hgf]; have := ((Row.new (w.alloc (.cells #[.int .i64 0, .int .i64 0, .string ⟨#[]⟩, .slice none 0 0, .slice none 0 0] 27)) 30 [.int .i64 0, .int .i64 0]).alloc (.cells #[.string S, .int .i64 0] 42)).alloc (.cells #[.pointer (some ⟨gp, 0, none⟩)] 40); simpa using this
      · rw [hgp]; have := (Row.new ((w.alloc (.cells #[.int .i64 0, .int .i64 0, .string ⟨#[]⟩, .slice none 0 0, .slice none 0 0] 27)).alloc (.cells #[.int .i64 0, .int .i64 0] 30)) 42 [.string S, .int .i64 0]).alloc (.cells #[.pointer (some ⟨w.heap.size + 1 + 1, 0, none⟩)] 40); unfold Pr; simpa using this
      · rw [hgt]; have := Row.new (((w.alloc (.cells #[.int .i64 0, .int .i64 0, .string ⟨#[]⟩, .slice none 0 0, .slice none 0 0] 27)).alloc (.cells #[.int .i64 0, .int .i64 0] 30)).alloc (.cells #[.string S, .int .i64 0] 42)) 40 [.pointer (some ⟨gp, 0, none⟩)]; simpa using this)
    rw [← hwa]
    clear hwa hgd hgf hgp hgt
    have HBL := hide (blanks_run S gp 0 wa HA.out.2.2.2.2.2.1 (by omega) (by omega))
    have p1 : wa.cell? ⟨gt, 0, none⟩ = some (.pointer (some ⟨gp, 0, none⟩)) := HA.out.2.2.2.2.2.2.cell 0
    go_wp2_with fail
    refine HBL.out.mono ?_; rintro e w1 ⟨rfl, hP, hX⟩
    obtain ⟨i0, hi⟩ : ∃ k, k = blk S 0 := ⟨_, rfl⟩
    have hi0 : i0 ≤ S.size := by rw [hi]; exact run_le _ (by omega)
    rw [← hi] at HR hP
    have H1 := hide (HA.out.px hX hP)
    clear hi HBL HA p1 hP hX
    have p1 : w1.cell? ⟨gt, 0, none⟩ = some (.pointer (some ⟨gp, 0, none⟩)) := H1.out.2.2.2.2.2.2.cell 0
    have HV := hide (value_run S gp (by omega) (S.size + 1) i0 w1 H1.out.2.2.2.2.2.1 hi0 (by omega))
    obtain ⟨x, hx⟩ : ∃ x, x = valF S (S.size + 1) i0 := ⟨_, rfl⟩
    rw [← hx] at HV HR
    have HXV := Lib.hid hx
    clear hx
    go_wp2_with fail
    refine HV.out.mono ?_
    cases x with
    | error f =>
      rintro e w2 ⟨rfl, hx⟩
      have HX := hide hx
      clear hx HV
      go_wp2_with fail
      rw [show r = (zeroD, f) from HR.out]
      obtain ⟨a0, a1, a2, a3, a4, a5, a6⟩ := H1.out
      exact parse_catch ((HX.out.2 gd (by omega) (by omega)).trans a3) ((HX.out.2 gf (by omega) (by omega)).trans a4) (by omega) (Px.to_below a2 HX.out (by omega) (by omega)) rfl f _ rfl rfl
    | ok p =>
      obtain ⟨d, j⟩ := p
      rintro e w2 ⟨⟨a, c, a', c', rfl, hPZ⟩, hP2, hX2⟩
      obtain ⟨j1, j2⟩ := val_gain _ HXV.out.symm
      have HFIT := hide fun r => val_fit (by omega) (S.size + 1) r HXV.out.symm
      have H2 := hide (H1.out.px hX2 hP2)
      have HZ2 := hide hPZ
      have hlo : gd < w1.heap.size ∧ gp < w1.heap.size := by have := H1.out.1; have := H1.out.2.1; omega
      clear hPZ hP2 hX2 HV HXV p1 H1
      unfold datV datCs
      obtain ⟨t0, t1, t2, t3, t4⟩ := row5 H2.out.2.2.2.1
      have f0 := H2.out.2.2.2.1.frozen 0
      have f1 := H2.out.2.2.2.1.frozen 1
      have f2 := H2.out.2.2.2.1.frozen 2
      have f3 := H2.out.2.2.2.1.frozen 3
      have f4 := H2.out.2.2.2.1.frozen 4
      go_upto_region 7 with fail
      obtain ⟨w3, hw3⟩ : ∃ W, W = set5 w2 gd (.int .i64 (kD d)) (.int .i64 (nD d)) (.string (sD d)) (.slice a (iD d).length c) (.slice a' (mD d).length c') := ⟨_, rfl⟩
      have H3 := hide (show PaSt w gd gf gp gt S j (datCs d a c a' c') w3 by
        rw [hw3]
        obtain ⟨a0, a1, a2, a3, a4, a5, a6⟩ := H2.out
        exact ⟨a0, by rw [set5_size]; exact a1, below_set5 a2 (by omega) _ _ _ _ _, row_set5 a3 _ _ _ _ _, row_far5 a4 (by omega) _ _ _ _ _, row_far5 a5 (by omega) _ _ _ _ _, row_far5 a6 (by omega) _ _ _ _ _⟩)
      have HZ3 := hide (show PZ w1.heap.size none w3 (S.size + 1) d a c a' c' by
        rw [hw3]
        exact HZ2.out.turn (by rw [set5_size]; exact Nat.le_refl _) fun k k1 k2 _ => ⟨set5_heap _ _ _ _ _ _ _ (by omega), k1, by simp⟩)
      unfold set5 at hw3
      rw [← hw3]
      clear hw3 H2 HZ2 t0 t1 t2 t3 t4 f0 f1 f2 f3 f4
      have p1 : w3.cell? ⟨gt, 0, none⟩ = some (.pointer (some ⟨gp, 0, none⟩)) := H3.out.2.2.2.2.2.2.cell 0
      have HBL := hide (blanks_run S gp j w3 H3.out.2.2.2.2.2.1 (by omega) j2)
      obtain ⟨k, hk⟩ : ∃ k, k = blk S j := ⟨_, rfl⟩
      have hks : k ≤ S.size := by rw [hk]; exact run_le _ j2
      have HR2 := hide (show r = if k < S.size then (zeroD, (19, (k : Int))) else if checkD (cleanF (S.size + 1) 1 d) = 0 then (cleanF (S.size + 1) 1 d, (0, 0)) else (zeroD, (checkD (cleanF (S.size + 1) 1 d), 0)) by rw [HR.out, hk])
      rw [← hk] at HBL
      clear hk HR
      go_wp2_with fail
      refine HBL.out.mono ?_; rintro e w4 ⟨rfl, hP, hX⟩
      have H4 := hide (H3.out.px hX hP)
      have HZ4 := hide (pz_px HZ3.out hX hlo.2)
      clear hP hX HBL H3 HZ3 p1
      have p1 : w4.cell? ⟨gt, 0, none⟩ = some (.pointer (some ⟨gp, 0, none⟩)) := H4.out.2.2.2.2.2.2.cell 0
      obtain ⟨c0, c1, c2⟩ := H4.out.2.2.2.2.2.1.cells
      by_cases hks2 : k < S.size
      · have HE := hide (show r = (zeroD, (19, (k : Int))) by rw [HR2.out, if_pos hks2])
        have g1 : (k : Int) < (S.size : Int) := by omega
        have HF := hide fun V => fail_run (.pointer (some ⟨gp, 0, none⟩)) 19 (k : Nat) V
        clear HR2
        go_upto_region 9 with fail
        refine wp_region_any (by kernel_rfl) (wpAny_of_held (S := fun W => W.cell? ⟨gt, 0, none⟩ = some (.pointer (some ⟨gp, 0, none⟩)) ∧ W.cell? ⟨gp, 1, none⟩ = some (.int .i64 k)) _ _ _ _ ?_)
        have hH : w4.drew.cell? ⟨gt, 0, none⟩ = some (.pointer (some ⟨gp, 0, none⟩)) ∧ w4.drew.cell? ⟨gp, 1, none⟩ = some (.int .i64 k) := ⟨p1, c1⟩
        refine takeH (i := 0) (v := ?_) rfl (by kernel_rfl) (by kernel_rfl) (by kernel_rfl) (fun _ _ _ h => parse_put (by decide) h) (Or.inl ⟨by rfl, ?_⟩) hH ?_
        rotate_left
        · (intro w hSw; (try dsimp only at hSw); go_simp; try with_reducible rfl)
        simp only [Act.put, List.setIfInBounds_toArray, List.set_cons_zero, List.set_cons_succ]
        refine takeH (i := 1) (v := ?_) rfl (by kernel_rfl) (by kernel_rfl) (by kernel_rfl) (fun _ _ _ h => parse_put (by decide) h) (Or.inl ⟨by rfl, ?_⟩) hH ?_
        rotate_left
        · (intro w hSw; (try dsimp only at hSw); go_simp; try with_reducible rfl)
        simp only [Act.put, List.setIfInBounds_toArray, List.set_cons_zero, List.set_cons_succ]
        refine takeH (i := 2) (v := ?_) rfl (by kernel_rfl) (by kernel_rfl) (by kernel_rfl) (fun _ _ _ h => parse_put (by decide) h) (Or.inl ⟨by rfl, ?_⟩) hH ?_
        rotate_left
        · (intro w hSw; (try dsimp only at hSw); go_simp; try with_reducible rfl)
        simp only [Act.put, List.setIfInBounds_toArray, List.set_cons_zero, List.set_cons_succ]
        refine takeH (i := 3) (v := ?_) rfl (by kernel_rfl) (by kernel_rfl) (by kernel_rfl) (fun _ _ _ h => parse_put (by decide) h) (Or.inl ⟨by rfl, ?_⟩) hH ?_
        rotate_left
        · (intro w hSw; (try dsimp only at hSw); go_simp; try with_reducible rfl)
        simp only [Act.put, List.setIfInBounds_toArray, List.set_cons_zero, List.set_cons_succ]
        refine takeH (i := 4) (v := ?_) rfl (by kernel_rfl) (by kernel_rfl) (by kernel_rfl) (fun _ _ _ h => parse_put (by decide) h) (Or.inl ⟨by rfl, ?_⟩) hH ?_
        rotate_left
        · (intro w hSw; (try dsimp only at hSw); go_simp; try with_reducible rfl)
        simp only [Act.put, List.setIfInBounds_toArray, List.set_cons_zero, List.set_cons_succ]
        refine oneH (i := 5) rfl (by kernel_rfl) (fun K hK => ?_)
        go_simp
        go_at_call 16
        refine (HF.out _).mono ?_; rintro e w5 ⟨rfl, rfl⟩
        rw [HE.out]
        obtain ⟨a0, a1, a2, a3, a4, a5, a6⟩ := H4.out
        exact parse_catch (W := w4.drew) a3 a4 (by omega) a2.drew rfl (19, (k : Int)) _ rfl rfl
      · obtain ⟨R, hR⟩ : ∃ R, R = cleanF (S.size + 1) 1 d := ⟨_, rfl⟩
        have HM := hide (Make_runZ (S.size + 1) d a c a' c' w4 HZ4.out.parts HFIT.out)
        have HR3 := hide (show r = if checkD R = 0 then (R, (0, 0)) else (zeroD, (checkD R, 0)) by rw [HR2.out, if_neg hks2, hR])
        rw [← hR] at HM
        unfold MakePostZ datV datCs at HM
        obtain ⟨z, hz⟩ : ∃ z, z = checkD R := ⟨_, rfl⟩
        rw [← hz] at HM HR3
        have g1 : ¬ (k : Int) < (S.size : Int) := by omega
        obtain ⟨t0, t1, t2, t3, t4⟩ := row5 H4.out.2.2.2.1
        clear hR hz HR2
        go_wp2_with fail
        refine HM.out.mono ?_; rintro e w5 ⟨X, b, q, b', q', rfl, hX, hP5, hB5⟩
        obtain ⟨a0, a1, a2, a3, a4, a5, a6⟩ := H4.out
        have a3 := a3.below hB5
        have a4 := a4.below hB5
        have HB5 := hide (a2.trans (hB5.mono a2.size))
        have HZ5 := hide hP5
        have HX := hide hX
        have hne : gd ≠ gf := by omega
        have hne2 := Ne.symm hne
        have HL := hide (show (w.heap.size ≤ gd ∧ w.heap.size ≤ gf) ∧ gd < w4.heap.size ∧ gf < w4.heap.size ∧ w.heap.size ≤ w4.heap.size by omega)
        clear t0 t1 t2 t3 t4 c0 c1 c2 p1 hX hP5 hB5 HM H4 HZ4 a0 a1 a2 a5 a6
        obtain ⟨t0, t1, t2, t3, t4⟩ := row5 a3
        have f0 := a3.frozen 0
        have f1 := a3.frozen 1
        have f2 := a3.frozen 2
        have f3 := a3.frozen 3
        have f4 := a3.frozen 4
        have e0 : w5.cell? ⟨gf, 0, none⟩ = some (.int .i64 0) := a4.cell 0
        have e1 : w5.cell? ⟨gf, 1, none⟩ = some (.int .i64 0) := a4.cell 1
        have k0 := a4.frozen 0
        have k1 := a4.frozen 1
        have HD5 := hide a3; have HF5 := hide a4
        clear a3 a4
        by_cases hz0 : z = 0
        · subst hz0
          have HE := hide (show r = (R, (0, 0)) by rw [HR3.out, if_pos rfl])
          have HXR := hide (show X = R by rw [HX.out, if_pos rfl])
          clear HR3 HX
          go_wp2_with fail
          obtain ⟨r1, r2, r3, r4⟩ := parse_fin (m := S.size + 1) (lo := w4.heap.size) ⟨_, _, _, _, _, HD5.out⟩ ⟨_, _, HF5.out⟩ hne HB5.out HL.out.1 HL.out.2 rfl
          rw [HE.out, ← HXR.out]
          exact parse_idle _ rfl rfl r1 r2 (r4 _ _ _ _ _ HZ5.out) r3
        · have hz1 : (z != 0) = true := by simpa using hz0
          have HE := hide (show r = (zeroD, (z, 0)) by rw [HR3.out, if_neg hz0])
          clear HR3 HX
          go_wp2_with fail
          obtain ⟨r1, r2, r3, r4⟩ := parse_fin (m := S.size + 1) (lo := w4.heap.size) ⟨_, _, _, _, _, HD5.out⟩ ⟨_, _, HF5.out⟩ hne HB5.out HL.out.1 HL.out.2 rfl
          rw [HE.out]
          exact parse_idle (p := (zeroD, (z, 0))) (a := none) (c := 0) (a' := none) (c' := 0) _ rfl rfl r1 r2 (zero_pz _ _ _) r3
end Go.Proofs.YtmmbbndoimleaaaDoor

/- check and Check of the reference. -/
namespace Go.Proofs.YtmmbbndoimleaaaDoor
open Go.RowKit

end Go.Proofs.YtmmbbndoimleaaaDoor
