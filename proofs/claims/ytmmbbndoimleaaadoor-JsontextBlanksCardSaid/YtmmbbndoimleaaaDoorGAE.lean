/- Sorting members: symMerge; Sorting members: stable and SortStableFunc; Data made afresh: it stands as long as the blocks behind a bound do; Compare and Equal; Results that lie in a block; step; clean: the function's own blocks, and rows that grow by data made afresh; str; short, quoted, line of package jsontext. -/
import Derived.Test.YtmmbbndoimleaaaDoorGAD
import Derived.Test.YtmmbbndoimleaaaDoorGAA
import Derived.Laws.ResultCell
import Derived.Laws.Rows
import Derived.Test.YtmmbbndoimleaaaDoorGAC
import Derived.Laws.IdiomStrings
import Derived.Laws.BytesArg

/- Sorting members: symMerge. -/
namespace Go.Proofs.YtmmbbndoimleaaaDoor
open Go.RowKit

attribute [local go_sem] add_head
set_option maxRecDepth 100000 in
set_option maxHeartbeats 8000000 in
/-- Two sorted lists side by side are merged. -/
theorem symMerge_run (g cap N : Nat) (rest : List Value) (hl : N ≤ 1000000000) : ∀ (f : Nat) (P A B S : List Mc) (a m b : Nat) (w : World), A.length + B.length ≤ f → SRow w g (P ++ A ++ B ++ S) rest → 0 < A.length → 0 < B.length → P.length = a → a + A.length = m → m + B.length = b → (P ++ A ++ B ++ S).length = N → Sr A → Sr B →
    Calls Tryd.prog 59 #[.slice (some ⟨g, 0, none⟩) N cap, .int .i64 a, .int .i64 m, .int .i64 b, .func (.func 38) #[] #[]] w fun e w' => e = .returned (.tuple #[]) ∧ ∃ C, Sorted_ C (A ++ B) ∧ SRow w' g (P ++ C ++ S) rest ∧ w.grownBy w' (some g) := by
  intro f
  induction f with
  | zero => intro P A B S a m b w hf _ hA; omega
  | succ f ih =>
    intro P A B S a m b w hf h hA hB ha hm hb hN hsA hsB
    by_cases hA1 : A.length = 1
    · obtain ⟨x, rfl⟩ := List.length_eq_one_iff.1 hA1
      have := symFirst_run g cap N a m b P x B S rest w (by simpa using h) hB ha (by simpa using hm) hb (by simpa using hN) hl hsB
      simpa using this
    by_cases hB1 : B.length = 1
    · obtain ⟨x, rfl⟩ := List.length_eq_one_iff.1 hB1
      have := symLast_run g cap N a m b P x A S rest w (by simpa using h) (by omega) ha hm (by simpa using hb) (by simpa using hN) hl hsA
      simpa using this
    have IH := hide ih
    have hlen : b + S.length = N := by rw [← hN]; simp; omega
    obtain ⟨la, hla⟩ : ∃ l, l = A.length := ⟨_, rfl⟩
    obtain ⟨lb, hlb⟩ : ∃ l, l = B.length := ⟨_, rfl⟩
    have w1 : IntKind.i64.wrap ((m : Int) - (a : Int)) = (la : Int) := by rw [IntWalk.i64_in _ (by omega)]; omega
    have w2 : IntKind.i64.wrap ((b : Int) - (m : Int)) = (lb : Int) := by rw [IntWalk.i64_in _ (by omega)]; omega
    have g0 : ((la : Int) == 1) = false := beq_false_of_ne (by omega)
    have g00 : ((lb : Int) == 1) = false := beq_false_of_ne (by omega)
    have e1 : IntKind.i64.wrap ((a : Int) + (b : Int)) = ((a + b : Nat) : Int) := by rw [IntWalk.i64_in _ (by omega)]; omega
    obtain ⟨md, hmd⟩ : ∃ c, c = (a + b) / 2 := ⟨_, rfl⟩
    have e2 : ((a : Int) + (b : Int)) / 2 = (md : Int) := by omega
    obtain ⟨n, hn⟩ : ∃ n, n = md + m := ⟨_, rfl⟩
    have e3 : IntKind.i64.wrap ((md : Int) + (m : Int)) = (n : Int) := by rw [IntWalk.i64_in _ (by omega)]; omega
    obtain ⟨nb, hnb⟩ : ∃ x, x = n - b := ⟨_, rfl⟩
    have HE4 := hide (show md < m → IntKind.i64.wrap ((n : Int) - (b : Int)) = (nb : Int) from fun h => by rw [IntWalk.i64_in _ (by omega)]; omega)
    obtain ⟨p, hp⟩ : ∃ p, p = n - 1 := ⟨_, rfl⟩
    have e5 : IntKind.i64.wrap ((n : Int) - 1) = (p : Int) := by rw [IntWalk.i64_in _ (by omega)]; omega
    have ham : a < m := by omega
    have hmb : m < b := by omega
    have hamd : a < md := by omega
    have hmdb : md < b := by omega
    have hbN : b ≤ N := by omega
    have HS := hide h
    have HSA := hide hsA
    have HSB := hide hsB
    have HF := hide (show la = A.length ∧ lb = B.length ∧ md = (a + b) / 2 ∧ n = md + m ∧ p = n - 1 ∧ P.length = a ∧ a + A.length = m ∧ m + B.length = b ∧ b + S.length = N ∧ A.length + B.length ≤ f + 1 from ⟨hla, hlb, hmd, hn, hp, ha, hm, hb, hlen, hf⟩)
    have HNB := hide hnb
    have HAB := hide (show md < m → (md < m ∧ nb = n - b ∧ md = md ∨ m ≤ md ∧ nb = a ∧ md = m) ∧ nb ≤ md ∧ a ≤ nb from fun h => ⟨.inl ⟨h, hnb, rfl⟩, by omega, by omega⟩)
    have HN := hide hN
    clear h hsA hsB hla hlb hmd hn hp hnb hN hA1 hB1 hA hB ha hm hb hf ih hlen
    go_enter Tryd.func59, Tryd.ntmps59
    go_upto_if 140 with fail
    go_cut [20, 21] from 140 to 146 (fun sv rv wc => ∃ s r : Nat, sv = .int .i64 s ∧ rv = .int .i64 r ∧ s ≤ r ∧ w = wc ∧ Hid (∃ lo hi, (md < m ∧ lo = n - b ∧ hi = md ∨ m ≤ md ∧ lo = a ∧ hi = m) ∧ lo ≤ s ∧ s ≤ r ∧ r ≤ hi ∧ Cut A B a m n s r lo hi))
    case first =>
      by_cases hmm : md < m
      · have g1 : decide ((m : Int) > (md : Int)) = true := by simp; omega
        have e4 := HE4.out hmm
        have HC := hide (show ∃ lo hi, (md < m ∧ lo = n - b ∧ hi = md ∨ m ≤ md ∧ lo = a ∧ hi = m) ∧ lo ≤ nb ∧ nb ≤ md ∧ md ≤ hi ∧ Cut A B a m n nb md lo hi from
          ⟨nb, md, .inl ⟨hmm, HNB.out, rfl⟩, Nat.le_refl _, (HAB.out hmm).2.1, Nat.le_refl _, cut_start ..⟩)
        have hs0 : nb ≤ md := (HAB.out hmm).2.1
        go_wp2_with fail
        go_meet
        case rel => exact ⟨nb, md, rfl, rfl, hs0, rfl, HC⟩
      · have g1 : decide ((m : Int) > (md : Int)) = false := by simp; omega
        have HC := hide (show ∃ lo hi, (md < m ∧ lo = n - b ∧ hi = md ∨ m ≤ md ∧ lo = a ∧ hi = m) ∧ lo ≤ a ∧ a ≤ m ∧ m ≤ hi ∧ Cut A B a m n a m lo hi from
          ⟨a, m, .inr ⟨by omega, rfl, rfl⟩, Nat.le_refl _, by omega, Nat.le_refl _, cut_start ..⟩)
        go_wp2_with fail
        go_meet
        case rel => exact ⟨a, m, rfl, rfl, by omega, rfl, HC⟩
    case rest =>
      obtain ⟨s0, r0, rfl, rfl, hsr0, rfl, HI0⟩ := hcut
      clear HAB HE4 HNB
      have HG0 := hide (grown_refl w (some g))
      go_wp2_with fail
      go_loopw [20, 21, 23] (fun iv jv _ wr => ∃ s r : Nat, iv = .int .i64 s ∧ jv = .int .i64 r ∧ s ≤ r ∧ Hid (SRow wr g (P ++ A ++ B ++ S) rest) ∧ Hid (w.grownBy wr (some g)) ∧ Hid (∃ lo hi, (md < m ∧ lo = n - b ∧ hi = md ∨ m ≤ md ∧ lo = a ∧ hi = m) ∧ lo ≤ s ∧ s ≤ r ∧ r ≤ hi ∧ Cut A B a m n s r lo hi)) (fun iv jv _ _ => (intOf jv).toNat - (intOf iv).toNat)
      case atStart => exact ⟨s0, r0, rfl, rfl, hsr0, HS, HG0, HI0⟩
      case round =>
        clear HS HG0
        clear HI0
        clear w1 w2 g0 g00 e1 e2 e3 e5 hsr0
        obtain ⟨s, r, rfl, rfl, hsr, hR, hG, hI⟩ := hrel
        obtain ⟨lo, hi, hc, hlo, hsr', hhi, hcut⟩ := hI.out
        obtain ⟨fa, fb, fmd, fn, fp, fP, fA, fB, fS, ff⟩ := HF.out
        by_cases hlt : s < r
        · have e1 : IntKind.i64.wrap ((s : Int) + (r : Int)) = ((s + r : Nat) : Int) := by rw [IntWalk.i64_in _ (by omega)]; omega
          obtain ⟨c, hc'⟩ : ∃ c, c = (s + r) / 2 := ⟨_, rfl⟩
          have e2 : ((s : Int) + (r : Int)) / 2 = (c : Int) := by omega
          have hac : a ≤ c ∧ c < m ∧ m ≤ n - 1 - c ∧ n - 1 - c < b ∧ c < n := by
            rcases hc with ⟨h1, rfl, rfl⟩ | ⟨h1, rfl, rfl⟩ <;> omega
          obtain ⟨q, hq⟩ : ∃ q, q = n - 1 - c := ⟨_, rfl⟩
          have e6 : IntKind.i64.wrap ((p : Int) - (c : Int)) = (q : Int) := by rw [IntWalk.i64_in _ (by omega)]; omega
          have e3 : IntKind.i64.wrap ((c : Int) + 1) = ((c + 1 : Nat) : Int) := by rw [IntWalk.i64_in _ (by omega)]; omega
          have hcN : c < N := by omega
          have hqN : q < N := by omega
          obtain ⟨t, ht⟩ : ∃ t, c = a + t := ⟨c - a, by omega⟩
          obtain ⟨u, hu⟩ : ∃ u, n - 1 - c = m + u := ⟨n - 1 - c - m, by omega⟩
          have htA : t < A.length := by omega
          have huB : u < B.length := by omega
          obtain ⟨x, hx⟩ : ∃ y, y = A[t] := ⟨_, rfl⟩
          obtain ⟨y, hy⟩ : ∃ y, y = B[u] := ⟨_, rfl⟩
          have hx6 := hR.out.at_ (i := c) (e := x) (by rw [hx, List.append_assoc (P ++ A)]; exact at_in (by omega) htA)
          have hy6 := hR.out.at_ (i := q) (e := y) (by rw [hy]; exact at_in (by simp; omega) huB)
          obtain ⟨z, hz⟩ : ∃ z, z = cmpS y.1 x.1 := ⟨_, rfl⟩
          have HC := hide fun w => lab_run y x w
          rw [← hz] at HC
          unfold mcV mcs at HC
          have HSC := hide fun W (h : Below wr.heap.size wr W) => And.intro (hide (hR.out.below h)) (hide (grown_below hG.out h (Nat.le_refl _)))
          obtain ⟨y0, y1, y2, y3, y4, y5⟩ := hy6
          obtain ⟨x0, x1, x2, x3, x4, x5⟩ := hx6
          by_cases hyx : ltB y.1 x.1 = true
          · have g2 : decide ((z : Int) < 0) = true := by rw [hz, cmpS_lt hyx]; rfl
            have HI := hide (show ∃ lo hi, (md < m ∧ lo = n - b ∧ hi = md ∨ m ≤ md ∧ lo = a ∧ hi = m) ∧ lo ≤ s ∧ s ≤ c ∧ c ≤ hi ∧ Cut A B a m n s c lo hi from
              ⟨lo, hi, hc, hlo, by omega, by omega, hcut.high HSA.out HSB.out ht hu htA huB (by rw [← hx, ← hy]; exact hyx)⟩)
            have hsc : s ≤ c := by omega
            have hcr : c < r := by omega
            clear hI hz hG hR hy hx hc hlo hsr' hhi hcut fa fb fmd fn fp fP fA fB fS ff hac hc' hq ht hu htA huB hyx
            go_wp2_with fail
            refine wp_region_still_tail 11 (by kernel_rfl) (by kernel_rfl) ?_
            simp only [List.take_succ_cons, List.take_zero, List.drop_succ_cons, List.drop_zero]
            repeat (first
              | still_step
              | (with_reducible refine wpStill_want ?_ (fun K hK => ?_); kernel_rfl; go_simp; refine hK _ ?_; clear hK K))
            refine wpStill_nil ?_
            go_wp2_with fail
            refine (HC.out _).mono ?_; rintro e w3 ⟨rfl, hB3⟩
            obtain ⟨HS3, HG3⟩ := HSC.out _ ((Below.refl _ _).drew.trans hB3)
            clear HSC HC hB3 y0 y1 y2 y3 y4 y5 x0 x1 x2 x3 x4 x5
            go_wp2_with fail
            go_roundw
            case rel => exact ⟨s, c, rfl, rfl, hsc, HS3, HG3, HI⟩
            case measure => simp [intOf]; omega
          · have hyx : ltB y.1 x.1 = false := by simpa using hyx
            have g2 : decide ((z : Int) < 0) = false := by rw [hz]; have := cmpS_ge hyx; simp; omega
            have HI := hide (show ∃ lo hi, (md < m ∧ lo = n - b ∧ hi = md ∨ m ≤ md ∧ lo = a ∧ hi = m) ∧ lo ≤ c + 1 ∧ c + 1 ≤ r ∧ r ≤ hi ∧ Cut A B a m n (c + 1) r lo hi from
              ⟨lo, hi, hc, by omega, by omega, hhi, hcut.low HSA.out HSB.out ht hu hac.2.2.2.2 htA huB (by rw [← hx, ← hy]; exact hyx)⟩)
            have hsc : s ≤ c := by omega
            have hcr : c + 1 ≤ r := by omega
            clear hI hz hG hR hy hx hc hlo hsr' hhi hcut fa fb fmd fn fp fP fA fB fS ff hac hc' hq ht hu htA huB hyx
            go_wp2_with fail
            refine wp_region_still_tail 11 (by kernel_rfl) (by kernel_rfl) ?_
            simp only [List.take_succ_cons, List.take_zero, List.drop_succ_cons, List.drop_zero]
            repeat (first
              | still_step
              | (with_reducible refine wpStill_want ?_ (fun K hK => ?_); kernel_rfl; go_simp; refine hK _ ?_; clear hK K))
            refine wpStill_nil ?_
            go_wp2_with fail
            refine (HC.out _).mono ?_; rintro e w3 ⟨rfl, hB3⟩
            obtain ⟨HS3, HG3⟩ := HSC.out _ ((Below.refl _ _).drew.trans hB3)
            clear HSC HC hB3 y0 y1 y2 y3 y4 y5 x0 x1 x2 x3 x4 x5
            go_wp2_with fail
            go_roundw
            case rel => exact ⟨c + 1, r, by go_num, rfl, hcr, HS3, HG3, HI⟩
            case measure => simp [intOf]; omega
        · obtain rfl : s = r := by omega
          obtain ⟨b1, b2, b3, b4, b5, b6, hlt12, hle12⟩ := hcut.fin HSA.out HSB.out (by omega) (by omega) fn fmd hlo hhi hc
          obtain ⟨e, he⟩ : ∃ e, e = n - s := ⟨_, rfl⟩
          rw [← he] at b3 b4 b6 hlt12 hle12
          have e1 : IntKind.i64.wrap ((n : Int) - (s : Int)) = (e : Int) := by rw [IntWalk.i64_in _ (by omega)]; omega
          obtain ⟨A1, hA1⟩ : ∃ l, l = A.take (s - a) := ⟨_, rfl⟩
          obtain ⟨A2, hA2⟩ : ∃ l, l = A.drop (s - a) := ⟨_, rfl⟩
          obtain ⟨B1, hB1⟩ : ∃ l, l = B.take (e - m) := ⟨_, rfl⟩
          obtain ⟨B2, hB2⟩ : ∃ l, l = B.drop (e - m) := ⟨_, rfl⟩
          have hAA : A1 ++ A2 = A := by rw [hA1, hA2, List.take_append_drop]
          have hBB : B1 ++ B2 = B := by rw [hB1, hB2, List.take_append_drop]
          rw [← hA1, ← hB2] at hle12
          rw [← hA2, ← hB1] at hlt12
          have l1 : A1.length = s - a := by rw [hA1, List.length_take]; omega
          have l2 : A2.length = m - s := by rw [hA2, List.length_drop]; omega
          have l3 : B1.length = e - m := by rw [hB1, List.length_take]; omega
          have l4 : B2.length = b - e := by rw [hB2, List.length_drop]; omega
          have lm : e - m = md - s := by omega
          have sA : Sr A1 ∧ Sr A2 := by have := HSA.out; rw [← hAA] at this; exact ⟨srt_left' this, (List.pairwise_append.1 this).2.1⟩
          have sB : Sr B1 ∧ Sr B2 := by have := HSB.out; rw [← hBB] at this; exact ⟨srt_left' this, (List.pairwise_append.1 this).2.1⟩
          have HJ := hide fun C1 C2 (h1 : Sorted_ C1 (A1 ++ B1)) (h2 : Sorted_ C2 (A2 ++ B2)) => sym_join (by rw [hAA]; exact HSA.out) (by rw [hBB]; exact HSB.out) h1 h2 hlt12 hle12
          rw [hAA, hBB] at HJ
          have hrow := hR.out
          rw [← hAA, ← hBB] at hrow
          have hN' : (P ++ A1 ++ A2 ++ B1 ++ B2 ++ S).length = N := by simp; omega
          have HROT := hide fun (h1 : s < m) (h2 : m < e) => rotate_run g cap N s m e (P ++ A1) A2 B1 (B2 ++ S) rest (.func (.func 38) #[] #[]) wr (by simpa using hrow) (by omega) (by omega) (by simp; omega) (by simp; omega) (by simp; omega) (by rw [← hN']; simp) hl
          have HNR := hide fun (h : ¬ (s < m ∧ m < e)) => show SRow wr g (P ++ A1 ++ B1 ++ A2 ++ B2 ++ S) rest by
            by_cases h1 : s < m
            · have : B1 = [] := List.eq_nil_of_length_eq_zero (by omega)
              subst this; simpa using hrow
            · have : A2 = [] := List.eq_nil_of_length_eq_zero (by omega)
              subst this; simpa using hrow
          have HR1 := hide fun (h1 : a < s) (h2 : s < md) W (h : SRow W g (P ++ A1 ++ B1 ++ A2 ++ B2 ++ S) rest) => IH.out P A1 B1 (A2 ++ B2 ++ S) a s md W (by omega) (by simpa using h) (by omega) (by omega) fP (by omega) (by omega) (by simp; omega) sA.1 sB.1
          have HN1 := hide fun (h : ¬ (a < s ∧ s < md)) => show Sorted_ (A1 ++ B1) (A1 ++ B1) by
            by_cases h1 : a < s
            · have : B1 = [] := List.eq_nil_of_length_eq_zero (by omega)
              subst this; rw [List.append_nil]; exact sorted_one sA.1
            · have : A1 = [] := List.eq_nil_of_length_eq_zero (by omega)
              subst this; exact sorted_one sB.1
          have HR2 := hide fun (h1 : md < e) (h2 : e < b) C1 (h3 : Sorted_ C1 (A1 ++ B1)) W (h : SRow W g (P ++ C1 ++ A2 ++ B2 ++ S) rest) => IH.out (P ++ C1) A2 B2 S md e b W (by omega) h (by omega) (by omega) (by have := h3.2.2; simp at this ⊢; omega) (by omega) (by omega) (by have := h3.2.2; simp at this ⊢; omega) sA.2 sB.2
          have HN2 := hide fun (h : ¬ (md < e ∧ e < b)) => show Sorted_ (A2 ++ B2) (A2 ++ B2) by
            by_cases h1 : md < e
            · have : B2 = [] := List.eq_nil_of_length_eq_zero (by omega)
              subst this; rw [List.append_nil]; exact sorted_one sA.2
            · have : A2 = [] := List.eq_nil_of_length_eq_zero (by omega)
              subst this; exact sorted_one sB.2
          clear hI hR hc hlo hsr' hhi hcut fa fb fmd fn fp fP fA fB fS ff he hA1 hA2 hB1 hB2 hAA hBB hlt12 hle12 l1 l2 l3 l4 lm sA sB hrow hN' IH
          go_upto_region 39 with fail
          obtain ⟨q1, hq1⟩ : ∃ q, q = decide (s < m ∧ m < e) := ⟨_, rfl⟩
          have HQ1 := Lib.hid hq1
          clear hq1
          go_cut [185] from 178 to 184 (fun v wc => v = .bool q1 ∧ wr = wc)
          case first =>
            clear HROT HNR HR1 HN1 HR2 HN2
            by_cases h1 : s < m
            · by_cases h2 : m < e
              · go_wp2_with fail
                go_meet
                case rel => exact ⟨by rw [HQ1.out, decide_eq_true ⟨h1, h2⟩], rfl⟩
              · go_wp2_with fail
                go_meet
                case rel => exact ⟨by rw [HQ1.out, decide_eq_false fun h => h2 h.2], rfl⟩
            · go_wp2_with fail
              go_meet
              case rel => exact ⟨by rw [HQ1.out, decide_eq_false fun h => h1 h.1], rfl⟩
          case rest =>
            obtain ⟨rfl, rfl⟩ := hcut
            go_upto_if 185 with fail
            go_cut [20] from 185 to 191 (fun sv wc => sv = .int .i64 s ∧ Hid (SRow wc g (P ++ A1 ++ B1 ++ A2 ++ B2 ++ S) rest) ∧ Hid (w.grownBy wc (some g)))
            case first =>
              cases q1 with
              | true =>
                have hq := HQ1.out
                have HC := hide (HROT.out (of_decide_eq_true hq.symm).1 (of_decide_eq_true hq.symm).2)
                clear HROT HNR HR1 HN1 HR2 HN2 hq
                go_wp2_with fail
                refine (HC.out).mono ?_; rintro e' w3 ⟨rfl, hS3, hG3⟩
                go_wp2_with fail
                go_meet
                case rel => exact ⟨rfl, hide (by simpa using hS3), hide (hG.out.trans hG3)⟩
              | false =>
                have hq := HQ1.out
                have HC := hide (HNR.out (of_decide_eq_false hq.symm))
                clear HROT HNR HR1 HN1 HR2 HN2 hq
                go_wp2_with fail
                go_meet
                case rel => exact ⟨rfl, HC, hG⟩
            case rest =>
              obtain ⟨rfl, HS4, HG4⟩ := hcut
              clear HROT HNR hG HQ1
              go_upto_region 41 with fail
              obtain ⟨q2, hq2⟩ : ∃ q, q = decide (a < s ∧ s < md) := ⟨_, rfl⟩
              have HQ2 := Lib.hid hq2
              clear hq2
              obtain ⟨wy, hwy⟩ : ∃ wy, wy = wc := ⟨_, rfl⟩
              rw [← hwy] at HS4 HG4 ⊢
              clear hwy
              go_cut [199] from 192 to 198 (fun v wc => v = .bool q2 ∧ wy = wc)
              case first =>
                clear HR1 HN1 HR2 HN2
                by_cases h1 : a < s
                · by_cases h2 : s < md
                  · go_wp2_with fail
                    go_meet
                    case rel => exact ⟨by rw [HQ2.out, decide_eq_true ⟨h1, h2⟩], rfl⟩
                  · go_wp2_with fail
                    go_meet
                    case rel => exact ⟨by rw [HQ2.out, decide_eq_false fun h => h2 h.2], rfl⟩
                · go_wp2_with fail
                  go_meet
                  case rel => exact ⟨by rw [HQ2.out, decide_eq_false fun h => h1 h.1], rfl⟩
              case rest =>
                obtain ⟨rfl, rfl⟩ := hcut
                go_upto_if 199 with fail
                go_cut [20] from 199 to 205 (fun sv wd => sv = .int .i64 s ∧ Hid (∃ C1, Sorted_ C1 (A1 ++ B1) ∧ SRow wd g (P ++ C1 ++ A2 ++ B2 ++ S) rest) ∧ Hid (w.grownBy wd (some g)))
                case first =>
                  cases q2 with
                  | true =>
                    have hq := HQ2.out
                    have HC := hide (HR1.out (of_decide_eq_true hq.symm).1 (of_decide_eq_true hq.symm).2 _ HS4.out)
                    clear HR1 HN1 HR2 HN2 hq
                    go_wp2_with fail
                    refine (HC.out).mono ?_; rintro e' w3 ⟨rfl, C1, hC1, hS3, hG3⟩
                    go_wp2_with fail
                    go_meet
                    case rel => exact ⟨rfl, hide ⟨C1, hC1, by simpa using hS3⟩, hide (HG4.out.trans hG3)⟩
                  | false =>
                    have hq := HQ2.out
                    have HC := hide (show ∃ C1, Sorted_ C1 (A1 ++ B1) ∧ SRow wy g (P ++ C1 ++ A2 ++ B2 ++ S) rest from ⟨_, HN1.out (of_decide_eq_false hq.symm), by simpa using HS4.out⟩)
                    clear HR1 HN1 HR2 HN2 hq
                    go_wp2_with fail
                    go_meet
                    case rel => exact ⟨rfl, HC, HG4⟩
                case rest =>
                  obtain ⟨rfl, HS5, HG5⟩ := hcut
                  clear HR1 HN1 HS4 HG4 HQ2
                  obtain ⟨C1, hC1, hS5⟩ := HS5.out
                  have HC1 := hide hC1
                  have HS6 := hide (show SRow _ g (P ++ (C1 ++ (A2 ++ B2)) ++ S) rest by simpa using hS5)
                  clear HS5 hC1
                  by_cases h1 : md < e
                  · by_cases h2 : e < b
                    · have HC := hide (HR2.out h1 h2 C1 HC1.out _ hS5)
                      clear HR2 HN2 hS5
                      go_wp2_with fail
                      refine (HC.out).mono ?_; rintro e' w3 ⟨rfl, C2, hC2, hS3, hG3⟩
                      go_wp2_with fail
                      go_end0
                      exact ⟨rfl, C1 ++ C2, HJ.out _ _ HC1.out hC2, by simpa using hS3, HG5.out.trans hG3⟩
                    · have HE := hide (HJ.out _ _ HC1.out (HN2.out fun h => h2 h.2))
                      clear HR2 HN2 hS5
                      go_wp2_with fail
                      go_end0
                      exact ⟨rfl, _, HE.out, HS6.out, HG5.out⟩
                  · have HE := hide (HJ.out _ _ HC1.out (HN2.out fun h => h1 h.1))
                    clear HR2 HN2 hS5
                    go_wp2_with fail
                    go_end0
                    exact ⟨rfl, _, HE.out, HS6.out, HG5.out⟩
end Go.Proofs.YtmmbbndoimleaaaDoor

/- Sorting members: stable and SortStableFunc. -/
namespace Go.Proofs.YtmmbbndoimleaaaDoor
open Go.RowKit

theorem insSort_nil (w : World) : Calls Tryd.prog 58 #[.slice none 0 0, .int .i64 0, .int .i64 0, .func (.func 38) #[] #[]] w fun e w' => e = .returned (.tuple #[]) ∧ w = w' := by
  go_enter Tryd.func58, Tryd.ntmps58
  go_wp2_with fail
  go_loopw [8, 9] (fun iv _ wr => iv = .int .i64 1 ∧ w = wr) (fun _ _ _ => 0)
  case atStart => exact ⟨rfl, rfl⟩
  case round =>
    obtain ⟨rfl, rfl⟩ := hrel
    go_wp2_with fail
    go_end0
    exact ⟨rfl, rfl⟩
set_option maxRecDepth 100000 in
theorem stable_nil (w : World) : Calls Tryd.prog 48 #[.slice none 0 0, .int .i64 0, .func (.func 38) #[] #[]] w fun e w' => e = .returned (.tuple #[]) ∧ w = w' := by
  go_enter Tryd.func48, Tryd.ntmps48
  go_wp2_with fail
  go_loopw [7, 8] (fun av bv wr => av = .int .i64 0 ∧ bv = .int .i64 20 ∧ w = wr) (fun _ _ _ => 0)
  case atStart => exact ⟨rfl, rfl, rfl⟩
  case round =>
    obtain ⟨rfl, rfl, rfl⟩ := hrel
    go_wp2_with fail
    refine (insSort_nil _).mono ?_; rintro e w1 ⟨rfl, rfl⟩
    go_wp2_with fail
    go_loopw [6, 7, 8, 9] (fun v _ _ _ wr => v = .int .i64 20 ∧ w = wr) (fun _ _ _ _ _ => 0)
    case atStart => exact ⟨rfl, rfl⟩
    case round =>
      obtain ⟨rfl, rfl⟩ := hrel
      go_wp2_with fail
      go_end0
      exact ⟨rfl, rfl⟩

/-- Blocks of k members each, sorted. -/
def FullB (k : Nat) (bs : List (List Mc)) : Prop := ∀ b ∈ bs, b.length = k ∧ Sr b
theorem FullB.nil {k : Nat} : FullB k [] := fun b h => by cases h
theorem FullB.snoc {k : Nat} {bs : List (List Mc)} {C : List Mc} (h : FullB k bs) (hl : C.length = k) (hs : Sr C) : FullB k (bs ++ [C]) := fun b hb => by
  rcases List.mem_append.1 hb with hb | hb
  · exact h b hb
  · simp at hb; subst hb; exact ⟨hl, hs⟩
theorem flat_snoc (bs : List (List Mc)) (C : List Mc) : (bs ++ [C]).flatten = bs.flatten ++ C := by simp
def Ph1 (w : World) (g : Nat) (L : List Mc) (rest : List Value) (a : Nat) (wr : World) : Prop :=
  ∃ bs, FullB 20 bs ∧ bs.flatten.length = a ∧ St bs.flatten (L.take a) ∧ SRow wr g (bs.flatten ++ L.drop a) rest ∧ w.grownBy wr (some g)
def Ph2 (w : World) (g : Nat) (L : List Mc) (rest : List Value) (k : Nat) (wr : World) : Prop :=
  ∃ bs r, FullB k bs ∧ r.length < k ∧ Sr r ∧ St (bs.flatten ++ r) L ∧ (bs.flatten ++ r).length = L.length ∧ SRow wr g (bs.flatten ++ r) rest ∧ w.grownBy wr (some g)
def Ph3 (w : World) (g : Nat) (L : List Mc) (rest : List Value) (k a : Nat) (wr : World) : Prop :=
  ∃ ds bs r, FullB (2 * k) ds ∧ FullB k bs ∧ r.length < k ∧ Sr r ∧ ds.flatten.length = a ∧ St (ds.flatten ++ bs.flatten ++ r) L ∧ (ds.flatten ++ bs.flatten ++ r).length = L.length ∧ SRow wr g (ds.flatten ++ bs.flatten ++ r) rest ∧ w.grownBy wr (some g)
theorem ph3_start {w : World} {g : Nat} {L : List Mc} {rest : List Value} {k : Nat} {wr : World} (h : Ph2 w g L rest k wr) : Ph3 w g L rest k 0 wr := by
  obtain ⟨bs, r, h1, h2, h3, h4, h5, h6, h7⟩ := h
  exact ⟨[], bs, r, FullB.nil, h1, h2, h3, rfl, by simpa using h4, by simpa using h5, by simpa using h6, h7⟩
theorem ph2_end {w : World} {g : Nat} {L : List Mc} {rest : List Value} {k : Nat} {wr : World} (h : Ph2 w g L rest k wr) (hk : L.length ≤ k) : ∃ C, Sorted_ C L ∧ SRow wr g C rest ∧ w.grownBy wr (some g) := by
  obtain ⟨bs, r, h1, h2, h3, h4, h5, h6, h7⟩ := h
  refine ⟨_, ⟨?_, h4, h5⟩, h6, h7⟩
  cases bs with
  | nil => simpa using h3
  | cons X bs =>
    have hX := h1 X (List.mem_cons_self ..)
    simp only [List.flatten_cons, List.length_append] at h5
    have hr : r = [] := List.eq_nil_of_length_eq_zero (by omega)
    have hb : bs.flatten = [] := List.eq_nil_of_length_eq_zero (by omega)
    subst hr
    simp only [List.flatten_cons, hb, List.append_nil]
    exact hX.2
/-- The next pair of blocks. -/
theorem ph3_pair {w : World} {g : Nat} {L : List Mc} {rest : List Value} {k a : Nat} {wr : World} (h : Ph3 w g L rest k a wr) (hb : a + 2 * k ≤ L.length) :
    ∃ P A B S, SRow wr g (P ++ A ++ B ++ S) rest ∧ P.length = a ∧ A.length = k ∧ B.length = k ∧ (P ++ A ++ B ++ S).length = L.length ∧ Sr A ∧ Sr B ∧ w.grownBy wr (some g) ∧
      ∀ C w', Sorted_ C (A ++ B) → SRow w' g (P ++ C ++ S) rest → wr.grownBy w' (some g) → Ph3 w g L rest k (a + 2 * k) w' := by
  obtain ⟨ds, bs, r, h0, h1, h2, h3, ha, h4, h5, h6, h7⟩ := h
  match bs, h1, h4, h5, h6 with
  | [], _, _, h5, _ => simp only [List.flatten_nil, List.append_nil, List.length_append] at h5; omega
  | [X], h1, _, h5, _ => have := (h1 X (List.mem_cons_self ..)).1; simp only [List.flatten_cons, List.flatten_nil, List.append_nil, List.length_append] at h5; omega
  | X :: Y :: bs, h1, h4, h5, h6 =>
    have hX := h1 X (List.mem_cons_self ..)
    have hY := h1 Y (List.mem_cons_of_mem _ (List.mem_cons_self ..))
    have e : ds.flatten ++ (X :: Y :: bs).flatten ++ r = ds.flatten ++ X ++ Y ++ (bs.flatten ++ r) := by simp
    rw [e] at h4 h5 h6
    refine ⟨ds.flatten, X, Y, bs.flatten ++ r, h6, ha, hX.1, hY.1, h5, hX.2, hY.2, h7, fun C w' hC hS hG => ?_⟩
    have e2 : (ds ++ [C]).flatten ++ bs.flatten ++ r = ds.flatten ++ C ++ (bs.flatten ++ r) := by simp
    have hCl := hC.2.2
    rw [List.length_append] at hCl
    refine ⟨ds ++ [C], bs, r, h0.snoc (by omega) hC.1, fun b hb => h1 b (List.mem_cons_of_mem _ (List.mem_cons_of_mem _ hb)), h2, h3, by rw [flat_snoc, List.length_append]; omega, ?_, ?_, by rw [e2]; exact hS, h7.trans hG⟩
    · rw [e2]
      refine StaK.trans ?_ h4
      rw [show ds.flatten ++ X ++ Y ++ (bs.flatten ++ r) = ds.flatten ++ (X ++ Y) ++ (bs.flatten ++ r) by simp]
      exact ((StaK.refl _).append hC.2.1).append (StaK.refl _)
    · rw [e2]
      simp only [List.length_append] at h5 ⊢
      omega
/-- What is left behind the pairs. -/
theorem ph3_rest {w : World} {g : Nat} {L : List Mc} {rest : List Value} {k a : Nat} {wr : World} (h : Ph3 w g L rest k a wr) (hb : ¬ a + 2 * k ≤ L.length) :
    (a + k < L.length → ∃ P A B, SRow wr g (P ++ A ++ B ++ []) rest ∧ P.length = a ∧ A.length = k ∧ 0 < B.length ∧ (P ++ A ++ B ++ []).length = L.length ∧ Sr A ∧ Sr B ∧ w.grownBy wr (some g) ∧
      ∀ C w', Sorted_ C (A ++ B) → SRow w' g (P ++ C ++ []) rest → wr.grownBy w' (some g) → Ph2 w g L rest (2 * k) w') ∧ (¬ a + k < L.length → Ph2 w g L rest (2 * k) wr) := by
  obtain ⟨ds, bs, r, h0, h1, h2, h3, ha, h4, h5, h6, h7⟩ := h
  match bs, h1, h4, h5, h6 with
  | [], _, h4, h5, h6 =>
    have h5' := h5
    simp only [List.flatten_nil, List.append_nil, List.length_append] at h5'
    refine ⟨fun h => by omega, fun _ => ⟨ds, r, h0, by omega, h3, by simpa using h4, by simpa using h5, by simpa using h6, h7⟩⟩
  | [X], h1, h4, h5, h6 =>
    have hX := h1 X (List.mem_cons_self ..)
    have e : ds.flatten ++ [X].flatten ++ r = ds.flatten ++ X ++ r ++ [] := by simp
    rw [e] at h4 h5 h6
    have h5' := h5
    simp only [List.length_append, List.length_nil] at h5'
    refine ⟨fun h => ⟨ds.flatten, X, r, h6, ha, hX.1, by omega, h5, hX.2, h3, h7, fun C w' hC hS hG => ?_⟩, fun h => ?_⟩
    · have hCl := hC.2.2
      rw [List.length_append] at hCl
      refine ⟨ds, C, h0, by omega, hC.1, ?_, by simp only [List.length_append]; omega, by simpa using hS, h7.trans hG⟩
      refine StaK.trans ?_ h4
      rw [show ds.flatten ++ X ++ r ++ [] = ds.flatten ++ (X ++ r) by simp]
      exact (StaK.refl _).append hC.2.1
    · have hr : r = [] := List.eq_nil_of_length_eq_zero (by omega)
      subst hr
      exact ⟨ds, X, h0, by omega, hX.2, by simpa using h4, by simpa using h5, by simpa using h6, h7⟩
  | X :: Y :: bs, h1, _, h5, _ =>
    have hX := (h1 X (List.mem_cons_self ..)).1
    have hY := (h1 Y (List.mem_cons_of_mem _ (List.mem_cons_self ..))).1
    simp only [List.flatten_cons, List.length_append] at h5; omega
/-- The blocks of 20. -/
theorem ph1_next {w : World} {g : Nat} {L : List Mc} {rest : List Value} {a b : Nat} {wr : World} (h : Ph1 w g L rest a wr) (hb : b ≤ L.length) (hab : a ≤ b) :
    ∃ P M S, SRow wr g (P ++ M ++ S) rest ∧ a = P.length ∧ b = P.length + M.length ∧ L.length = (P ++ M ++ S).length ∧
      (b = a + 20 → ∀ C w', Sorted_ C M → SRow w' g (P ++ C ++ S) rest → wr.grownBy w' (some g) → Ph1 w g L rest b w') ∧
      (b = L.length → b < a + 20 → ∀ C w', Sorted_ C M → SRow w' g (P ++ C ++ S) rest → wr.grownBy w' (some g) → Ph2 w g L rest 20 w') := by
  obtain ⟨bs, h1, h2, h3, h4, h5⟩ := h
  have e : L.drop a = (L.drop a).take (b - a) ++ L.drop b := by
    conv => lhs; rw [← List.take_append_drop (b - a) (L.drop a)]
    rw [List.drop_drop, show a + (b - a) = b by omega]
  have hl : ((L.drop a).take (b - a)).length = b - a := by rw [List.length_take, List.length_drop]; omega
  have et : L.take b = L.take a ++ (L.drop a).take (b - a) := by
    rw [← List.take_append_drop a (L.take b), List.take_take, Nat.min_eq_left hab, List.drop_take]
  refine ⟨bs.flatten, (L.drop a).take (b - a), L.drop b, by rw [List.append_assoc, ← e]; exact h4, h2.symm, by omega, by rw [List.append_assoc, ← e, List.length_append, h2, List.length_drop]; omega, fun hb2 C w' hC hS hG => ?_, fun hb2 hb3 C w' hC hS hG => ?_⟩
  · have hCl := hC.2.2
    refine ⟨bs ++ [C], h1.snoc (by omega) hC.1, by rw [flat_snoc, List.length_append]; omega, ?_, by rw [flat_snoc]; exact hS, h5.trans hG⟩
    rw [flat_snoc, et]
    exact h3.append hC.2.1
  · have hCl := hC.2.2
    have hd : L.drop b = [] := by rw [hb2]; simp
    rw [hd, List.append_nil] at hS
    refine ⟨bs, C, h1, by omega, hC.1, ?_, by rw [List.length_append]; omega, hS, h5.trans hG⟩
    have : St (bs.flatten ++ C) (L.take b) := by rw [et]; exact h3.append hC.2.1
    rwa [hb2, List.take_length] at this

set_option maxRecDepth 100000 in
set_option maxHeartbeats 4000000 in
theorem stable_run (g cap N : Nat) (L : List Mc) (rest : List Value) (w : World) (h : SRow w g L rest) (hN : L.length = N) (hl : N ≤ 1000000) :
    Calls Tryd.prog 48 #[.slice (some ⟨g, 0, none⟩) N cap, .int .i64 N, .func (.func 38) #[] #[]] w fun e w' => e = .returned (.tuple #[]) ∧ ∃ C, Sorted_ C L ∧ SRow w' g C rest ∧ w.grownBy w' (some g) := by
  have H1 : Hid (Ph1 w g L rest 0 w) := hide ⟨[], FullB.nil, rfl, StaK.refl _, by simpa using h, grown_refl _ _⟩
  have HN := Lib.hid hN
  have HIN := hide fun (a b : Nat) P M S W (h1 : SRow W g (P ++ M ++ S) rest) (h2 : a = P.length) (h3 : b = P.length + M.length) (h4 : L.length = (P ++ M ++ S).length) => insSort_run g cap N a b P M S rest W h1 h2 h3 (by rw [← hN]; exact h4) (by omega)
  have HSY := hide fun (a m b : Nat) P A B S W (h1 : SRow W g (P ++ A ++ B ++ S) rest) (h2 : 0 < A.length) (h3 : 0 < B.length) (h4 : P.length = a) (h5 : a + A.length = m) (h6 : m + B.length = b) (h7 : (P ++ A ++ B ++ S).length = L.length) (h8 : Sr A) (h9 : Sr B) => symMerge_run g cap N rest (by omega) (A.length + B.length) P A B S a m b W (Nat.le_refl _) h1 h2 h3 h4 h5 h6 (by rw [h7, hN]) h8 h9
  clear h hN
  go_enter Tryd.func48, Tryd.ntmps48
  go_wp2_with fail
  go_loopw [7, 8] (fun av bv wr => ∃ a : Nat, av = .int .i64 a ∧ bv = .int .i64 ((a + 20 : Nat) : Int) ∧ a ≤ N ∧ Hid (Ph1 w g L rest a wr)) (fun av _ _ => N - (intOf av).toNat)
  case atStart => exact ⟨0, rfl, rfl, Nat.zero_le _, H1⟩
  case round =>
    clear H1
    obtain ⟨a, rfl, rfl, ha, hP⟩ := hrel
    by_cases hb : a + 20 ≤ N
    · have g1 : decide (((a + 20 : Nat) : Int) ≤ (N : Int)) = true := by simp; omega
      obtain ⟨P, M, S, q1, q2, q3, q4, q5, _⟩ := ph1_next (b := a + 20) hP.out (by rw [HN.out]; exact hb) (by omega)
      have HC := hide (HIN.out a (a + 20) P M S wr q1 q2 q3 q4)
      have HQ := hide (q5 rfl)
      clear q1 q2 q3 q4 q5 hP
      go_wp2_with fail
      refine HC.out.mono ?_; rintro e w1 ⟨rfl, C, hC, hS, hG⟩
      have HE := hide (HQ.out C w1 hC hS hG)
      clear hC hS hG HC HQ
      go_wp2_with fail
      go_roundw
      case rel => exact ⟨a + 20, rfl, by go_num, hb, HE⟩
      case measure => simp [intOf]; omega
    · have g1 : decide (((a + 20 : Nat) : Int) ≤ (N : Int)) = false := by simp; omega
      obtain ⟨P, M, S, q1, q2, q3, q4, _, q5⟩ := ph1_next (b := N) hP.out (by rw [HN.out]; exact Nat.le_refl _) ha
      have HC := hide (HIN.out a N P M S wr q1 q2 q3 q4)
      have HQ := hide (q5 HN.out.symm (by omega))
      clear q1 q2 q3 q4 q5 hP
      go_wp2_with fail
      refine HC.out.mono ?_; rintro e w1 ⟨rfl, C, hC, hS, hG⟩
      have HE := hide (HQ.out C w1 hC hS hG)
      clear hC hS hG HC HQ HIN g1 hb ha
      go_wp2_with fail
      go_loopw [6, 7, 8, 9] (fun v _ _ _ wr => ∃ k : Nat, v = .int .i64 k ∧ 20 ≤ k ∧ k ≤ 2 * N + 20 ∧ Hid (Ph2 w g L rest k wr)) (fun v _ _ _ _ => N - (intOf v).toNat)
      case atStart => exact ⟨20, rfl, Nat.le_refl _, by omega, HE⟩
      case round =>
        clear HE
        obtain ⟨k, rfl, hk1, hk2, hP⟩ := hrel
        by_cases hk : k < N
        · have H3 := hide (ph3_start hP.out)
          clear hP
          go_wp2_with fail
          go_loopw [7, 8] (fun av bv wr => ∃ a : Nat, av = .int .i64 a ∧ bv = .int .i64 ((a + 2 * k : Nat) : Int) ∧ a ≤ N ∧ Hid (Ph3 w g L rest k a wr)) (fun av _ _ => N - (intOf av).toNat)
          case atStart => exact ⟨0, rfl, by go_num, Nat.zero_le _, H3⟩
          case round =>
            clear H3
            obtain ⟨a, rfl, rfl, ha, hP⟩ := hrel
            by_cases hb : a + 2 * k ≤ N
            · have g1 : decide (((a + 2 * k : Nat) : Int) ≤ (N : Int)) = true := by simp; omega
              obtain ⟨P, A, B, S, q1, q2, q3, q4, q5, q6, q7, _, q9⟩ := ph3_pair hP.out (by rw [HN.out]; exact hb)
              have HC := hide (HSY.out a (a + k) (a + 2 * k) P A B S wr q1 (by omega) (by omega) q2 (by omega) (by omega) q5 q6 q7)
              have HQ := hide q9
              clear q1 q2 q3 q4 q5 q6 q7 q9 hP
              go_wp2_with fail
              refine HC.out.mono ?_; rintro e w2 ⟨rfl, C, hC, hS, hG⟩
              have HE := hide (HQ.out C w2 hC hS hG)
              clear hC hS hG HC HQ
              go_wp2_with fail
              go_roundw
              case rel => exact ⟨a + 2 * k, rfl, by go_num, hb, HE⟩
              case measure => simp [intOf]; omega
            · have g1 : decide (((a + 2 * k : Nat) : Int) ≤ (N : Int)) = false := by simp; omega
              obtain ⟨q1, q2⟩ := ph3_rest hP.out (by rw [HN.out]; exact hb)
              rw [HN.out] at q1 q2
              by_cases hm : a + k < N
              · obtain ⟨P, A, B, q1, q2, q3, q4, q5, q6, q7, _, q9⟩ := q1 hm
                have HC := hide (HSY.out a (a + k) N P A B [] wr q1 (by omega) (by omega) q2 (by omega) (by have := HN.out; simp at q5; omega) (by rw [q5, HN.out]) q6 q7)
                have HQ := hide q9
                clear q1 q2 q3 q4 q5 q6 q7 q9 hP
                go_wp2_with fail
                refine HC.out.mono ?_; rintro e w2 ⟨rfl, C, hC, hS, hG⟩
                have HE := hide (HQ.out C w2 hC hS hG)
                clear hC hS hG HC HQ
                go_wp2_with fail
                go_roundw
                case rel => exact ⟨2 * k, by go_num, by omega, by omega, HE⟩
                case measure => simp [intOf]; omega
              · have HE := hide (q2 hm)
                clear q1 q2 hP
                go_wp2_with fail
                go_roundw
                case rel => exact ⟨2 * k, by go_num, by omega, by omega, HE⟩
                case measure => simp [intOf]; omega
        · have HE := hide (ph2_end hP.out (by rw [HN.out]; omega))
          clear hP
          go_wp2_with fail
          go_end0
          exact ⟨rfl, HE.out⟩

theorem sortStable_nil (w : World) : Calls Tryd.prog 37 #[.slice none 0 0, .func (.func 38) #[] #[]] w fun e w' => e = .returned (.tuple #[]) ∧ w = w' := by
  go_enter Tryd.func37, Tryd.ntmps37
  go_wp2_with fail
  refine (stable_nil _).mono ?_; rintro e w1 ⟨rfl, rfl⟩
  go_wp2_with fail
  go_end0
  exact ⟨rfl, rfl⟩
theorem sortStable_run (g cap N : Nat) (L : List Mc) (rest : List Value) (w : World) (h : SRow w g L rest) (hN : L.length = N) (hl : N ≤ 1000000) :
    Calls Tryd.prog 37 #[.slice (some ⟨g, 0, none⟩) N cap, .func (.func 38) #[] #[]] w fun e w' => e = .returned (.tuple #[]) ∧ ∃ C, Sorted_ C L ∧ SRow w' g C rest ∧ w.grownBy w' (some g) := by
  have HC := hide (stable_run g cap N L rest w h hN hl)
  clear h hN
  go_enter Tryd.func37, Tryd.ntmps37
  go_wp2_with fail
  refine HC.out.mono ?_; rintro e w1 ⟨rfl, hE⟩
  have HE := hide hE
  clear hE
  go_wp2_with fail
  go_end0
  exact ⟨rfl, HE.out⟩
end Go.Proofs.YtmmbbndoimleaaaDoor

/- Data made afresh: it stands as long as the blocks behind a bound do. -/
namespace Go.Proofs.YtmmbbndoimleaaaDoor
open Go.RowKit

/-- Data that stands in every world which keeps the blocks from lo on, but for one. -/
def PZ (lo : Nat) (ex : Option Nat) (w : World) (m : Nat) : Reads := fun d a c a' c' =>
  ∀ W, w.heap.size ≤ W.heap.size → (∀ k, lo ≤ k → k < w.heap.size → some k ≠ ex → W.heap[k]? = w.heap[k]?) → Parts W W.heap.size m d a c a' c'
theorem PZ.turn {lo lo' : Nat} {ex ex' : Option Nat} {w w' : World} {m : Nat} {d : Dt} {a c a' c'} (h : PZ lo ex w m d a c a' c') (hs : w.heap.size ≤ w'.heap.size)
    (hk : ∀ k, lo ≤ k → k < w.heap.size → some k ≠ ex → w'.heap[k]? = w.heap[k]? ∧ lo' ≤ k ∧ some k ≠ ex') : PZ lo' ex' w' m d a c a' c' := fun W h1 h2 =>
  h W (Nat.le_trans hs h1) fun k k1 k2 k3 => (h2 k (hk k k1 k2 k3).2.1 (Nat.lt_of_lt_of_le k2 hs) (hk k k1 k2 k3).2.2).trans (hk k k1 k2 k3).1
theorem PZ.parts {lo : Nat} {ex : Option Nat} {w : World} {m : Nat} {d : Dt} {a c a' c'} (h : PZ lo ex w m d a c a' c') : Parts w w.heap.size m d a c a' c' := h w (Nat.le_refl _) fun _ _ _ _ => rfl
/-- A slice of data made afresh. -/
def DZ (lo : Nat) (w : World) (m : Nat) (u : Value) (l : List Dt) : Prop :=
  ∃ A c, u = .slice A l.length c ∧ l.length ≤ c ∧ c ≤ maxLen ∧ ∀ W, w.heap.size ≤ W.heap.size → (∀ k, lo ≤ k → k < w.heap.size → W.heap[k]? = w.heap[k]?) → DatsAt (Parts W W.heap.size m) W W.heap.size A l
def MZ (lo : Nat) (w : World) (m : Nat) (u : Value) (l : List (ByteArray × Dt)) : Prop :=
  ∃ A c, u = .slice A l.length c ∧ l.length ≤ c ∧ c ≤ maxLen ∧ ∀ W, w.heap.size ≤ W.heap.size → (∀ k, lo ≤ k → k < w.heap.size → W.heap[k]? = w.heap[k]?) → MemsAt (Parts W W.heap.size m) W W.heap.size A l
theorem DZ.nil (lo : Nat) (w : World) (m : Nat) : DZ lo w m (.slice none 0 0) [] := ⟨none, 0, rfl, Nat.le_refl _, Nat.zero_le _, fun W _ _ i x h => by simp at h⟩
theorem MZ.nil (lo : Nat) (w : World) (m : Nat) : MZ lo w m (.slice none 0 0) [] := ⟨none, 0, rfl, Nat.le_refl _, Nat.zero_le _, fun W _ _ i x h => by simp at h⟩
theorem DZ.turn {lo lo' : Nat} {w w' : World} {m : Nat} {u : Value} {l : List Dt} (h : DZ lo w m u l) (hl : lo' ≤ lo) (hs : w.heap.size ≤ w'.heap.size) (hk : ∀ k, lo ≤ k → k < w.heap.size → w'.heap[k]? = w.heap[k]?) : DZ lo' w' m u l := by
  obtain ⟨A, c, e, h1, h2, h3⟩ := h
  exact ⟨A, c, e, h1, h2, fun W g1 g2 => h3 W (Nat.le_trans hs g1) fun k k1 k2 => (g2 k (Nat.le_trans hl k1) (Nat.lt_of_lt_of_le k2 hs)).trans (hk k k1 k2)⟩
theorem MZ.turn {lo lo' : Nat} {w w' : World} {m : Nat} {u : Value} {l : List (ByteArray × Dt)} (h : MZ lo w m u l) (hl : lo' ≤ lo) (hs : w.heap.size ≤ w'.heap.size) (hk : ∀ k, lo ≤ k → k < w.heap.size → w'.heap[k]? = w.heap[k]?) : MZ lo' w' m u l := by
  obtain ⟨A, c, e, h1, h2, h3⟩ := h
  exact ⟨A, c, e, h1, h2, fun W g1 g2 => h3 W (Nat.le_trans hs g1) fun k k1 k2 => (g2 k (Nat.le_trans hl k1) (Nat.lt_of_lt_of_le k2 hs)).trans (hk k k1 k2)⟩
/-- Data from its two slices. -/
theorem pz_mk {lo : Nat} {w : World} {m : Nat} {k n : Int} {s : ByteArray} {u v : Value} {l : List Dt} {ms : List (ByteArray × Dt)} (h : DZ lo w m u l) (h' : MZ lo w m v ms) :
    ∃ a c a' c', u = .slice a l.length c ∧ v = .slice a' ms.length c' ∧ PZ lo none w (m + 1) (mkD k n s l ms) a c a' c' := by
  obtain ⟨A, c, e, h1, h2, h3⟩ := h
  obtain ⟨A', c', e', h1', h2', h3'⟩ := h'
  refine ⟨A, c, A', c', e, e', fun W g1 g2 => ⟨⟨h1, h2, by rw [mD_mk]; exact h1', h2'⟩, ?_, ?_⟩⟩
  · exact h3 W g1 fun k k1 k2 => g2 k k1 k2 (by simp)
  · rw [mD_mk]; exact h3' W g1 fun k k1 k2 => g2 k k1 k2 (by simp)
theorem own_lo {w : World} {base : Nat} {e : TypeId} {size n c : Nat} {A : Option Addr} {xs : List Value} (h : w.ownsRow base e size (.slice A n c) n xs) (hn : 0 < n) : ∃ g, A = some ⟨g, 0, none⟩ ∧ base ≤ g ∧ g < w.heap.size := by
  obtain ⟨g, cap, e, h1, h2⟩ := h.form hn
  injection e with e1
  exact ⟨g, e1, h1, h2⟩
theorem OwnD.dz {lo base : Nat} {w : World} {m : Nat} {u : Value} {l : List Dt} (h : OwnD (PZ base u.ownBlock w m) w base u l) (hl : lo ≤ base) : DZ lo w m u l := by
  obtain ⟨A, c, rfl, h1, h2, _⟩ := h.dats
  refine ⟨A, c, rfl, h1, h2, fun W g1 g2 => ?_⟩
  obtain ⟨xs, ho, hf⟩ := h
  rcases Nat.eq_zero_or_pos l.length with h0 | h0
  · rw [List.eq_nil_of_length_eq_zero h0]; intro i x hx; simp at hx
  · obtain ⟨g, rfl, hg, hg2⟩ := own_lo ho h0
    refine DatsAt.of_flat (hf.turn fun x a c a' c' hp => hp W g1 fun k k1 k2 _ => g2 k (by omega) k2) (by show g < _; omega) fun j v hv => ?_
    have hc := ho.cells (g := g) rfl j v hv
    rw [add_head] at hc ⊢
    exact (World.cell?_of_block (g2 g (by omega) hg2)).trans hc
/-- The members' row as the sort sees it. -/
theorem mcs_of_flat {R : Reads} : ∀ {xs : List Value} {l : List (ByteArray × Dt)}, FlatM R xs l → ∃ L : List Mc, xs = L.flatMap mcs ∧ L.map (fun e => (e.1, e.2.1)) = l ∧ ∀ e ∈ L, R e.2.1 e.2.2.1 e.2.2.2.1 e.2.2.2.2.1 e.2.2.2.2.2
  | _, [], h => by have h : _ = [] := h; exact ⟨[], by rw [h]; rfl, rfl, by simp⟩
  | _, d :: l, ⟨a, c, a', c', ys, e, hR, h⟩ => by
    obtain ⟨L, e1, e2, e3⟩ := mcs_of_flat h
    refine ⟨(d.1, d.2, a, c, a', c') :: L, by rw [e, e1]; rfl, by rw [List.map_cons, e2], fun x hx => ?_⟩
    rcases List.mem_cons.1 hx with rfl | hx
    · exact hR
    · exact e3 x hx
theorem flat_of_mcs {R : Reads} : ∀ {L : List Mc}, (∀ e ∈ L, R e.2.1 e.2.2.1 e.2.2.2.1 e.2.2.2.2.1 e.2.2.2.2.2) → FlatM R (L.flatMap mcs) (L.map fun e => (e.1, e.2.1))
  | [], _ => rfl
  | x :: L, h => ⟨x.2.2.1, x.2.2.2.1, x.2.2.2.2.1, x.2.2.2.2.2, L.flatMap mcs, rfl, h x (List.mem_cons_self ..), flat_of_mcs fun e he => h e (List.mem_cons_of_mem _ he)⟩
/-- Sorted members by labels. -/
theorem sorted_members {C L : List Mc} (h : Sorted_ C L) : C.map (fun e => (e.1, e.2.1)) = sortK Prod.fst (L.map fun e => (e.1, e.2.1)) :=
  eq_sortK (k := Prod.fst) (SrtK.map (k := lab) (k' := Prod.fst) (fun e : Mc => (e.1, e.2.1)) (fun _ => rfl) h.1) (StaK.map (k := lab) (k' := Prod.fst) (fun e : Mc => (e.1, e.2.1)) (fun _ => rfl) h.2.1)
end Go.Proofs.YtmmbbndoimleaaaDoor

/- Compare and Equal. -/
namespace Go.Proofs.YtmmbbndoimleaaaDoor
open Go.RowKit

def compareD (m : Nat) (d e : Dt) : Int := if checkD d = 0 then (if checkD e = 0 then compF m d e else 0) else 0
def equalD (m : Nat) (d e : Dt) : Bool := (checkD d == 0) && ((checkD e == 0) && (compF m d e == 0))

end Go.Proofs.YtmmbbndoimleaaaDoor

/- Results that lie in a block. -/
namespace Go.Proofs.YtmmbbndoimleaaaDoor
open Go.RowKit

def set5 (w : World) (g : Nat) (a b c d e : Value) : World := ((((w.setCell ⟨g, 0, none⟩ a).setCell ⟨g, 1, none⟩ b).setCell ⟨g, 2, none⟩ c).setCell ⟨g, 3, none⟩ d).setCell ⟨g, 4, none⟩ e
theorem row_set5 {w : World} {g : Nat} {t : TypeId} {x0 x1 x2 x3 x4 : Value} (h : Row w g t [x0, x1, x2, x3, x4]) (a b c d e : Value) : Row (set5 w g a b c d e) g t [a, b, c, d, e] :=
  ((((h.set_ 0 a).set_ 1 b).set_ 2 c).set_ 3 d).set_ 4 e
theorem below_set5 {B : Nat} {w0 w : World} (h : Below B w0 w) {g : Nat} (hg : B ≤ g) (a b c d e : Value) : Below B w0 (set5 w g a b c d e) :=
  ((((h.setCell (p := ⟨g, 0, none⟩) hg a).setCell (p := ⟨g, 1, none⟩) hg b).setCell (p := ⟨g, 2, none⟩) hg c).setCell (p := ⟨g, 3, none⟩) hg d).setCell (p := ⟨g, 4, none⟩) hg e
theorem row_far5 {w : World} {g g' : Nat} {t : TypeId} {vs : List Value} (h : Row w g t vs) (hne : g ≠ g') (a b c d e : Value) : Row (set5 w g' a b c d e) g t vs :=
  ((((h.far (p := ⟨g', 0, none⟩) hne a).far (p := ⟨g', 1, none⟩) hne b).far (p := ⟨g', 2, none⟩) hne c).far (p := ⟨g', 3, none⟩) hne d).far (p := ⟨g', 4, none⟩) hne e
theorem infoSizeD : (Tryd.prog.info? 27).map (·.size) = some 5 := by kernel_rfl
theorem row_heap {w : World} {g : Nat} {t : TypeId} {vs : List Value} (h : Row w g t vs) : ∃ fr, w.heap[g]? = some (.cells vs.toArray t fr) := ⟨_, h⟩
/-- A result that lies in a block, and one that does not. -/
theorem results_dat2 {fn : Func} {p u : Tmp} (h : fn.results = #[.cell p 27, .tmp u]) (tmps : Array Value) (w : World) (g : Nat) (a b c d e : Value)
    (hp : tmps.getD p undef = .pointer (some ⟨g, 0, none⟩)) (hR : Row w g 27 [a, b, c, d, e]) : (results fn tmps).run Tryd.prog w = .ok (.tuple #[.agg #[a, b, c, d, e], tmps.getD u undef]) w := by
  obtain ⟨fr, hr⟩ := row_heap hR
  have hl := run_loadVar_row (P := Tryd.prog) w g 27 27 _ fr _ hr Tryd.underlying27 rfl infoSizeD
  rw [results_cell_tmp h, hp]
  simp only [asAddr, Sem.run_pure, Result.andThen_ok, hl]
theorem results_dat {fn : Func} {p : Tmp} (h : fn.results = #[.cell p 27]) (tmps : Array Value) (w : World) (g : Nat) (a b c d e : Value)
    (hp : tmps.getD p undef = .pointer (some ⟨g, 0, none⟩)) (hR : Row w g 27 [a, b, c, d, e]) : (results fn tmps).run Tryd.prog w = .ok (.agg #[a, b, c, d, e]) w := by
  obtain ⟨fr, hr⟩ := row_heap hR
  exact results_cell_row h tmps w g 27 _ fr _ hp hr Tryd.underlying27 rfl infoSizeD
end Go.Proofs.YtmmbbndoimleaaaDoor

/- step. -/
namespace Go.Proofs.YtmmbbndoimleaaaDoor
open Go.RowKit

def zeroD : Dt := mkD 0 0 ByteArray.empty [] []
theorem zero_parts (w : World) (B m : Nat) : Parts w B (m + 1) zeroD none 0 none 0 :=
  ⟨⟨Nat.le_refl _, Nat.zero_le _, Nat.le_refl _, Nat.zero_le _⟩, fun i x h => by simp [zeroD] at h, fun i x h => by simp [zeroD] at h⟩
def findM (lab : ByteArray) : List (ByteArray × Dt) → Option Dt
  | [] => none
  | x :: l => if x.1.toList == lab.toList then some x.2 else findM lab l
/-- The part to which a step leads. -/
def stepD (d : Dt) (lab : ByteArray) (ix : Int) : Option Dt :=
  if lab.toList = [] then (if 0 ≤ ix ∧ ix < (iD d).length then (iD d)[ix.toNat]? else none) else findM lab (mD d)
/-- What a function hands back that may find data. -/
def FoundPost (B : Nat) (w : World) (m : Nat) (o : Option Dt) (e : Ending) (w' : World) : Prop :=
  ∃ X a q a' q', e = .returned (.tuple #[datV X a q a' q', .bool o.isSome]) ∧ X = o.getD zeroD ∧ Parts w' B m X a q a' q' ∧ Below w.heap.size w w'

end Go.Proofs.YtmmbbndoimleaaaDoor

/- clean: the function's own blocks, and rows that grow by data made afresh. -/
namespace Go.Proofs.YtmmbbndoimleaaaDoor
open Go.RowKit

theorem infoM : (Tryd.prog.info? 50).map (fun i => (i.zero, i.size, i.bytes)) = some (some (.agg #[.string ⟨#[]⟩, .int .i64 0, .int .i64 0, .string ⟨#[]⟩, .slice none 0 0, .slice none 0 0]), 6, 96) := by kernel_rfl

theorem memCs_one {s : ByteArray} {d : Dt} {a c a' c'} : ∀ u ∈ (Value.string s :: datCs d a c a' c'), u.oneCell' = true := fun u hu => by
  rcases List.mem_cons.1 hu with rfl | hu
  · rfl
  · exact datCs_one u hu
/-- The three boxes of a call of clean. -/
def CSt (w : World) (g g4 g5 b0 : Nat) (D2 D4 D5 : List Value) (wr : World) : Prop :=
  (w.heap.size = g ∧ g4 = g + 1 ∧ g5 = g + 2 ∧ b0 = g + 3) ∧ b0 ≤ wr.heap.size ∧ Below w.heap.size w wr ∧ Row wr g 27 D2 ∧ Row wr g4 27 D4 ∧ Row wr g5 27 D5
section
variable {w wr W : World} {g g4 g5 b0 : Nat} {D2 D4 D5 : List Value}
theorem CSt.below (h : CSt w g g4 g5 b0 D2 D4 D5 wr) (hb : Below wr.heap.size wr W) : CSt w g g4 g5 b0 D2 D4 D5 W := by
  obtain ⟨h0, h1, h2, h3, h4, h5⟩ := h
  exact ⟨h0, Nat.le_trans h1 hb.size, h2.trans (hb.mono h2.size), h3.below hb, h4.below hb, h5.below hb⟩
theorem CSt.grown (h : CSt w g g4 g5 b0 D2 D4 D5 wr) {row : Option Nat} (hg : wr.grownBy W row) (hr : ∀ k, row = some k → b0 ≤ k) : CSt w g g4 g5 b0 D2 D4 D5 W := by
  obtain ⟨h0, h1, h2, h3, h4, h5⟩ := h
  exact ⟨h0, Nat.le_trans h1 hg.size, h2.grown hg h2.size (fun k e => by have := hr k e; omega), h3.grown hg (fun e => by have := hr g e.symm; omega), h4.grown hg (fun e => by have := hr g4 e.symm; omega), h5.grown hg (fun e => by have := hr g5 e.symm; omega)⟩
theorem CSt.set (h : CSt w g g4 g5 b0 D2 D4 D5 wr) (i : Nat) (u : Value) : CSt w g g4 g5 b0 D2 D4 (D5.set i u) (wr.setCell ⟨g5, i, none⟩ u) := by
  obtain ⟨h0, h1, h2, h3, h4, h5⟩ := h
  have hs : wr.heap.size ≤ (wr.setCell ⟨g5, i, none⟩ u).heap.size := (Below.setCell (B := 0) (Below.refl 0 wr) (p := ⟨g5, i, none⟩) (Nat.zero_le _) u).size
  exact ⟨h0, Nat.le_trans h1 hs, h2.setCell (p := ⟨g5, i, none⟩) (by show _ ≤ g5; omega) u, h3.far (by show g ≠ g5; omega) u, h4.far (by show g4 ≠ g5; omega) u, h5.set_ i u⟩
theorem csize_set (wr : World) (p : Addr) (u : Value) : (wr.setCell p u).heap.size = wr.heap.size := by
  show (Array.modify _ _ _).size = _; rw [Array.size_modify]
end
/-- The end of clean. -/
theorem clean_fin {w wr : World} {g g4 g5 b0 m : Nat} {D2 D4 : List Value} {k n : Int} {s : ByteArray} {u v : Value} {l : List Dt} {ms : List (ByteArray × Dt)} {r : Dt}
    (h : CSt w g g4 g5 b0 D2 D4 [.int .i64 k, .int .i64 n, .string s, u, v] wr) (hd : DZ b0 wr m u l) (hm : MZ b0 wr m v ms) (hr : r = mkD k n s l ms) (x0 x1 x2 x3 x4 : Value) :
    ∃ a c a' c', Ending.returned (.agg #[.int .i64 k, .int .i64 n, .string s, u, v]) = .returned (datV r a c a' c') ∧ Below w.heap.size w (set5 wr g4 x0 x1 x2 x3 x4) ∧ PZ w.heap.size none (set5 wr g4 x0 x1 x2 x3 x4) (m + 1) r a c a' c' := by
  obtain ⟨h0, h1, h2, h3, h4, h5⟩ := h
  have hb := below_set5 h2 (g := g4) (by omega) x0 x1 x2 x3 x4
  have hs : (set5 wr g4 x0 x1 x2 x3 x4).heap.size = wr.heap.size := by unfold set5; simp only [csize_set]
  have hk : ∀ k, k ≠ g4 → (set5 wr g4 x0 x1 x2 x3 x4).heap[k]? = wr.heap[k]? := fun k hk => by
    unfold set5
    rw [Below.heap_setCell _ _ _ _ hk, Below.heap_setCell _ _ _ _ hk, Below.heap_setCell _ _ _ _ hk, Below.heap_setCell _ _ _ _ hk, Below.heap_setCell _ _ _ _ hk]
  obtain ⟨a, c, a', c', rfl, rfl, hp⟩ := pz_mk (k := k) (n := n) (s := s) (hd.turn (lo' := w.heap.size) (w' := set5 wr g4 x0 x1 x2 x3 x4) (by omega) (by omega) fun k k1 _ => hk k (by omega)) (hm.turn (lo' := w.heap.size) (w' := set5 wr g4 x0 x1 x2 x3 x4) (by omega) (by omega) fun k k1 _ => hk k (by omega))
  subst hr
  exact ⟨a, c, a', c', by unfold datV datCs; simp, hb, hp⟩
/-- A row takes one more made afresh. -/
theorem pz_push {g5 b0 : Nat} {wr w4 w5 : World} {m : Nat} {ob : Option Nat} {gn i : Nat} {u' : Value} {d : Dt} {a c a' c'} (hd : PZ b0 ob wr m d a c a' c') (hg5 : g5 < b0) (h2 : Below wr.heap.size wr w4)
    (o2 : w4.grownBy w5 ob) (o3 : ob = some gn ∨ gn = w4.heap.size) : PZ b0 (some gn) (w5.setCell ⟨g5, i, none⟩ u') m d a c a' c' := by
  refine hd.turn (by rw [csize_set]; exact Nat.le_trans h2.size o2.size) fun k k1 k2 k3 => ⟨?_, k1, ?_⟩
  · rw [Below.heap_setCell _ _ _ _ (by show k ≠ g5; omega), o2.block k (Nat.lt_of_lt_of_le k2 h2.size) k3, h2.block k k2]
  · rcases o3 with e | e
    · rw [← e]; exact k3
    · intro e'; injection e' with e'; have := h2.size; omega
theorem pz_new {g5 b0 H : Nat} {wr w3 w4 w5 : World} {m : Nat} {ob : Option Nat} {gn i : Nat} {u' : Value} {d : Dt} {a c a' c'} (hp : PZ H none w3 m d a c a' c') (hg5 : g5 < b0) (hb0 : b0 ≤ wr.heap.size) (h1 : wr.heap.size ≤ H) (hob : ∀ k, ob = some k → k < wr.heap.size) (h3 : Below w3.heap.size w3 w4) 
    (o2 : w4.grownBy w5 ob) (o3 : ob = some gn ∨ gn = w4.heap.size) : PZ b0 (some gn) (w5.setCell ⟨g5, i, none⟩ u') m d a c a' c' := by
  refine hp.turn (by rw [csize_set]; exact Nat.le_trans h3.size o2.size) fun k k1 k2 _ => ⟨?_, by omega, ?_⟩
  · have hne : some k ≠ ob := fun e => by have := hob k e.symm; omega
    rw [Below.heap_setCell _ _ _ _ (by show k ≠ g5; omega), o2.block k (Nat.lt_of_lt_of_le k2 h3.size) hne, h3.block k k2]
  · rcases o3 with e | e
    · intro e'; injection e' with e'; have := hob gn e; omega
    · intro e'; injection e' with e'; have := h3.size; omega
theorem own_set {w : World} {base : Nat} {e : TypeId} {size : Nat} {v : Value} {n : Nat} {xs : List Value} (h : w.ownsRow base e size v n xs) {p : Addr} (hp : p.block < base) (u : Value) : (w.setCell p u).ownsRow base e size v n xs := ownsRow_setCell_below h hp u
theorem own_push {g5 b0 H : Nat} {wr w3 w4 w5 : World} {m : Nat} {uv : Value} {l : List Dt} {r : Dt} {a : Option Addr} {c : Nat} {a' : Option Addr} {c' gn cap n : Nat} {xs : List Value} {i : Nat} {u' : Value}
    (ho : wr.ownsRow b0 27 5 uv n xs) (hf : FlatD (PZ b0 uv.ownBlock wr m) xs l) (hn : l.length = n) (hg5 : g5 < b0) (hb0 : b0 ≤ wr.heap.size) (h1 : wr.heap.size ≤ H) (h2 : Below wr.heap.size wr w4) (hp : PZ H none w3 m r a c a' c') (h3 : Below w3.heap.size w3 w4)
    (o1 : w5.ownsRow b0 27 5 (.slice (some ⟨gn, 0, none⟩) (n + 1) cap) (n + 1) (xs ++ datCs r a c a' c')) (o2 : w4.grownBy w5 uv.ownBlock) (o3 : uv.ownBlock = some gn ∨ gn = w4.heap.size) :
    OwnD (PZ b0 (Value.slice (some ⟨gn, 0, none⟩) (n + 1) cap).ownBlock (w5.setCell ⟨g5, i, none⟩ u') m) (w5.setCell ⟨g5, i, none⟩ u') b0 (.slice (some ⟨gn, 0, none⟩) (n + 1) cap) (l ++ [r]) := by
  refine ⟨_, by rw [List.length_append, hn]; exact own_set o1 hg5 u', ?_⟩
  exact (hf.turn fun x b q b' q' hx => pz_push hx hg5 h2 o2 o3).append (FlatD.one (pz_new hp hg5 hb0 h1 (fun k e => (ho.lt k e).2) h3 o2 o3))
theorem own_pushM {g5 b0 H : Nat} {wr w3 w4 w5 : World} {m : Nat} {uv : Value} {l : List (ByteArray × Dt)} {r : ByteArray × Dt} {a : Option Addr} {c : Nat} {a' : Option Addr} {c' gn cap n : Nat} {xs : List Value} {i : Nat} {u' : Value}
    (ho : wr.ownsRow b0 50 6 uv n xs) (hf : FlatM (PZ b0 uv.ownBlock wr m) xs l) (hn : l.length = n) (hg5 : g5 < b0) (hb0 : b0 ≤ wr.heap.size) (h1 : wr.heap.size ≤ H) (h2 : Below wr.heap.size wr w4) (hp : PZ H none w3 m r.2 a c a' c') (h3 : Below w3.heap.size w3 w4)
    (o1 : w5.ownsRow b0 50 6 (.slice (some ⟨gn, 0, none⟩) (n + 1) cap) (n + 1) (xs ++ .string r.1 :: datCs r.2 a c a' c')) (o2 : w4.grownBy w5 uv.ownBlock) (o3 : uv.ownBlock = some gn ∨ gn = w4.heap.size) :
    OwnM (PZ b0 (Value.slice (some ⟨gn, 0, none⟩) (n + 1) cap).ownBlock (w5.setCell ⟨g5, i, none⟩ u') m) (w5.setCell ⟨g5, i, none⟩ u') b0 (.slice (some ⟨gn, 0, none⟩) (n + 1) cap) (l ++ [r]) := by
  refine ⟨_, by rw [List.length_append, hn]; exact own_set o1 hg5 u', ?_⟩
  exact (hf.turn fun x b q b' q' hx => pz_push hx hg5 h2 o2 o3).append (FlatM.one (pz_new hp hg5 hb0 h1 (fun k e => (ho.lt k e).2) h3 o2 o3))
theorem clean_sort {b0 m : Nat} {wr : World} {u : Value} {L : List (ByteArray × Dt)} (h : OwnM (PZ b0 u.ownBlock wr m) wr b0 u L) (hl : L.length ≤ 1000000) :
    Calls Tryd.prog 37 #[u, .func (.func 38) #[] #[]] wr fun e w' => e = .returned (.tuple #[]) ∧ ∃ row, wr.grownBy w' row ∧ (∀ k, row = some k → b0 ≤ k) ∧ MZ b0 w' m u (sortK Prod.fst L) := by
  obtain ⟨xs, ho, hf⟩ := h
  rcases ho.2 with ⟨rfl, hn⟩ | ⟨g, cap, cur, rfl, hb, hh, hc, hm, hcs, htk⟩
  · refine (sortStable_nil wr).mono ?_
    rintro e w' ⟨rfl, rfl⟩
    rw [List.eq_nil_of_length_eq_zero hn]
    exact ⟨rfl, none, grown_refl _ _, by simp, MZ.nil _ _ _⟩
  · obtain ⟨ML, hxs, hML, hR⟩ := mcs_of_flat hf
    have hlen : ML.length = L.length := by rw [← hML, List.length_map]
    have hrow : SRow wr g ML (cur.toList.drop (L.length * 6)) := by
      unfold SRow Row
      rw [← hxs, ← htk, List.take_append_drop]
      simpa using hh
    refine (sortStable_run g cap L.length ML _ wr hrow hlen hl).mono ?_
    rintro e w' ⟨rfl, C, hC, hS, hG⟩
    refine ⟨rfl, some g, hG, fun k e => by injection e with e; omega, some ⟨g, 0, none⟩, cap, by rw [sortK_length], by rw [sortK_length]; exact hc, hm, fun W h1 h2 => ?_⟩
    rw [← hML, ← sorted_members hC]
    refine MemsAt.of_flat (flat_of_mcs fun e he => hR e (hC.2.1.mem he) W (Nat.le_trans hG.size h1) fun k k1 k2 k3 => (h2 k k1 (Nat.lt_of_lt_of_le k2 hG.size)).trans (hG.block k k2 k3)) ?_ fun j v hv => ?_
    · have := hS.lt; show g < _; omega
    · rw [add_head]
      refine (World.cell?_of_block (h2 g hb hS.lt)).trans ?_
      rw [Row.cell hS, List.getElem?_append_left (List.getElem?_eq_some_iff.1 hv).1]
      exact hv
end Go.Proofs.YtmmbbndoimleaaaDoor

/- str. -/
namespace Go.Proofs.YtmmbbndoimleaaaDoor
open Go.RowKit

def byL (l : List UInt8) : List Value := l.map fun b => .int .u8 ((b.toNat : Nat) : Int)
theorem byL_app (l k : List UInt8) : byL (l ++ k) = byL l ++ byL k := List.map_append
theorem byL_len (l : List UInt8) : (byL l).length = l.length := List.length_map _
theorem byL_one (l : List UInt8) : ∀ u ∈ byL l, u.oneCell' = true := fun u hu => by
  obtain ⟨b, _, rfl⟩ := List.mem_map.1 hu; rfl
theorem int_one (k : IntKind) (c : Int) : ∀ u ∈ [Value.int k c], u.oneCell' = true := fun u hu => by
  have : u = _ := List.mem_singleton.1 hu
  subst this; rfl
theorem infoB : (Tryd.prog.info? 5).map (fun i => (i.zero, i.size, i.bytes)) = some (some (.int .u8 0), 1, 1) := by kernel_rfl
/-- A row of bytes. -/
def ByR (w : World) (b : Nat) (u : Value) (l : List UInt8) : Prop := w.ownsRow b 5 1 u l.length (byL l)
theorem ByR.nil (w : World) (b : Nat) : ByR w b (.slice none 0 0) [] := World.ownsRow_nil _ _ _ _
theorem ByR.below {w w' : World} {b : Nat} {u : Value} {l : List UInt8} (h : ByR w b u l) (hb : Below w.heap.size w w') : ByR w' b u l := own_below h hb
theorem ByR.alloc {w : World} {b : Nat} {u : Value} {l : List UInt8} (h : ByR w b u l) (o : Obj) : ByR (w.alloc o) b u l := World.ownsRow.alloc h o
/-- A row of bytes as a string. -/
theorem conv_row {w : World} {b : Nat} {u : Value} {l : List UInt8} (h : ByR w b u l) : (convert 23 9 u).run Tryd.prog w = .ok (.string ⟨l.toArray⟩) w := by
  rcases h.2 with ⟨rfl, hn⟩ | ⟨g, cap, cur, rfl, hb, hh, hc, hm, hcs, htk⟩
  · have : l = [] := List.eq_nil_of_length_eq_zero hn
    subst this
    rw [run_convert_bytes_string w 23 9 5 none 0 0 Tryd.underlying23 Tryd.underlying5 Tryd.underlying9]
    rfl
  · refine run_convert_bytes_back w 23 9 5 ⟨g, 0, none⟩ cap l Tryd.underlying23 Tryd.underlying5 Tryd.underlying9 fun j hj => ?_
    have := World.ownsRow.cells h (g := g) rfl j (.int .u8 ((l[j].toNat : Nat) : Int)) (by unfold byL; rw [List.getElem?_map, List.getElem?_eq_getElem hj]; rfl)
    exact this
theorem esc_ok {S : ByteArray} {i c j : Nat} (h : escF S i = .ok (c, j)) : i + 2 ≤ j ∧ j ≤ S.size ∧ c < 256 := by
  unfold escF at h
  have hn := nx_lt S (i + 1)
  obtain ⟨x, hx⟩ : ∃ x, x = nx S (i + 1) := ⟨_, rfl⟩
  have hs : x ≠ 0 → i + 1 < S.size := fun h => nx_in (by rw [← hx]; exact h)
  rw [← hx] at h hn
  simp only at h
  split at h
  · injection h with h; injection h with h1 h2; have := hs (by omega); omega
  split at h
  · injection h with h; injection h with h1 h2; have := hs (by omega); omega
  split at h
  · injection h with h; injection h with h1 h2; have := hs (by omega); omega
  split at h
  · injection h with h; injection h with h1 h2; have := hs (by omega); omega
  split at h
  · injection h with h; injection h with h1 h2; have := hs (by omega); omega
  split at h
  · injection h with h; injection h with h1 h2; have := hs (by omega); omega
  split at h
  · cases hw : wordF S [48, 48] (i + 2) with
    | error f => rw [hw] at h; cases h
    | ok k =>
      rw [hw] at h
      simp only at h
      have hk : k = i + 4 := word_len hw
      cases ha : hexV (nx S k) with
      | none => rw [ha] at h; cases h
      | some a =>
        rw [ha] at h
        simp only at h
        cases hb : hexV (nx S (k + 1)) with
        | none => rw [hb] at h; cases h
        | some b =>
          rw [hb] at h
          injection h with h; injection h with h1 h2
          have h3 := hex_small ha; have h4 := hex_small hb
          have h5 : k + 1 < S.size := nx_in (by intro h0; rw [h0, hex_zero] at hb; cases hb)
          omega
  · cases h
theorem strL_fuel (S : ByteArray) : ∀ (m n i : Nat) (o : ByteArray), S.size + 1 - i ≤ m → m ≤ n → strL S n i o = strL S m i o
  | 0, n, i, o, h, _ => by
    cases n with
    | zero => rfl
    | succ n =>
      have h0 : nx S i = 0 := by unfold nx; rw [if_neg (by omega)]
      unfold strL
      rw [h0, if_neg (by decide), if_neg (by decide), if_pos (.inl (by omega))]
  | m + 1, 0, _, _, _, h => by omega
  | m + 1, n + 1, i, o, h, hn => by
    unfold strL
    split
    · rfl
    split
    · cases he : escF S i with
      | error f => rfl
      | ok p =>
        obtain ⟨c, j⟩ := p
        have := esc_ok he
        exact strL_fuel S m n j _ (by omega) (by omega)
    split
    · rfl
    · exact strL_fuel S m n (i + 1) _ (by omega) (by omega)
/-- The rest of a string from a place. -/
def strR (S : ByteArray) (i : Nat) (o : ByteArray) : Except Flt (ByteArray × Nat) := strL S (S.size + 1 - i) i o
theorem strR_eq {S : ByteArray} {i : Nat} (hi : i ≤ S.size) (o : ByteArray) : strR S i o =
    if nx S i = 34 then .ok (o, i + 1)
    else if nx S i = 92 then match escF S i with
      | .error f => .error f
      | .ok (c, j) => strR S j (o.push (UInt8.ofNat c))
    else if S.size ≤ i ∨ nx S i < 32 ∨ 126 < nx S i then .error (19, (i : Int))
    else strR S (i + 1) (o.push (UInt8.ofNat (nx S i))) := by
  unfold strR
  rw [show S.size + 1 - i = (S.size - i) + 1 by omega, strL]
  split
  · rfl
  split
  · cases he : escF S i with
    | error f => rfl
    | ok p =>
      obtain ⟨c, j⟩ := p
      have := esc_ok he
      exact strL_fuel S (S.size + 1 - j) (S.size - i) j _ (by omega) (by omega)
  split
  · rfl
  · exact strL_fuel S (S.size + 1 - (i + 1)) (S.size - i) (i + 1) _ (by omega) (by omega)
def SPost (g : Nat) (S : ByteArray) (w : World) (r : Except Flt (ByteArray × Nat)) (e : Ending) (w' : World) : Prop :=
  match r with
  | .ok (T, j) => e = .returned (.string T) ∧ Pr w' g S j ∧ Px g w w'
  | .error f => FPost g w f e w'
theorem str_push {w0 wr w' : World} {g k : Nat} {S : ByteArray} {u u' : Value} {l : List UInt8} {c : Nat} (hP : Pr wr g S k) (hX : Px g w0 wr) (hB : ByR wr w0.heap.size u l) (hgw : g < w0.heap.size) (hc : c < 256)
    (h1 : w'.ownsRow w0.heap.size 5 1 u' (l.length + 1) (byL l ++ [.int .u8 (c : Int)])) (h2 : wr.grownBy w' u.ownBlock) : Pr w' g S k ∧ Px g w0 w' ∧ ByR w' w0.heap.size u' (l ++ [UInt8.ofNat c]) := by
  refine ⟨hP.other h2 (fun e => by have := (World.ownsRow.lt hB g e.symm).1; omega), hX.grown h2 (fun k e => (World.ownsRow.lt hB k e).1), ?_⟩
  unfold ByR
  rw [byL_app, List.length_append]
  have : byL [UInt8.ofNat c] = [.int .u8 (c : Int)] := by
    unfold byL
    simp
    omega
  rw [this]; exact h1
theorem ba_push (l : List UInt8) (c : UInt8) : (⟨l.toArray⟩ : ByteArray).push c = ⟨(l ++ [c]).toArray⟩ := by
  unfold ByteArray.push; simp

set_option maxRecDepth 20000 in
set_option maxHeartbeats 4000000 in
theorem str_run (S : ByteArray) (g i : Nat) (w : World) (h : Pr w g S i) (hS : S.size ≤ 1000000000) (hi : i ≤ S.size) :
    Calls Tryd.prog 22 #[.pointer (some ⟨g, 0, none⟩)] w (SPost g S w (strF S i)) := by
  obtain ⟨i0, hi0, hz0, hz1, hz2⟩ := info_parts infoB
  obtain ⟨r, hr⟩ : ∃ r, r = strF S i := ⟨_, rfl⟩
  rw [← hr]
  unfold strF at hr
  have HN := hide fun k V (h : Pr V g S k) => next_run S g k V h
  have HF := hide fun (e : Int) (k : Nat) V => fail_run (.pointer (some ⟨g, 0, none⟩)) e (k : Nat) V
  have HW := hide (word_run S ⟨#[34]⟩ g i w h (by omega) (by decide))
  have HES := hide fun k V (h : Pr V g S k) (hk : k ≤ S.size) => jescape_run S g k V h (by omega)
  have HG := hide h.lt
  obtain ⟨q, hq⟩ : ∃ q, q = wordF S [34] i := ⟨_, rfl⟩
  rw [← hq] at hr
  rw [show (⟨#[34]⟩ : ByteArray).data.toList = [34] from rfl, ← hq] at HW
  have HR := Lib.hid hr; have HQ := Lib.hid hq
  clear h hr hq
  go_enter Tryd.func22, Tryd.ntmps22
  go_wp2_with fail
  refine HW.out.mono ?_
  cases q with
  | error f =>
    rintro e w1 ⟨rfl, hx⟩
    have HE2 := hide (show r = .error f from HR.out)
    have HX := hide hx
    clear hx HR
    go_wp2_with fail
    rw [HE2.out]
    exact ⟨rfl, rfl, HX.out⟩
  | ok j =>
    rintro e w1 ⟨rfl, hP, hx⟩
    have hj : j = i + 1 := word_len HQ.out.symm
    have hjs : j ≤ S.size := by
      have h1 := HQ.out
      unfold wordF at h1
      split at h1
      · rename_i h34
        have : i < S.size := nx_in (by rw [h34]; decide)
        omega
      · cases h1
    have H0 := hide (show Pr w1 g S j ∧ Px g w w1 ∧ ByR w1 w.heap.size (.slice none 0 0) [] ∧ r = strR S j ⟨([] : List UInt8).toArray⟩ from ⟨hP, hx, ByR.nil _ _, HR.out⟩)
    clear hP hx HR HQ HW hj
    go_wp2_with fail
    go_loopw [3, 4] (fun uv _ wr => ∃ (k : Nat) (l : List UInt8), k ≤ S.size ∧ l.length ≤ k ∧ Hid (Pr wr g S k ∧ Px g w wr ∧ ByR wr w.heap.size uv l ∧ r = strR S k ⟨l.toArray⟩)) (fun _ _ wr => S.size + 1 - atOf wr g)
    case atStart => exact ⟨j, [], hjs, Nat.zero_le _, H0⟩
    case round =>
      clear H0
      obtain ⟨k, l, hk, hlk, hR⟩ := hrel
      obtain ⟨c0, c1, f1⟩ := hR.out.1.cells
      have HN1 := hide fun V (h : Pr V g S k) => HN.out k V h
      obtain ⟨x, hx⟩ : ∃ x, x = nx S k := ⟨_, rfl⟩
      have hx2 := nx_lt S k
      have HRR := hide (hR.out.2.2.2.trans (strR_eq hk _))
      rw [← hx] at HN1 hx2 HRR
      have HX := Lib.hid hx
      clear hx
      by_cases h34 : x = 34
      · subst h34
        have HE2 := hide (show r = .ok (⟨l.toArray⟩, k + 1) by rw [HRR.out, if_pos rfl])
        clear HRR
        go_wp2_with fail
        refine (HN1.out _ hR.out.1).mono ?_; rintro e w2 ⟨rfl, n1, rfl⟩
        have hcv := conv_row (w := (wr.drewN n1).setCell ⟨g, 1, none⟩ (.int .i64 ((k : Int) + 1))) (b := w.heap.size) (u := u3) (l := l) (ownsRow_setCell_below (hR.out.2.2.1.below (below_drewN (Below.refl _ _) _)) (a := ⟨g, 1, none⟩) HG.out _)
        go_wp2_with fail
        go_ret
        rw [HE2.out]
        exact ⟨rfl, (hR.out.1.drewN _).set_ (k + 1), (hR.out.2.1.drewN _).set_ 1 _⟩
      · have d34 : ((x : Int) != 34) = true := by simp; omega
        go_wp2_with fail
        refine (HN1.out _ hR.out.1).mono ?_; rintro e w2 ⟨rfl, n1, rfl⟩
        go_wp2_with fail
        refine (HN1.out _ (hR.out.1.drewN _)).mono ?_; rintro e w2 ⟨rfl, n2, rfl⟩
        go_upto_region 5 with fail
        obtain ⟨wa, hwa⟩ : ∃ W, W = wr.drewN (n1 + n2) := ⟨_, rfl⟩
        have HP1 := hide (show Pr wa g S k by rw [hwa]; exact hR.out.1.drewN _)
        have HX1 := hide (show Px g w wa by rw [hwa]; exact hR.out.2.1.drewN _)
        have HB1 := hide (show ByR wa w.heap.size u3 l by rw [hwa]; exact hR.out.2.2.1.below (below_drewN (Below.refl _ _) _))
        have HAT := hide (show atOf wr g = k from hR.out.1.at_)
        rw [← hwa]
        clear hwa hR c0 c1 f1 HN1
        obtain ⟨c0, c1, f1⟩ := HP1.out.cells
        by_cases h92 : x = 92
        · subst h92
          have HE1 := hide (show r = match escF S k with
            | .error f => .error f
            | .ok (c, j) => strR S j ((⟨l.toArray⟩ : ByteArray).push (UInt8.ofNat c)) by rw [HRR.out, if_neg (by decide), if_pos rfl])
          have HES1 := hide (HES.out k wa HP1.out hk)
          obtain ⟨q, hq⟩ : ∃ q, q = escF S k := ⟨_, rfl⟩
          rw [← hq] at HE1 HES1
          have HQ := Lib.hid hq
          clear hq HRR
          go_wp2_with fail
          refine HES1.out.mono ?_
          cases q with
          | error f =>
            rintro e w3 ⟨rfl, hx⟩
            have HE2 := hide (show r = .error f from HE1.out)
            have HX3 := hide (HX1.out.trans hx)
            clear hx HE1
            go_wp2_with fail
            rw [HE2.out]
            exact ⟨rfl, rfl, HX3.out⟩
          | ok p =>
            obtain ⟨c, j2⟩ := p
            obtain ⟨k1, k2, k3⟩ := esc_ok HQ.out.symm
            rintro e w3 ⟨rfl, hp, hx⟩
            have HE2 := hide (show r = strR S j2 ((⟨l.toArray⟩ : ByteArray).push (UInt8.ofNat c)) from HE1.out)
            have HP3 := hide hp
            have HX3 := hide (HX1.out.trans hx)
            have HB3 := hide (show ByR w3 w.heap.size u3 l from World.ownsRow.kept HB1.out ⟨hx.1.os, hx.1.tape, hx.1.output, hx.1.size, fun k hk hn => hx.2 k hk (by simpa using hn)⟩ (row := some g) (by
              rcases hv : u3.ownBlock with _ | y
              · exact .inl rfl
              · exact .inr fun e => by have := (World.ownsRow.lt HB1.out y hv).1; have := HG.out; injection e with e; omega))
            clear hp hx HE1 HQ HES1
            go_wp2_with (at_builtin; refine wpList_append_all _ rfl (.tmp 15) (.tmp 18) _ rfl w.heap.size 5 i0 _ 1 1 Tryd.underlying23 hi0 hz0 hz1 hz2 rfl (by omega) u3 l.length (byL l) rfl (HB3.out.alloc _) (some ⟨w3.heap.size, 0, none⟩) 1 1 [.int .u8 (c : Int)] rfl (by intro h; cases h) rfl (by intro ad' h; injection h with h; subst h; exact World.news_of_block (heap_alloc_new _ _)) (int_one _ _) (by unfold maxLen; omega) (by omega) (by have := HX3.out.size; simp; omega) ?_)
            intro v5 w5 o1 o2
            obtain ⟨p1, p2, p3⟩ := str_push (HP3.out.below ((Below.refl _ _).alloc (Nat.le_refl _) _)) (HX3.out.alloc _) (HB3.out.alloc (.cells #[.int .u8 (c : Int)] 5)) HG.out k3 o1.out o2.out
            have HP5 := hide p1; have HX5 := hide p2; have HB5 := hide p3
            clear o1 o2 p1 p2 p3 HB3 HX3 HP3
            go_wp2_with fail
            go_roundw
            case rel => exact ⟨j2, l ++ [UInt8.ofNat c], k2, by simp; omega, hide ⟨HP5.out, HX5.out, HB5.out, by rw [HE2.out, ba_push]⟩⟩
            case measure => rw [HP5.out.at_, HAT.out]; omega
        · have d92 : ((x : Int) == 92) = false := by simp; omega
          by_cases hbad : S.size ≤ k ∨ x < 32 ∨ 126 < x
          · have HE2 := hide (show r = .error (19, (k : Int)) by rw [HRR.out, if_neg h34, if_neg h92, if_pos hbad])
            clear HRR
            by_cases h1 : S.size ≤ k
            · have g1 : (S.size : Int) ≤ (k : Int) := by omega
              go_wp2_with fail
              go_quiet (fail)
              go_wp2_with fail
              refine (HF.out 19 k _).mono ?_; rintro e w3 ⟨rfl, rfl⟩
              go_wp2_with fail
              rw [HE2.out]
              exact ⟨rfl, rfl, HX1.out.drewN _⟩
            · have g1 : ¬ (S.size : Int) ≤ (k : Int) := by omega
              by_cases h2 : x < 32
              · have g2 : (x : Int) < 32 := by omega
                go_wp2_with fail
                go_quiet (fail)
                go_wp2_with fail
                refine (HF.out 19 k _).mono ?_; rintro e w3 ⟨rfl, rfl⟩
                go_wp2_with fail
                rw [HE2.out]
                exact ⟨rfl, rfl, HX1.out.drewN _⟩
              · have g2 : ¬ (x : Int) < 32 := by omega
                have g3 : (126 : Int) < (x : Int) := by omega
                go_wp2_with fail
                go_quiet (fail)
                go_wp2_with fail
                refine (HF.out 19 k _).mono ?_; rintro e w3 ⟨rfl, rfl⟩
                go_wp2_with fail
                rw [HE2.out]
                exact ⟨rfl, rfl, HX1.out.drewN _⟩
          · have HE2 := hide (show r = strR S (k + 1) ((⟨l.toArray⟩ : ByteArray).push (UInt8.ofNat x)) by rw [HRR.out, if_neg h34, if_neg h92, if_neg hbad])
            have g1 : ¬ (S.size : Int) ≤ (k : Int) := by omega
            have g2 : ¬ (x : Int) < 32 := by omega
            have g3 : ¬ (126 : Int) < (x : Int) := by omega
            have hks : k < S.size := by omega
            clear HRR hbad
            go_wp2_with fail
            go_quiet (fail)
            go_upto_region 9 with fail
            obtain ⟨wb, hwb⟩ : ∃ W, W = wa.drewN nq := ⟨_, rfl⟩
            have HP3 := hide (show Pr wb g S k by rw [hwb]; exact HP1.out.drewN _)
            have HX3 := hide (show Px g w wb by rw [hwb]; exact HX1.out.drewN _)
            have HB3 := hide (show ByR wb w.heap.size u3 l by rw [hwb]; exact HB1.out.below (below_drewN (Below.refl _ _) _))
            rw [← hwb]
            clear hwb HP1 HX1 HB1 c0 c1 f1 g1 g2 g3
            go_wp2_with (at_builtin; refine wpList_append_all _ rfl (.tmp 45) (.tmp 47) _ rfl w.heap.size 5 i0 _ 1 1 Tryd.underlying23 hi0 hz0 hz1 hz2 rfl (by omega) u3 l.length (byL l) rfl (HB3.out.alloc _) (some ⟨wb.heap.size, 0, none⟩) 1 1 [.int .u8 (x : Int)] rfl (by intro h; cases h) rfl (by intro ad' h; injection h with h; subst h; exact World.news_of_block (heap_alloc_new _ _)) (int_one _ _) (by unfold maxLen; omega) (by omega) (by have := HX3.out.size; simp; omega) ?_)
            intro v5 w5 o1 o2
            obtain ⟨p1, p2, p3⟩ := str_push (HP3.out.below ((Below.refl _ _).alloc (Nat.le_refl _) _)) (HX3.out.alloc _) (HB3.out.alloc (.cells #[.int .u8 (x : Int)] 5)) HG.out hx2 o1.out o2.out
            have HP5 := hide p1; have HX5 := hide p2; have HB5 := hide p3
            obtain ⟨c0, c1, f1⟩ := p1.cells
            clear o1 o2 p1 p2 p3 HB3 HX3 HP3
            go_wp2_with fail
            go_roundw
            case rel => exact ⟨k + 1, l ++ [UInt8.ofNat x], hks, by simp; omega, hide ⟨HP5.out.set_ (k + 1), HX5.out.set_ 1 _, ownsRow_setCell_below HB5.out (a := ⟨g, 1, none⟩) HG.out _, by rw [HE2.out, ba_push]⟩⟩
            case measure =>
              have e1 : atOf (w5.setCell ⟨g, 1, none⟩ (.int .i64 ((k : Int) + 1))) g = k + 1 := (HP5.out.set_ (k + 1)).at_
              rw [e1, HAT.out]; omega
end Go.Proofs.YtmmbbndoimleaaaDoor

/- short, quoted, line of package jsontext. -/
namespace Go.Proofs.YtmmbbndoimleaaaDoor
open Go.RowKit Go.Shelf

theorem ret_sh {a b : Int} {p q : Bool} (h1 : a = b) (h2 : p = q) : Ending.returned (.tuple #[.int .u8 a, .bool p]) = .returned (.tuple #[.int .u8 b, .bool q]) := by rw [h1, h2]
theorem jsh_lt (c : Nat) (hc : c < 256) : jshN c < 256 := by
  unfold jshN; split
  · exact hc
  · split
    · omega
    split
    · omega
    split
    · omega
    split
    · omega
    split <;> omega
set_option maxHeartbeats 1000000 in
theorem jshort_run (c : Nat) (w : World) :
    Calls Tryd.prog 52 #[.int .u8 c] w fun e w' => e = .returned (.tuple #[.int .u8 (jshN c), .bool (decide (jshN c ≠ 0))]) ∧ w = w' := by
  by_cases h34 : c = 34
  · subst h34
    go_enter Tryd.func52, Tryd.ntmps52
    go_wp2_with fail
    go_ret2
    exact ⟨rfl, rfl⟩
  by_cases h92 : c = 92
  · subst h92
    go_enter Tryd.func52, Tryd.ntmps52
    go_wp2_with fail
    go_ret2
    exact ⟨rfl, rfl⟩
  by_cases h8 : c = 8
  · subst h8
    go_enter Tryd.func52, Tryd.ntmps52
    go_wp2_with fail
    go_ret2
    exact ⟨rfl, rfl⟩
  by_cases h9 : c = 9
  · subst h9
    go_enter Tryd.func52, Tryd.ntmps52
    go_wp2_with fail
    go_ret2
    exact ⟨rfl, rfl⟩
  by_cases h10 : c = 10
  · subst h10
    go_enter Tryd.func52, Tryd.ntmps52
    go_wp2_with fail
    go_ret2
    exact ⟨rfl, rfl⟩
  by_cases h12 : c = 12
  · subst h12
    go_enter Tryd.func52, Tryd.ntmps52
    go_wp2_with fail
    go_ret2
    exact ⟨rfl, rfl⟩
  by_cases h13 : c = 13
  · subst h13
    go_enter Tryd.func52, Tryd.ntmps52
    go_wp2_with fail
    go_ret2
    exact ⟨rfl, rfl⟩
  have e : jshN c = 0 := by
    unfold jshN
    rw [if_neg (by omega), if_neg h8, if_neg h9, if_neg h10, if_neg h12, if_neg h13]
  rw [e]
  have g1 : ((c : Int) == 34) = false := by simp; omega
  have g2 : ((c : Int) == 92) = false := by simp; omega
  have g3 : ((c : Int) == 8) = false := by simp; omega
  have g4 : ((c : Int) == 9) = false := by simp; omega
  have g5 : ((c : Int) == 10) = false := by simp; omega
  have g6 : ((c : Int) == 12) = false := by simp; omega
  have g7 : ((c : Int) == 13) = false := by simp; omega
  go_enter Tryd.func52, Tryd.ntmps52
  go_wp2_with fail
  go_ret2
  exact ⟨rfl, rfl⟩

theorem rep9 : ∀ c, Lib.repeatL [9] c = List.replicate c 9
  | 0 => rfl
  | c + 1 => by unfold Lib.repeatL; rw [rep9 c]; rfl
theorem repExtra : Builder.Extra Tryd.prog repeatL_ren where
  sizeBuilder := by kernel_rfl
  liesBuilder := by kernel_rfl
  t5 := Tryd.underlying5
  a5 := Tryd.isAgg5
  z5 := Tryd.sizeOf5
  v5 := Tryd.zeroValue5
  infoByte := by kernel_rfl
  cellsByte := by kernel_rfl
  sizeByte := by kernel_rfl
  neB5 := by decide
theorem repeat_run (c : Nat) (hc : c ≤ 1000) (w : World) :
    Calls Tryd.prog 54 #[.string ⟨#[9]⟩, .int .i64 c] w fun e w' => e = .returned (.string ⟨(List.replicate c 9).toArray⟩) ∧ Below w.heap.size w w' := by
  have := Any.strings_Repeat repeatL repExtra ⟨#[9]⟩ c w (by omega) (by show 1 * c ≤ _; omega)
  rw [show (⟨#[9]⟩ : ByteArray).data.toList = [9] from rfl, rep9] at this
  exact this
set_option maxHeartbeats 1000000 in
theorem line_run (b : Bool) (lv : Nat) (hlv : lv ≤ 1000) (w : World) :
    Calls Tryd.prog 43 #[.agg #[.bool b], .int .i64 lv] w fun e w' => e = .returned (.string (lineB b lv)) ∧ Below w.heap.size w w' := by
  have HR := hide fun W => repeat_run lv hlv W
  cases b with
  | false =>
    go_enter Tryd.func43, Tryd.ntmps43
    go_wp2_with fail
    go_ret
    exact ⟨rfl, (Below.refl _ _).alloc (Nat.le_refl _) _⟩
  | true =>
    obtain ⟨T, hT⟩ : ∃ T : ByteArray, T = ⟨(List.replicate lv 9).toArray⟩ := ⟨_, rfl⟩
    have hTs : T.size = lv := by rw [hT]; show (List.replicate lv (9 : UInt8)).toArray.size = lv; simp
    have HE := hide (show lineB true lv = ⟨#[10]⟩ ++ T by
      rw [hT]; unfold lineB; rw [if_pos rfl]
      apply ByteArray.ext
      rw [ByteArray.data_append]
      apply Array.toList_inj.1
      simp)
    rw [← hT] at HR
    clear hT
    go_enter Tryd.func43, Tryd.ntmps43
    go_wp2_with fail
    refine (HR.out _).mono ?_; rintro e w1 ⟨rfl, hB⟩
    have HB := hide (((Below.refl w.heap.size w).alloc (Nat.le_refl _) (.cells #[.bool true] 53)).trans (hB.mono (by simp)))
    clear hB
    go_wp2_with fail
    go_ret
    exact ⟨ret_str HE.out.symm, HB.out⟩
end Go.Proofs.YtmmbbndoimleaaaDoor
