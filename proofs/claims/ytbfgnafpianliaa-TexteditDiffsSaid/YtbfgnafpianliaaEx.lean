/- The chapter's examples. -/
import Derived.Test.YtbfgnafpianliaaDf
namespace Go.Proofs.Ytbfgnafpianliaa
open Go.RowKit

def sAbc : ByteArray := ⟨#[97, 98, 99]⟩
def lEx : List Ed := [⟨1, 2, ⟨#[120, 121]⟩⟩]
def sA : ByteArray := ⟨#[97, 10, 98, 10, 99, 10]⟩
def sB : ByteArray := ⟨#[97, 10, 99, 10, 100, 10]⟩
theorem ex1 : applyP sAbc lEx = (⟨#[97, 120, 121, 99]⟩, 0) := by kernel_rfl
theorem ex2 : invertP sAbc lEx = ([⟨1, 3, ⟨#[98]⟩⟩], 0) := by kernel_rfl
theorem ex3 : shiftP 2 lEx = 3 := by kernel_rfl
theorem ex4 : shiftP 1 lEx = 1 := by kernel_rfl
theorem ex5 : linesP sA = [⟨#[97, 10]⟩, ⟨#[98, 10]⟩, ⟨#[99, 10]⟩] := by kernel_rfl
theorem ex6 : linesP sB = [⟨#[97, 10]⟩, ⟨#[99, 10]⟩, ⟨#[100, 10]⟩] := by kernel_rfl
def lA : ByteArray := ⟨#[97, 10]⟩
def lB : ByteArray := ⟨#[98, 10]⟩
def lC : ByteArray := ⟨#[99, 10]⟩
def lD : ByteArray := ⟨#[100, 10]⟩
theorem nBC : lB ≠ lC := by decide
theorem nBD : lB ≠ lD := by decide
theorem nCD : lC ≠ lD := by decide
theorem exb : bestF (sumF [lB, lC] [lC, lD]) 3 = 0 := by
  simp [bestF, sumF, lcs, nBC, nBD, nCD]
theorem exs : startP [lA, lB, lC] [lA, lC, lD] = 1 := by kernel_rfl
theorem exe : endP [lA, lB, lC] [lA, lC, lD] = 0 := by kernel_rfl
theorem exc : commonF 3 [lB, lC] [lC, lD] 1 1 = [(2, 1)] := by
  unfold commonF
  rw [if_neg (by simp), if_neg (by simp)]
  show commonF 2 [lB] (List.take (bestF (sumF [lB, lC] [lC, lD]) 3) [lC, lD]) 1 1 ++ commonF 2 [lC] (List.drop (bestF (sumF [lB, lC] [lC, lD]) 3) [lC, lD]) 2 (1 + bestF (sumF [lB, lC] [lC, lD]) 3) = _
  rw [exb]
  kernel_rfl
theorem exp' : pairsP [lA, lB, lC] [lA, lC, lD] = [(2, 1), (3, 3)] := by
  rw [pairsP, exs, exe]
  show commonF 3 [lB, lC] [lC, lD] 1 1 ++ [(3, 3)] = _
  rw [exc]; rfl
theorem ex7 : diffP sA sB = [⟨2, 4, ⟨#[]⟩⟩, ⟨6, 6, ⟨#[100, 10]⟩⟩] := by
  rw [diffP, ex5, ex6]
  show diffL [lA, lB, lC] [lA, lC, lD] = _
  rw [diffL, exs, exp']
  kernel_rfl
theorem ex8 : applyP sA [⟨2, 4, ⟨#[]⟩⟩, ⟨6, 6, ⟨#[100, 10]⟩⟩] = (sB, 0) := by kernel_rfl

theorem lit_eds (w : World) (e : Ed) : Eds (w.alloc (Obj.cells #[.int .i64 e.fr, .int .i64 e.to, .string e.tx] 35)) (w.heap.size + 1) (.slice (some ⟨w.heap.size, 0, none⟩) 1 1) [e] := by
  have h := World.ownsRow_lit (base := w.heap.size) (e := 35) (size := 3) w #[.int .i64 e.fr, .int .i64 e.to, .string e.tx] 1 (Nat.le_refl _) (by simp [maxLen]) rfl
  have := (Eds.of_own (es := [e]) h).2
  simpa using this
theorem fit_of {es : List Ed} (h1 : es.length ≤ 10000) (h2 : es.all (fun e => decide (e.tx.size ≤ 1000000000)) = true) : Fit es :=
  ⟨h1, fun e he => by simpa using List.all_eq_true.1 h2 e he⟩

/-- A call's contract, its result named. -/
theorem apply_eq {s : ByteArray} {v : Value} {es : List Ed} {w : World} {r : ByteArray × Int} (h : Eds w w.heap.size v es) (hF : Fit es) (hs : s.size ≤ 1000000000000) (he : applyP s es = r) :
    Calls Try.prog 13 #[.string s, v] w fun e w' => e = .returned (.tuple #[.string r.1, .int .i64 r.2]) ∧ Below w.heap.size w w' := by
  rw [← he]; exact Apply_run s v es w h hF hs
theorem invert_eq {s : ByteArray} {v : Value} {es : List Ed} {w : World} {r : List Ed × Int} (h : Eds w w.heap.size v es) (hF : Fit es) (hs : s.size ≤ 1000000000000) (he : invertP s es = r) :
    Calls Try.prog 19 #[.string s, v] w fun e w' => ∃ u, e = .returned (.tuple #[u, .int .i64 r.2]) ∧ Below w.heap.size w w' ∧ Eds w' w'.heap.size u r.1 := by
  rw [← he]; exact Invert_run s v es w h hF hs
theorem shift_eq {n r : Int} {v : Value} {es : List Ed} {w : World} (h : Eds w w.heap.size v es) (hF : Fit es) (he : shiftP n es = r) :
    Calls Try.prog 17 #[.int .i64 n, v] w fun e w' => e = .returned (.int .i64 r) ∧ Below w.heap.size w w' := by
  rw [← he]; exact Shift_run n v es w h hF

set_option maxHeartbeats 1000000 in
theorem example_run (w : World) : Calls Try.prog 12 #[] w fun e w' => e = .returned (.bool true) ∧ Below w.heap.size w w' := by
  go_enter Try.func12, Try.ntmps12
  go_wp2_with fail
  obtain ⟨w1, hw1⟩ : ∃ w1, w1 = w.alloc (Obj.cells #[.int .i64 1, .int .i64 2, .string ⟨#[120, 121]⟩] 35) := ⟨_, rfl⟩
  have hE1 : Eds w1 w1.heap.size (.slice (some ⟨w.heap.size, 0, none⟩) 1 1) lEx := by
    have := lit_eds w ⟨1, 2, ⟨#[120, 121]⟩⟩
    rw [hw1]; simpa [lEx] using this
  have hB1 : Below w.heap.size w w1 := by rw [hw1]; exact below_al (Below.refl _ _) _
  have hF : Fit lEx := fit_of (by decide) (by decide)
  rw [← hw1]
  obtain ⟨g, hg⟩ : ∃ g, g = w.heap.size := ⟨_, rfl⟩
  rw [← hg] at hE1 ⊢
  have HG := Lib.hid hg
  clear hw1 hg
  have HC := hide (apply_eq (s := ⟨#[97, 98, 99]⟩) hE1 hF (by decide) ex1)
  have HE1 := hide hE1; have HB1 := hide hB1; have HF := hide hF
  clear hE1 hB1 hF
  refine (unhide HC).mono ?_; rintro e w2 ⟨rfl, hB2⟩
  have HE2 := hide ((HE1.out.same (Same.of_below hB2)).more hB2.size)
  have HB2 := hide (HB1.out.trans (hB2.mono HB1.out.size))
  have HI := hide (invert_eq (s := ⟨#[97, 98, 99]⟩) HE2.out HF.out (by decide) ex2)
  clear hB2 HC HE1 HB1
  go_wp2_with fail
  refine (unhide HI).mono ?_; rintro e w3 ⟨u4, rfl, hB3, hM⟩
  have HE3 := hide ((HE2.out.same (Same.of_below hB3)).more hB3.size)
  have HM3 := hide hM
  have HB3 := hide (HB2.out.trans (hB3.mono HB2.out.size))
  have HD := hide (Diff_run sA sB w3 (by decide) (by decide) (by rw [ex5]; decide) (by rw [ex6]; decide) (by rw [ex5]; decide) (by rw [ex6]; decide))
  rw [ex7] at HD
  clear hB3 HI HE2 HB2 hM
  go_wp2_with fail
  refine (unhide HD).mono ?_; rintro e w4 ⟨u6, rfl, hB4, hL⟩
  have HE4 := hide ((HE3.out.same (Same.of_below hB4)).more hB4.size)
  have HM4 := hide ((HM3.out.same (Same.of_below hB4)).more hB4.size)
  have HL4 := hide hL
  have HB4 := hide (HB3.out.trans (hB4.mono HB3.out.size))
  have HA := hide (apply_eq (s := sA) hL (fit_of (by decide) (by decide)) (by decide) ex8)
  obtain ⟨A6, c6, rfl, _⟩ := hL
  clear hB4 HD HE3 HM3 HB3
  go_wp2_with fail
  refine (unhide HA).mono ?_; rintro e w5 ⟨rfl, hB5⟩
  have HE5 := hide ((HE4.out.same (Same.of_below hB5)).more hB5.size)
  have HM5 := hide ((HM4.out.same (Same.of_below hB5)).more hB5.size)
  have HB5 := hide (HB4.out.trans (hB5.mono HB4.out.size))
  have HS := hide (shift_eq HE5.out HF.out ex3)
  clear hB5 HA HE4 HM4 HB4 HL4
  have hsb : (sB.toList == [97, 10, 99, 10, 100, 10]) = true := by rw [Lib.toList_data]; rfl
  have hax : ((ByteArray.mk #[97, 120, 121, 99]).toList == [97, 120, 121, 99]) = true := by rw [Lib.toList_data]; rfl
  go_wp2_with fail
  refine (unhide HS).mono ?_; rintro e w6 ⟨rfl, hB6⟩
  have HE6 := hide ((HE5.out.same (Same.of_below hB6)).more hB6.size)
  have HM6 := hide ((HM5.out.same (Same.of_below hB6)).more hB6.size)
  have HB6 := hide (HB5.out.trans (hB6.mono HB5.out.size))
  have HS2 := hide (shift_eq HE6.out HF.out ex4)
  clear hB6 HS HE5 HM5 HB5
  go_wp2_with fail
  refine (unhide HS2).mono ?_; rintro e w7 ⟨rfl, hB7⟩
  have HM7 := hide ((HM6.out.same (Same.of_below hB7)).more hB7.size)
  have HB7 := hide (HB6.out.trans (hB7.mono HB6.out.size))
  clear hB7 HS2 HE6 HM6 HB6
  have HL8 := lit_eds w7 ⟨1, 3, ⟨#[98]⟩⟩
  have HM8 := (HM7.out.same (Same.of_below (Below.alloc (Below.refl _ w7) (Nat.le_refl _) (Obj.cells #[.int .i64 1, .int .i64 3, .string ⟨#[98]⟩] 35)))).more (Nat.le_succ _)
  have HQ := hide (Same_run _ _ _ _ _ _ HM8 HL8)
  rw [sameL_refl] at HQ
  clear HL8 HM8
  go_wp2_with fail
  refine (unhide HQ).mono ?_; rintro e w' ⟨rfl, m, rfl⟩
  go_wp2_with fail
  go_ret
  exact ⟨rfl, below_drewN (below_al HB7.out _) _⟩
end Go.Proofs.Ytbfgnafpianliaa
