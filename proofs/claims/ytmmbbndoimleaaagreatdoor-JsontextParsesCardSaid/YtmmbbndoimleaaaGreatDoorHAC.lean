/- short and Small of the reference; measure, Depth and Size; depth, Depth and Size of the reference; cmp.Compare, cmp.Or; Num and Str of the reference; slices.CompareFunc over data and over members; Sorting members: the row as a list, swaps; Sorting members: the order of labels, and lists; Sorting members: rotate, the closure, the insertion sort; compare: the closure over members, and compare itself; Sorting members: the closure that compares labels; Stable sorting by labels, as plain lists: the sorted list with the same order of equal labels is one alone; Sorting members: the insertion sort; Sorting members: one member merged into a sorted list. -/
import Derived.Test.YtmmbbndoimleaaaGreatDoorHAB
import Derived.Test.YtmmbbndoimleaaaGreatDoorHAA

/- short and Small of the reference. -/
namespace Go.Proofs.YtmmbbndoimleaaaGreatDoor
open Go.RowKit

def shortM (f : Dt → Bool) (x : ByteArray × Dt) : Bool := decide (x.1.size ≤ 80) && f x.2
def shortF : Nat → Dt → Bool
  | 0, _ => true
  | m + 1, d => decide ((sD d).size ≤ 80) && ((iD d).all (shortF m) && (mD d).all (shortM (shortF m)))

set_option maxRecDepth 20000 in
set_option maxHeartbeats 1000000 in
theorem short_run : ∀ (m : Nat) (d : Dt) (A : Option Addr) (c : Nat) (A' : Option Addr) (c' : Nat) (w : World), Parts w w.heap.size m d A c A' c' →
    Calls Tryz.prog 18 #[datV d A c A' c'] w fun e w' => e = .returned (.bool (shortF m d)) ∧ Below w.heap.size w w' := by
  intro m
  induction m with
  | zero => intro d  A  c  A'  c'  w  hp; exact hp.elim
  | succ m ih =>
    intro d  A  c  A'  c'  w  hp
    obtain ⟨h1, h2, h3, h4⟩ := hp.lens
    have hm := maxLen_le h2; have hm' := maxLen_le h4
    have HI := Lib.hid hp.2.1; have HM := Lib.hid hp.2.2
    obtain ⟨res, hres⟩ : ∃ k, k = shortF (m + 1) d := ⟨_, rfl⟩
    rw [← hres]
    unfold shortF at hres
    unfold datV datCs
    obtain ⟨k, hk⟩ : ∃ k, k = kD d := ⟨_, rfl⟩
    obtain ⟨n, hn⟩ : ∃ k, k = nD d := ⟨_, rfl⟩
    obtain ⟨s, hs⟩ : ∃ k, k = sD d := ⟨_, rfl⟩
    obtain ⟨IS, hIS⟩ : ∃ k, k = iD d := ⟨_, rfl⟩
    obtain ⟨MS, hMS⟩ : ∃ k, k = mD d := ⟨_, rfl⟩
    rw [← hIS, ← hMS] at hres
    rw [← hk, ← hn, ← hs, ← hIS, ← hMS]
    rw [← hIS] at h1 HI
    rw [← hMS] at h3 HM
    obtain ⟨x, hx⟩ : ∃ k, k = IS.length := ⟨_, rfl⟩
    obtain ⟨y, hy⟩ : ∃ k, k = MS.length := ⟨_, rfl⟩
    rw [← hx, ← hy]
    rw [← hx] at h1
    rw [← hy] at h3
    rw [← hs] at hres
    have HRES := Lib.hid hres; have HX := Lib.hid hx; have HY := Lib.hid hy
    clear hk hn hs hx hy hIS hMS h2 h4 hres hp
    go_enter Tryz.func18, Tryz.ntmps18
    go_upto_region 1 with fail
    obtain ⟨w1, g, e1, e2, hBL, c0, c1, c2, c3, c4, hROW⟩ := boxD w k n s (.slice A x c) (.slice A' y c')
    rw [e1, e2]
    have HBL := hide hBL; have HROW := hide hROW
    clear e1 e2 hBL hROW
    by_cases hs : 80 < s.size
    · have hz : res = false := by rw [HRES.out, decide_eq_false (by omega)]; rfl
      have HZ := Lib.hid hz
      have g1 : decide ((s.size : Int) > 80) = true := by simp; omega
      clear hz
      go_wp2_with fail
      go_ret
      exact ⟨ret_bool HZ.out.symm, HBL.out⟩
    · have hz : res = (IS.all (shortF m) && MS.all (shortM (shortF m))) := by rw [HRES.out, decide_eq_true (by omega)]; rfl
      have HZ := Lib.hid hz
      have g1 : decide ((s.size : Int) > 80) = false := by simp; omega
      clear hz HRES hs
      go_wp2_with fail
      clear c0 c1 c2 c3 c4
      go_loopw [3] (fun iv wr => ∃ i : Nat, iv = .int .i64 i ∧ i ≤ x ∧ Hid (res = ((IS.drop i).all (shortF m) && MS.all (shortM (shortF m)))) ∧ Hid (Below w1.heap.size w1 wr)) (fun iv _ => x - (intOf iv).toNat)
      case atStart => exact ⟨0, rfl, Nat.zero_le _, HZ, hide (Below.refl _ _)⟩
      case round =>
        clear HZ
        obtain ⟨i, rfl, hi, hI, hB⟩ := hrel
        obtain ⟨c0, c1, c2, c3, c4⟩ := row5 (HROW.out.below hB.out)
        by_cases hlt : i < x
        · have hlt' : i < IS.length := by rw [← HX.out]; exact hlt
          have hq := hI.out
          rw [drop_at hlt', List.all_cons] at hq
          obtain ⟨ad, rfl, hb, a, q, a', q', hfive, hpts⟩ := HI.out i _ (List.getElem?_eq_getElem hlt')
          obtain ⟨X, hX⟩ : ∃ X, X = IS[i] := ⟨_, rfl⟩
          rw [← hX] at hfive hpts hq
          have hbb : (ad.add (i * 5)).block < w.heap.size := by rw [block_of_add]; exact hb
          have hBB := HBL.out.trans (hB.out.mono HBL.out.size)
          obtain ⟨s0, s1, s2, s3, s4⟩ := hfive.same hbb (Same.of_below hBB)
          have HCK := hide (ih X a q a' q' wr (hpts.turn (Same.of_below hBB) hBB.size))
          have HQ := Lib.hid hq
          clear hfive hpts hX hlt' hb hbb hI hq hBB
          unfold datV datCs at HCK
          obtain ⟨z, hz⟩ : ∃ z, z = shortF m X := ⟨_, rfl⟩
          rw [← hz] at HCK HQ
          clear hz
          go_wp2_with fail
          refine (unhide HCK).mono ?_; rintro e w4 ⟨rfl, hB4⟩
          have HB4 := hide (hB.out.trans (hB4.mono hB.out.size))
          clear hB4 HCK s0 s1 s2 s3 s4 c0 c1 c2 c3 c4
          cases z with
          | true =>
            have HQ2 := hide (show res = ((IS.drop (i + 1)).all (shortF m) && MS.all (shortM (shortF m))) by rw [HQ.out, Bool.true_and])
            go_wp2_with fail
            go_roundw
            case rel => exact ⟨i + 1, by go_num, by omega, HQ2, HB4⟩
            case measure => simp [intOf]; omega
          | false =>
            have hzz : res = false := by rw [HQ.out]; rfl
            have HZ := Lib.hid hzz
            clear hzz
            go_wp2_with fail
            go_ret
            exact ⟨ret_bool HZ.out.symm, HBL.out.trans (HB4.out.mono HBL.out.size)⟩
        · have HZ := hide (show res = (MS.drop 0).all (shortM (shortF m)) by rw [hI.out, List.drop_eq_nil_of_le (by rw [← HX.out]; omega)]; rfl)
          have HB4 := hide (HBL.out.trans (hB.out.mono HBL.out.size))
          have HROW4 := hide (HROW.out.below hB.out)
          clear hI HROW HBL hB
          obtain ⟨w4, rfl⟩ : ∃ w4, w4 = wr := ⟨_, rfl⟩
          go_wp2_with fail
          clear c0 c1 c2 c3 c4
          go_loopw [4] (fun iv wr => ∃ i : Nat, iv = .int .i64 i ∧ i ≤ y ∧ Hid (res = (MS.drop i).all (shortM (shortF m))) ∧ Hid (Below w4.heap.size w4 wr)) (fun iv _ => y - (intOf iv).toNat)
          case atStart => exact ⟨0, rfl, Nat.zero_le _, HZ, hide (Below.refl _ _)⟩
          case round =>
            clear HZ
            obtain ⟨i, rfl, hi, hI, hB⟩ := hrel
            obtain ⟨c0, c1, c2, c3, c4⟩ := row5 (HROW4.out.below hB.out)
            by_cases hlt : i < y
            · have hlt' : i < MS.length := by rw [← HY.out]; exact hlt
              have hq := hI.out
              rw [drop_at hlt', List.all_cons, shortM] at hq
              obtain ⟨ad, rfl, hb, hlab, a, q, a', q', hfive, hpts⟩ := HM.out i _ (List.getElem?_eq_getElem hlt')
              obtain ⟨X, hX⟩ : ∃ X, X = MS[i] := ⟨_, rfl⟩
              rw [← hX] at hfive hpts hq hlab
              have hbb : (ad.add (i * 6)).block < w.heap.size := by rw [block_of_add]; exact hb
              have hBB := HB4.out.trans (hB.out.mono HB4.out.size)
              obtain ⟨s0, s1, s2, s3, s4, s5⟩ := six_of ((hBB.cell (p := ad.add (i * 6)) hbb).trans hlab) (hfive.same (p := ⟨_, _, none⟩) hbb (Same.of_below hBB))
              have HCK := hide (ih X.2 a q a' q' wr (hpts.turn (Same.of_below hBB) hBB.size))
              have HQ := Lib.hid hq
              clear hfive hpts hX hlt' hb hbb hI hq hBB hlab
              unfold datV datCs at HCK
              obtain ⟨z, hz⟩ : ∃ z, z = shortF m X.2 := ⟨_, rfl⟩
              rw [← hz] at HCK HQ
              clear hz
              by_cases hs : 80 < X.1.size
              · have hzz : res = false := by rw [HQ.out, decide_eq_false (by omega)]; rfl
                have HZ := Lib.hid hzz
                have g3 : decide ((X.1.size : Int) > 80) = true := by simp; omega
                clear hzz hs
                go_wp2_with fail
                go_ret
                exact ⟨ret_bool HZ.out.symm, HB4.out.trans (hB.out.mono HB4.out.size)⟩
              · have hzz : res = (z && (MS.drop (i + 1)).all (shortM (shortF m))) := by rw [HQ.out, decide_eq_true (by omega), Bool.true_and]
                have HZ := Lib.hid hzz
                have g3 : decide ((X.1.size : Int) > 80) = false := by simp; omega
                clear hzz hs HQ
                go_wp2_with fail
                refine (unhide HCK).mono ?_; rintro e w5 ⟨rfl, hB5⟩
                have HB5 := hide (hB.out.trans (hB5.mono hB.out.size))
                clear hB5 HCK s0 s1 s2 s3 s4 s5 c0 c1 c2 c3 c4
                cases z with
                | true =>
                  have HQ2 := hide (show res = (MS.drop (i + 1)).all (shortM (shortF m)) by rw [HZ.out, Bool.true_and])
                  go_wp2_with fail
                  go_roundw
                  case rel => exact ⟨i + 1, by go_num, by omega, HQ2, HB5⟩
                  case measure => simp [intOf]; omega
                | false =>
                  have hz2 : res = false := by rw [HZ.out]; rfl
                  have HZ2 := Lib.hid hz2
                  clear hz2
                  go_wp2_with fail
                  go_ret
                  exact ⟨ret_bool HZ2.out.symm, HB4.out.trans (HB5.out.mono HB4.out.size)⟩
            · have hst : res = true := by rw [hI.out, List.drop_eq_nil_of_le (by rw [← HY.out]; omega)]; rfl
              have HST := Lib.hid hst
              clear hst hI
              go_wp2_with fail
              go_ret
              exact ⟨ret_bool HST.out.symm, HB4.out.trans (hB.out.mono HB4.out.size)⟩

def smallF (m : Nat) (d : Dt) : Bool := decide (sizeF m d 40 ≤ 40) && shortF m d
set_option maxRecDepth 20000 in
theorem Small_run (m : Nat) (d : Dt) (A : Option Addr) (c : Nat) (A' : Option Addr) (c' : Nat) (w : World) (hp : Parts w w.heap.size m d A c A' c') :
    Calls Tryz.prog 7 #[datV d A c A' c'] w fun e w' => e = .returned (.bool (smallF m d)) ∧ Below w.heap.size w w' := by
  have HC := hide fun w' (hB : Below w.heap.size w w') => size_run m d A c A' c' 40 w' (by omega) (by omega) (hp.turn (Same.of_below hB) hB.size)
  have HC2 := hide fun w' (hB : Below w.heap.size w w') => short_run m d A c A' c' w' (hp.turn (Same.of_below hB) hB.size)
  unfold smallF
  obtain ⟨z, hz⟩ : ∃ z, z = sizeF m d 40 := ⟨_, rfl⟩
  rw [← hz] at HC ⊢
  obtain ⟨v, hv⟩ : ∃ z, z = shortF m d := ⟨_, rfl⟩
  rw [← hv] at HC2 ⊢
  obtain ⟨res, hres⟩ : ∃ r, r = (decide (z ≤ 40) && v) := ⟨_, rfl⟩
  rw [← hres]
  have HRES := Lib.hid hres
  clear hres
  unfold datV datCs at HC HC2
  unfold datV datCs
  obtain ⟨k, hk⟩ : ∃ k, k = kD d := ⟨_, rfl⟩
  obtain ⟨n, hn⟩ : ∃ k, k = nD d := ⟨_, rfl⟩
  obtain ⟨s, hs⟩ : ∃ k, k = sD d := ⟨_, rfl⟩
  obtain ⟨x, hx⟩ : ∃ k, k = (iD d).length := ⟨_, rfl⟩
  obtain ⟨y, hy⟩ : ∃ k, k = (mD d).length := ⟨_, rfl⟩
  rw [← hk, ← hn, ← hs, ← hx, ← hy] at HC HC2 ⊢
  clear hp hz hv hk hn hs hx hy
  go_enter Tryz.func7, Tryz.ntmps7
  go_upto_region 1 with fail
  obtain ⟨w1, g, e1, e2, hBL, c0, c1, c2, c3, c4, hROW⟩ := boxD w k n s (.slice A x c) (.slice A' y c')
  rw [e1, e2]
  have HBL := hide hBL; have HROW := hide hROW
  clear e1 e2 hBL hROW
  go_wp2_with fail
  refine (HC.out _ HBL.out).mono ?_; rintro e w2 ⟨rfl, hB2⟩
  have HB2 := hide (HBL.out.trans (hB2.mono HBL.out.size))
  obtain ⟨c0', c1', c2', c3', c4'⟩ := row5 (HROW.out.below hB2)
  clear c0 c1 c2 c3 c4 hB2 HROW HC HBL
  by_cases hz : z ≤ 40
  · have g1 : decide (z ≤ 40) = true := by simpa using hz
    have HZ := hide (show res = v by rw [HRES.out, g1]; rfl)
    go_wp2_with fail
    refine (HC2.out _ HB2.out).mono ?_; rintro e w3 ⟨rfl, hB3⟩
    have HB3 := hide (HB2.out.trans (hB3.mono HB2.out.size))
    clear hB3
    go_wp2_with fail
    go_ret
    exact ⟨ret_bool HZ.out.symm, HB3.out⟩
  · have g1 : decide (z ≤ 40) = false := by simpa using hz
    have HZ := hide (show res = false by rw [HRES.out, g1]; rfl)
    go_wp2_with fail
    go_ret
    exact ⟨ret_bool HZ.out.symm, HB2.out⟩
end Go.Proofs.YtmmbbndoimleaaaGreatDoor

/- measure, Depth and Size; depth, Depth and Size of the reference. -/
namespace Go.Proofs.YtmmbbndoimleaaaGreatDoor
open Go.RowKit

def maxL (f : Dt → Int) : List Dt → Int → Int
  | [], a => a
  | x :: l, a => maxL f l (max a (f x))
def sumL (f : Dt → Int) : List Dt → Int
  | [] => 0
  | x :: l => f x + sumL f l
/-- The levels, and the number of parts. -/
def heightF : Nat → Dt → Int
  | 0, _ => 0
  | m + 1, d => maxL (heightF m) (kids d) 0 + 1
def partsF : Nat → Dt → Int
  | 0, _ => 0
  | m + 1, d => 1 + sumL (partsF m) (kids d)
theorem sumL_nonneg (f : Dt → Int) (hf : ∀ x, 0 ≤ f x) : ∀ l : List Dt, 0 ≤ sumL f l
  | [] => by simp [sumL]
  | x :: l => by have := hf x; have := sumL_nonneg f hf l; unfold sumL; omega
theorem partsF_nonneg : ∀ (m : Nat) (d : Dt), 0 ≤ partsF m d
  | 0, _ => by simp [partsF]
  | m + 1, d => by have := sumL_nonneg (partsF m) (partsF_nonneg m) (kids d); unfold partsF; omega
theorem maxL_le (f g : Dt → Int) (hfg : ∀ x, f x ≤ g x) (hg : ∀ x, 0 ≤ g x) : ∀ (l : List Dt) (a : Int), 0 ≤ a → a ≤ maxL f l a ∧ maxL f l a ≤ a + sumL g l
  | [], a, h => by simp [maxL, sumL]
  | x :: l, a, h => by
    have h1 := hfg x; have h2 := hg x
    have h3 := maxL_le f g hfg hg l (max a (f x)) (by omega)
    unfold maxL sumL; omega
theorem heightF_le : ∀ (m : Nat) (d : Dt), 0 ≤ heightF m d ∧ heightF m d ≤ partsF m d
  | 0, _ => by simp [heightF, partsF]
  | m + 1, d => by
    have := maxL_le (heightF m) (partsF m) (fun x => (heightF_le m x).2) (partsF_nonneg m) (kids d) 0 (by omega)
    unfold heightF partsF; omega
theorem sumL_mem {f : Dt → Int} (hf : ∀ x, 0 ≤ f x) : ∀ {l : List Dt} {x : Dt}, x ∈ l → f x ≤ sumL f l
  | y :: l, x, h => by
    have h1 := hf y; have h2 := sumL_nonneg f hf l
    unfold sumL
    rcases List.mem_cons.1 h with rfl | h
    · omega
    · have := sumL_mem hf h; omega
theorem partsF_pos {w : World} {B : Nat} : ∀ {m : Nat} {d : Dt} {A c A' c'}, Parts w B m d A c A' c' → 1 ≤ partsF m d
  | 0, _, _, _, _, _, h => h.elim
  | m + 1, d, _, _, _, _, _ => by have := sumL_nonneg (partsF m) (partsF_nonneg m) (kids d); unfold partsF; omega
/-- What the parts of data read as. -/
theorem parts_kid {w : World} {B m : Nat} {d : Dt} {A c A' c'} (h : Parts w B (m + 1) d A c A' c') {x : Dt} (hx : x ∈ kids d) : ∃ a q a' q', Parts w B m x a q a' q' := by
  rcases List.mem_append.1 hx with hx | hx
  · obtain ⟨i, hi⟩ := List.getElem?_of_mem hx
    obtain ⟨ad, _, _, a, q, a', q', _, hp⟩ := h.2.1 i x hi
    exact ⟨a, q, a', q', hp⟩
  · obtain ⟨y, hy, rfl⟩ := List.mem_map.1 hx
    obtain ⟨i, hi⟩ := List.getElem?_of_mem hy
    obtain ⟨ad, _, _, _, a, q, a', q', _, hp⟩ := h.2.2 i y hi
    exact ⟨a, q, a', q', hp⟩
theorem length_le_sumL {f : Dt → Int} (l : List Dt) (hf : ∀ x ∈ l, 1 ≤ f x) : (l.length : Int) ≤ sumL f l := by
  induction l with
  | nil => simp [sumL]
  | cons x l ih =>
    have h1 := hf x (List.mem_cons_self ..)
    have h2 := ih fun y hy => hf y (List.mem_cons_of_mem _ hy)
    unfold sumL; rw [List.length_cons]; omega
theorem kids_le {w : World} {B m : Nat} {d : Dt} {A c A' c'} (h : Parts w B (m + 1) d A c A' c') : ((kids d).length : Int) + 1 ≤ partsF (m + 1) d := by
  have := length_le_sumL (f := partsF m) (kids d) fun x hx => by
    obtain ⟨a, q, a', q', hp⟩ := parts_kid h hx
    exact partsF_pos hp
  unfold partsF; omega
theorem parts_kid_le {m : Nat} {d x : Dt} (hx : x ∈ kids d) : partsF m x ≤ partsF (m + 1) d := by
  have := sumL_mem (partsF_nonneg m) hx
  show partsF m x ≤ 1 + sumL (partsF m) (kids d)
  omega
theorem fit_of_parts {w : World} {B : Nat} : ∀ (m : Nat) {d : Dt} {A c A' c'} (r : Nat), Parts w B m d A c A' c' → partsF m d ≤ 1000000000 → FitD r d
  | _, d, _, _, _, _, 0, _, _ => trivial
  | 0, d, _, _, _, _, r + 1, h, _ => h.elim
  | m + 1, d, A, c, A', c', r + 1, h, hle => by
    refine ⟨by have := kids_le h; omega, fun x hx => ?_⟩
    obtain ⟨a, q, a', q', hp⟩ := parts_kid h hx
    exact fit_of_parts m r hp (by have := parts_kid_le (m := m) hx; omega)

end Go.Proofs.YtmmbbndoimleaaaGreatDoor

/- cmp.Compare, cmp.Or; Num and Str of the reference. -/
namespace Go.Proofs.YtmmbbndoimleaaaGreatDoor
open Go.RowKit

def cmpI (a b : Int) : Int := if a < b then -1 else if b < a then 1 else 0
def gtB (a b : ByteArray) : Bool := !(Op.bytesLess a.toList b.toList || a.toList == b.toList)
def cmpS (a b : ByteArray) : Int := if Op.bytesLess a.toList b.toList = true then -1 else if gtB a b = true then 1 else 0

theorem cmpStr_run (a b : ByteArray) (w : World) : Calls Tryz.prog 71 #[.string a, .string b] w fun e w' => e = .returned (.int .i64 (cmpS a b)) ∧ w' = w := by
  obtain ⟨r, hr⟩ : ∃ r, r = cmpS a b := ⟨_, rfl⟩
  rw [← hr]
  unfold cmpS at hr
  have HR := Lib.hid hr
  clear hr
  go_enter Tryz.func71, Tryz.ntmps71
  cases hl : Op.bytesLess a.toList b.toList with
  | true =>
    go_wp2
    go_ret
    exact ⟨ret_int (by rw [HR.out, hl]; rfl), rfl⟩
  | false =>
    cases he : (a.toList == b.toList) with
    | true =>
      have HZ := hide (show r = 0 by rw [HR.out, hl, gtB, hl, he]; rfl)
      go_wp2
      go_ret
      exact ⟨ret_int HZ.out.symm, rfl⟩
    | false =>
      have HZ := hide (show r = 1 by rw [HR.out, hl, gtB, hl, he]; rfl)
      go_wp2
      go_ret
      exact ⟨ret_int HZ.out.symm, rfl⟩
def orI (a b : Int) : Int := if a = 0 then b else a
end Go.Proofs.YtmmbbndoimleaaaGreatDoor

/- slices.CompareFunc over data and over members. -/
namespace Go.Proofs.YtmmbbndoimleaaaGreatDoor
open Go.RowKit

def cmpL {α : Type} (f : α → α → Int) : List α → List α → Int
  | [], [] => 0
  | [], _ :: _ => -1
  | _ :: _, [] => 1
  | x :: l, y :: k => if f x y = 0 then cmpL f l k else f x y

/-- A member is laid into a new block. -/
def memCs (x : ByteArray × Dt) (A : Option Addr) (c : Nat) (A' : Option Addr) (c' : Nat) : List Value := .string x.1 :: datCs x.2 A c A' c'
def memV (x : ByteArray × Dt) (A : Option Addr) (c : Nat) (A' : Option Addr) (c' : Nat) : Value := .agg (memCs x A c A' c').toArray
theorem boxM (w : World) (x : ByteArray × Dt) (A : Option Addr) (c : Nat) (A' : Option Addr) (c' : Nat) : ∃ w1 g, w.alloc (Obj.cells #[.string x.1, .int .i64 (kD x.2), .int .i64 (nD x.2), .string (sD x.2), .slice A (iD x.2).length c, .slice A' (mD x.2).length c'] 57) = w1 ∧ w.heap.size = g ∧ Below w.heap.size w w1 ∧
    Row w1 g 57 (memCs x A c A' c') := ⟨_, _, rfl, rfl, (Below.refl _ _).alloc (Nat.le_refl _) _, Row.new w _ _⟩
theorem row6 {w : World} {g : Nat} {t : TypeId} {x : ByteArray × Dt} {A : Option Addr} {c : Nat} {A' : Option Addr} {c' : Nat} (h : Row w g t (memCs x A c A' c')) :
    w.cell? ⟨g, 0, none⟩ = some (.string x.1) ∧ w.cell? ⟨g, 1, none⟩ = some (.int .i64 (kD x.2)) ∧ w.cell? ⟨g, 2, none⟩ = some (.int .i64 (nD x.2)) ∧ w.cell? ⟨g, 3, none⟩ = some (.string (sD x.2)) ∧
    w.cell? ⟨g, 4, none⟩ = some (.slice A (iD x.2).length c) ∧ w.cell? ⟨g, 5, none⟩ = some (.slice A' (mD x.2).length c') :=
  ⟨h.cell 0, h.cell 1, h.cell 2, h.cell 3, h.cell 4, h.cell 5⟩

end Go.Proofs.YtmmbbndoimleaaaGreatDoor

/- Sorting members: the row as a list, swaps. -/
namespace Go.Proofs.YtmmbbndoimleaaaGreatDoor
open Go.RowKit

/-- A member's six cells. -/
abbrev Mc := ByteArray × Dt × Option Addr × Nat × Option Addr × Nat
def mcs (e : Mc) : List Value := [.string e.1, .int .i64 (kD e.2.1), .int .i64 (nD e.2.1), .string (sD e.2.1), .slice e.2.2.1 (iD e.2.1).length e.2.2.2.1, .slice e.2.2.2.2.1 (mD e.2.1).length e.2.2.2.2.2]
def mcV (e : Mc) : Value := .agg (mcs e).toArray
/-- Block g holds the members, then whatever there is room for. -/
def SRow (w : World) (g : Nat) (L : List Mc) (rest : List Value) : Prop := Row w g 57 (L.flatMap mcs ++ rest)
theorem flat_len : ∀ L : List Mc, (L.flatMap mcs).length = L.length * 6
  | [] => rfl
  | e :: L => by rw [List.flatMap_cons, List.length_append, flat_len L, List.length_cons]; simp [mcs]; omega
theorem flat_get : ∀ (L : List Mc) (i : Nat) (h : i < L.length) (k : Nat), k < 6 → (L.flatMap mcs)[i * 6 + k]? = (mcs L[i])[k]?
  | e :: L, 0, _, k, hk => by
    rw [List.flatMap_cons, Nat.zero_mul, Nat.zero_add, List.getElem?_append_left (by simp [mcs]; omega)]; rfl
  | e :: L, i + 1, h, k, hk => by
    rw [List.flatMap_cons, List.getElem?_append_right (by simp [mcs]; omega)]
    have : (i + 1) * 6 + k - (mcs e).length = i * 6 + k := by simp [mcs]; omega
    rw [this, flat_get L i (by simpa using h) k hk]; rfl
theorem flat_set : ∀ (L : List Mc) (i : Nat) (_ : i < L.length) (e : Mc),
    ((((((L.flatMap mcs).set (i * 6) (.string e.1)).set (i * 6 + 1) (.int .i64 (kD e.2.1))).set (i * 6 + 2) (.int .i64 (nD e.2.1))).set (i * 6 + 3) (.string (sD e.2.1))).set (i * 6 + 4) (.slice e.2.2.1 (iD e.2.1).length e.2.2.2.1)).set (i * 6 + 5) (.slice e.2.2.2.2.1 (mD e.2.1).length e.2.2.2.2.2) = (L.set i e).flatMap mcs
  | o :: L, 0, _, e => by simp [mcs]
  | o :: L, i + 1, h, e => by
    have ih := flat_set L i (by simpa using h) e
    rw [List.set_cons_succ, List.flatMap_cons, List.flatMap_cons, ← ih]
    have e6 : (mcs o).length = 6 := rfl
    have st : ∀ (xs : List Value) (k : Nat) (u : Value), (mcs o ++ xs).set ((i + 1) * 6 + k) u = mcs o ++ xs.set (i * 6 + k) u := fun xs k u => by
      rw [List.set_append_right _ _ (by rw [e6]; omega), e6]; congr 2; omega
    have s0 := st (L.flatMap mcs) 0 (.string e.1)
    rw [Nat.add_zero, Nat.add_zero] at s0
    rw [s0, st, st, st, st, st]
    rfl
def six6 (w : World) (p : Addr) (e : Mc) : Prop :=
  w.cell? p = some (.string e.1) ∧ w.cell? ⟨p.block, p.off + 1, none⟩ = some (.int .i64 (kD e.2.1)) ∧ w.cell? ⟨p.block, p.off + 2, none⟩ = some (.int .i64 (nD e.2.1)) ∧ w.cell? ⟨p.block, p.off + 3, none⟩ = some (.string (sD e.2.1)) ∧ w.cell? ⟨p.block, p.off + 4, none⟩ = some (.slice e.2.2.1 (iD e.2.1).length e.2.2.2.1) ∧ w.cell? ⟨p.block, p.off + 5, none⟩ = some (.slice e.2.2.2.2.1 (mD e.2.1).length e.2.2.2.2.2)
def free6 (w : World) (p : Addr) : Prop :=
  w.frozen? p = false ∧ w.frozen? ⟨p.block, p.off + 1, none⟩ = false ∧ w.frozen? ⟨p.block, p.off + 2, none⟩ = false ∧ w.frozen? ⟨p.block, p.off + 3, none⟩ = false ∧
  w.frozen? ⟨p.block, p.off + 4, none⟩ = false ∧ w.frozen? ⟨p.block, p.off + 5, none⟩ = false
/-- Six stores. -/
def put6 (w : World) (p : Addr) (e : Mc) : World :=
  (((((w.setCell p (.string e.1)).setCell ⟨p.block, p.off + 1, none⟩ (.int .i64 (kD e.2.1))).setCell ⟨p.block, p.off + 2, none⟩ (.int .i64 (nD e.2.1))).setCell ⟨p.block, p.off + 3, none⟩ (.string (sD e.2.1))).setCell ⟨p.block, p.off + 4, none⟩ (.slice e.2.2.1 (iD e.2.1).length e.2.2.2.1)).setCell ⟨p.block, p.off + 5, none⟩ (.slice e.2.2.2.2.1 (mD e.2.1).length e.2.2.2.2.2)
section
variable {w : World} {g : Nat} {L : List Mc} {rest : List Value}
theorem SRow.cells (h : SRow w g L rest) {i : Nat} (hi : i < L.length) : six6 w ⟨g, i * 6, none⟩ L[i] := by
  have hc : ∀ k, k < 6 → w.cell? ⟨g, i * 6 + k, none⟩ = (mcs L[i])[k]? := fun k hk => by
    rw [Row.cell h, List.getElem?_append_left (by rw [flat_len]; omega), flat_get L i hi k hk]
  exact ⟨hc 0 (by omega), hc 1 (by omega), hc 2 (by omega), hc 3 (by omega), hc 4 (by omega), hc 5 (by omega)⟩
theorem SRow.free (h : SRow w g L rest) (j : Nat) : free6 w ⟨g, j, none⟩ := ⟨h.frozen _, h.frozen _, h.frozen _, h.frozen _, h.frozen _, h.frozen _⟩
theorem SRow.put (h : SRow w g L rest) {i : Nat} (hi : i < L.length) (e : Mc) : SRow (put6 w ⟨g, i * 6, none⟩ e) g (L.set i e) rest := by
  have h1 := (((((Row.set_ h (i * 6) (.string e.1)).set_ (i * 6 + 1) (.int .i64 (kD e.2.1))).set_ (i * 6 + 2) (.int .i64 (nD e.2.1))).set_ (i * 6 + 3) (.string (sD e.2.1))).set_ (i * 6 + 4) (.slice e.2.2.1 (iD e.2.1).length e.2.2.2.1)).set_ (i * 6 + 5) (.slice e.2.2.2.2.1 (mD e.2.1).length e.2.2.2.2.2)
  have fl := flat_len L
  rw [List.set_append_left _ _ (by omega), List.set_append_left _ _ (by rw [List.length_set]; omega), List.set_append_left _ _ (by rw [List.length_set, List.length_set]; omega),
    List.set_append_left _ _ (by rw [List.length_set, List.length_set, List.length_set]; omega), List.set_append_left _ _ (by rw [List.length_set, List.length_set, List.length_set, List.length_set]; omega),
    List.set_append_left _ _ (by rw [List.length_set, List.length_set, List.length_set, List.length_set, List.length_set]; omega), flat_set L i hi] at h1
  exact h1
theorem SRow.drewN (h : SRow w g L rest) (n : Nat) : SRow (w.drewN n) g L rest := h
theorem SRow.drew (h : SRow w g L rest) : SRow w.drew g L rest := h
theorem SRow.grown {w' : World} {row : Option Nat} (h : SRow w g L rest) (hb : w.grownBy w' row) (hg : some g ≠ row) : SRow w' g L rest := Row.grown h hb hg
theorem SRow.below {w' : World} (h : SRow w g L rest) (hb : Below w.heap.size w w') : SRow w' g L rest := Row.below h hb
theorem SRow.lt (h : SRow w g L rest) : g < w.heap.size := Row.lt h
end
theorem grown_put6 (w : World) (p : Addr) (e : Mc) : w.grownBy (put6 w p e) (some p.block) := by
  have h : ∀ (w : World) (q : Addr) (u : Value), q.block = p.block → w.grownBy (w.setCell q u) (some p.block) := fun w q u hq =>
    ⟨rfl, rfl, rfl, by show _ ≤ (Array.modify _ _ _).size; rw [Array.size_modify]; exact Nat.le_refl _, fun k _ hk => Below.heap_setCell _ _ _ k (fun e => hk (by rw [e, hq]))⟩
  unfold put6
  have h0 := h w p (.string e.1) rfl
  have h1 := h0.trans (h (w.setCell p (.string e.1)) ⟨p.block, p.off + 1, none⟩ (.int .i64 (kD e.2.1)) rfl)
  have h2 := h1.trans (h _ ⟨p.block, p.off + 2, none⟩ (.int .i64 (nD e.2.1)) rfl)
  have h3 := h2.trans (h _ ⟨p.block, p.off + 3, none⟩ (.string (sD e.2.1)) rfl)
  have h4 := h3.trans (h _ ⟨p.block, p.off + 4, none⟩ (.slice e.2.2.1 (iD e.2.1).length e.2.2.2.1) rfl)
  exact h4.trans (h _ ⟨p.block, p.off + 5, none⟩ (.slice e.2.2.2.2.1 (mD e.2.1).length e.2.2.2.2.2) rfl)
theorem grown_below {a w w' : World} {g B : Nat} (h : a.grownBy w (some g)) (hb : Below B w w') (hB : w.heap.size ≤ B) : a.grownBy w' (some g) := h.trans ⟨hb.os, hb.tape, hb.output, hb.size, fun k hk _ => hb.block k (by omega)⟩
theorem grown_refl (w : World) (r : Option Nat) : w.grownBy w r := ⟨rfl, rfl, rfl, Nat.le_refl _, fun _ _ _ => rfl⟩
theorem grown_drew {a w : World} {r : Option Nat} (h : a.grownBy w r) : a.grownBy w.drew r := ⟨h.os, h.tape, h.output, h.size, h.block⟩
theorem grown_drewN {a w : World} {r : Option Nat} (h : a.grownBy w r) (n : Nat) : a.grownBy (w.drewN n) r := ⟨h.os, h.tape, h.output, h.size, h.block⟩

/-- The swap of two members. -/
def swp (L : List Mc) (i j : Nat) : List Mc := match L[i]?, L[j]? with
  | some x, some y => (L.set i y).set j x
  | _, _ => L
def swapN (L : List Mc) (a b : Nat) : Nat → List Mc
  | 0 => L
  | n + 1 => swp (swapN L a b n) (a + n) (b + n)
theorem swp_length (L : List Mc) (i j : Nat) : (swp L i j).length = L.length := by
  unfold swp; split <;> simp
theorem swapN_length (L : List Mc) (a b : Nat) : ∀ n, (swapN L a b n).length = L.length
  | 0 => rfl
  | n + 1 => by rw [swapN, swp_length, swapN_length L a b n]
theorem swp_eq {L : List Mc} {i j : Nat} (hi : i < L.length) (hj : j < L.length) : swp L i j = (L.set i L[j]).set j L[i] := by
  unfold swp; rw [List.getElem?_eq_getElem hi, List.getElem?_eq_getElem hj]

theorem SRow.swp {w : World} {g : Nat} {L : List Mc} {rest : List Value} {i j : Nat} {X Y : Mc} (h : SRow w g L rest) (hi : i < L.length) (hj : j < L.length) (hX : X = L[i]) (hY : Y = L[j]) :
    SRow (put6 (put6 w ⟨g, i * 6, none⟩ Y) ⟨g, j * 6, none⟩ X) g (swp L i j) rest ∧ w.grownBy (put6 (put6 w ⟨g, i * 6, none⟩ Y) ⟨g, j * 6, none⟩ X) (some g) := by
  subst hX hY
  refine ⟨?_, (grown_put6 w ⟨g, i * 6, none⟩ _).trans (grown_put6 _ ⟨g, j * 6, none⟩ _)⟩
  rw [swp_eq hi hj]
  exact (h.put hi _).put (by rw [List.length_set]; exact hj) _

attribute [local go_sem] add_head
set_option maxRecDepth 100000 in
set_option maxHeartbeats 4000000 in
theorem swapRange_run (g cap : Nat) (L : List Mc) (rest : List Value) (a b n : Nat) (F : Value) (w : World) (h : SRow w g L rest) (hab : a + n ≤ b) (hb : b + n ≤ L.length) (hL : L.length ≤ 1000000000) :
    Calls Tryz.prog 127 #[.slice (some ⟨g, 0, none⟩) L.length cap, .int .i64 a, .int .i64 b, .int .i64 n, F] w fun e w' => e = .returned (.tuple #[]) ∧ SRow w' g (swapN L a b n) rest ∧ w.grownBy w' (some g) := by
  obtain ⟨N, hN⟩ : ∃ N, N = L.length := ⟨_, rfl⟩
  rw [← hN] at hb hL ⊢
  have HS := hide h; have HN := Lib.hid hN
  clear h hN
  go_enter Tryz.func127, Tryz.ntmps127
  go_wp2_with fail
  go_loopw [10] (fun iv wr => ∃ i : Nat, iv = .int .i64 i ∧ i ≤ n ∧ Hid (SRow wr g (swapN L a b i) rest) ∧ Hid (w.grownBy wr (some g))) (fun iv _ => n - (intOf iv).toNat)
  case atStart => exact ⟨0, rfl, Nat.zero_le _, HS, hide (grown_refl _ _)⟩
  case round =>
    clear HS
    obtain ⟨i, rfl, hi, hS, hG⟩ := hrel
    by_cases hlt : i < n
    · have hl := swapN_length L a b i
      rw [← HN.out] at hl
      have w1 : IntKind.i64.wrap ((a : Int) + (i : Int)) = ((a + i : Nat) : Int) := by rw [IntWalk.i64_in _ (by omega)]; omega
      have w2 : IntKind.i64.wrap ((b : Int) + (i : Int)) = ((b + i : Nat) : Int) := by rw [IntWalk.i64_in _ (by omega)]; omega
      obtain ⟨p, hp⟩ : ∃ p, p = a + i := ⟨_, rfl⟩
      obtain ⟨q, hq⟩ : ∃ p, p = b + i := ⟨_, rfl⟩
      have hpN : p < N := by omega
      have hqN : q < N := by omega
      have hpq : p < q := by omega
      have hpq2 : p * 6 + 6 ≤ q * 6 := by omega
      rw [← hp] at w1
      rw [← hq] at w2
      obtain ⟨X, hX⟩ : ∃ X, X = (swapN L a b i)[p]'(by omega) := ⟨_, rfl⟩
      obtain ⟨Y, hY⟩ : ∃ X, X = (swapN L a b i)[q]'(by omega) := ⟨_, rfl⟩
      have hx := hS.out.cells (i := p) (by omega)
      have hy := hS.out.cells (i := q) (by omega)
      rw [← hX] at hx
      rw [← hY] at hy
      have fx := hS.out.free (p * 6)
      have fy := hS.out.free (q * 6)
      have hsw := hS.out.swp (i := p) (j := q) (by omega) (by omega) hX hY
      have hgr := hG.out.trans hsw.2
      have hsw := hsw.1
      rw [show swp (swapN L a b i) p q = swapN L a b (i + 1) by rw [swapN, hp, hq]] at hsw
      dsimp only [put6] at hsw hgr
      have HSW := hide hsw.drew
      have HGR := hide (grown_drew hgr)
      clear hsw hgr
      obtain ⟨x0, x1, x2, x3, x4, x5⟩ := hx
      obtain ⟨y0, y1, y2, y3, y4, y5⟩ := hy
      obtain ⟨f0, f1, f2, f3, f4, f5⟩ := fx
      obtain ⟨k0, k1, k2, k3, k4, k5⟩ := fy
      clear hp hq hX hY hl hS hG
      go_wp2_with fail
      go_region
      all_goals go_wp2_with fail
      go_roundw
      case rel => exact ⟨i + 1, by go_num, by omega, HSW, HGR⟩
      case measure => simp [intOf]; omega
    · obtain rfl : n = i := by omega
      go_wp2_with fail
      go_end0
      exact ⟨rfl, hS.out, hG.out⟩
end Go.Proofs.YtmmbbndoimleaaaGreatDoor

/- Sorting members: the order of labels, and lists. -/
namespace Go.Proofs.YtmmbbndoimleaaaGreatDoor
open Go.RowKit

theorem bl_asymm : ∀ a b : List UInt8, Op.bytesLess a b = true → Op.bytesLess b a = false
  | [], [], h => by simp [Op.bytesLess] at h
  | [], _ :: _, _ => by simp [Op.bytesLess]
  | _ :: _, [], h => by simp [Op.bytesLess] at h
  | x :: a, y :: b, h => by
    have ih := bl_asymm a b
    simp only [Op.bytesLess, Bool.or_eq_true, decide_eq_true_eq, Bool.and_eq_true, beq_iff_eq, UInt8.lt_iff_toNat_lt] at h ⊢
    rcases h with h | ⟨rfl, h⟩
    · simp only [Bool.or_eq_false_iff, decide_eq_false_iff_not, Bool.and_eq_false_iff, beq_eq_false_iff_ne, ne_eq]
      exact ⟨by omega, .inl (fun e => by subst e; omega)⟩
    · simp [ih h]
theorem bl_trans : ∀ a b c : List UInt8, Op.bytesLess b a = false → Op.bytesLess c b = false → Op.bytesLess c a = false
  | [], _, c, _, _ => by cases c <;> simp [Op.bytesLess]
  | x :: a, [], _, h, _ => by simp [Op.bytesLess] at h
  | x :: a, y :: b, [], _, h => by simp [Op.bytesLess] at h
  | x :: a, y :: b, z :: c, h, h' => by
    have ih := bl_trans a b c
    simp only [Op.bytesLess, Bool.or_eq_false_iff, decide_eq_false_iff_not, Bool.and_eq_false_iff, beq_eq_false_iff_ne, ne_eq, UInt8.lt_iff_toNat_lt] at h h' ⊢
    obtain ⟨h1, h2⟩ := h
    obtain ⟨h3, h4⟩ := h'
    refine ⟨by omega, ?_⟩
    by_cases e : z = x
    · subst e
      have : y = z := UInt8.toNat_inj.1 (by omega)
      subst this
      exact .inr (ih (by simpa using h2) (by simpa using h4))
    · exact .inl e
/-- The one label is not behind the other. -/
def leL (x y : Mc) : Prop := ltB y.1 x.1 = false
theorem leL_trans {x y z : Mc} (h : leL x y) (h' : leL y z) : leL x z := bl_trans _ _ _ h h'
theorem leL_of_lt {x y : Mc} (h : ltB x.1 y.1 = true) : leL x y := bl_asymm _ _ h
def Srt (l : List Mc) : Prop := l.Pairwise leL
theorem srt_append {a b : List Mc} (ha : Srt a) (hb : Srt b) (h : a = [] ∨ b = [] ∨ ∃ x y, a.getLast? = some x ∧ b.head? = some y ∧ leL x y) : Srt (a ++ b) := by
  refine List.pairwise_append.2 ⟨ha, hb, fun u hu v hv => ?_⟩
  rcases h with rfl | rfl | ⟨x, y, hx, hy, hxy⟩
  · cases hu
  · cases hv
  · have h1 : leL u x ∨ u = x := by
      obtain ⟨a', rfl⟩ : ∃ a', a = a' ++ [x] := List.getLast?_eq_some_iff.1 hx
      rcases List.mem_append.1 hu with h | h
      · exact .inl ((List.pairwise_append.1 ha).2.2 u h x (by simp))
      · exact .inr (by simpa using h)
    have h2 : leL y v ∨ y = v := by
      cases b with
      | nil => cases hv
      | cons z b =>
        simp at hy; subst hy
        rcases List.mem_cons.1 hv with h | h
        · exact .inr h.symm
        · exact .inl ((List.pairwise_cons.1 hb).1 v h)
    rcases h1 with h1 | rfl
    · rcases h2 with h2 | rfl
      · exact leL_trans (leL_trans h1 hxy) h2
      · exact leL_trans h1 hxy
    · rcases h2 with h2 | rfl
      · exact leL_trans hxy h2
      · exact hxy
theorem srt_left {a b : List Mc} (h : Srt (a ++ b)) : Srt a := (List.pairwise_append.1 h).1
theorem srt_right {a b : List Mc} (h : Srt (a ++ b)) : Srt b := (List.pairwise_append.1 h).2.1

theorem swp_mid (A B C : List Mc) (x z : Mc) (i j : Nat) (hi : i = A.length) (hj : j = A.length + 1 + B.length) : swp (A ++ x :: (B ++ z :: C)) i j = A ++ z :: (B ++ x :: C) := by
  subst hi hj
  have h1 : (A ++ x :: (B ++ z :: C))[A.length]? = some x := by simp
  have h2 : (A ++ x :: (B ++ z :: C))[A.length + 1 + B.length]? = some z := by
    rw [List.getElem?_append_right (by omega), show A.length + 1 + B.length - A.length = B.length + 1 by omega]; simp
  unfold swp
  rw [h1, h2]
  dsimp only
  rw [List.set_append_right _ _ (Nat.le_refl _), Nat.sub_self, List.set_cons_zero, List.set_append_right _ _ (by omega), show A.length + 1 + B.length - A.length = B.length + 1 by omega, List.set_cons_succ,
    List.set_append_right _ _ (Nat.le_refl _), Nat.sub_self, List.set_cons_zero]
theorem swp_next (A C : List Mc) (x z : Mc) (i j : Nat) (hi : i = A.length) (hj : j = A.length + 1) : swp (A ++ x :: z :: C) i j = A ++ z :: x :: C := swp_mid A [] C x z i j hi (by simpa using hj)
theorem swp_back (A C : List Mc) (x z : Mc) (i j : Nat) (hi : i = A.length + 1) (hj : j = A.length) : swp (A ++ x :: z :: C) i j = A ++ z :: x :: C := by
  subst hi hj
  have h1 : (A ++ x :: z :: C)[A.length]? = some x := by simp
  have h2 : (A ++ x :: z :: C)[A.length + 1]? = some z := by rw [List.getElem?_append_right (by omega)]; simp
  unfold swp
  rw [h1, h2]
  dsimp only
  rw [List.set_append_right _ _ (by omega), show A.length + 1 - A.length = 1 by omega, List.set_cons_succ, List.set_cons_zero, List.set_append_right _ _ (Nat.le_refl _), Nat.sub_self, List.set_cons_zero]
theorem swapN_blocks (P Y S : List Mc) (n a b : Nat) (X Z : List Mc) (hX : X.length = n) (hZ : Z.length = n) (ha : a = P.length) (hb : b = P.length + n + Y.length) :
    ∀ k, k ≤ n → swapN (P ++ X ++ Y ++ Z ++ S) a b k = P ++ Z.take k ++ X.drop k ++ Y ++ X.take k ++ Z.drop k ++ S
  | 0, _ => by simp [swapN]
  | k + 1, hk => by
    rw [swapN, swapN_blocks P Y S n a b X Z hX hZ ha hb k (by omega)]
    have hx : X.drop k = X[k] :: X.drop (k + 1) := List.drop_eq_getElem_cons (by omega)
    have hz : Z.drop k = Z[k] :: Z.drop (k + 1) := List.drop_eq_getElem_cons (by omega)
    have hx2 : X.take (k + 1) = X.take k ++ [X[k]] := by rw [List.take_add_one, List.getElem?_eq_getElem (by omega)]; rfl
    have hz2 : Z.take (k + 1) = Z.take k ++ [Z[k]] := by rw [List.take_add_one, List.getElem?_eq_getElem (by omega)]; rfl
    have e1 : P ++ Z.take k ++ X.drop k ++ Y ++ X.take k ++ Z.drop k ++ S = (P ++ Z.take k) ++ X[k] :: ((X.drop (k + 1) ++ Y ++ X.take k) ++ Z[k] :: (Z.drop (k + 1) ++ S)) := by
      rw [hx, hz]
      simp only [List.append_assoc, List.cons_append]
    rw [e1, swp_mid _ _ _ _ _ _ _ (by simp; omega) (by simp; omega), hx2, hz2]
    simp only [List.append_assoc, List.cons_append, List.nil_append]
theorem swapN_block {L : List Mc} (P X Y Z S : List Mc) (n a b : Nat) (hL : L = P ++ X ++ Y ++ Z ++ S) (hX : X.length = n) (hZ : Z.length = n) (ha : a = P.length) (hb : b = P.length + n + Y.length) :
    swapN L a b n = P ++ Z ++ Y ++ X ++ S := by
  rw [hL, swapN_blocks P Y S n a b X Z hX hZ ha hb n (Nat.le_refl _), List.take_of_length_le (by omega), List.take_of_length_le (by omega), List.drop_eq_nil_of_le (by omega), List.drop_eq_nil_of_le (by omega)]
  simp
end Go.Proofs.YtmmbbndoimleaaaGreatDoor

/- Sorting members: rotate, the closure, the insertion sort. -/
namespace Go.Proofs.YtmmbbndoimleaaaGreatDoor
open Go.RowKit

theorem swapRange_at (g cap N : Nat) (L : List Mc) (rest : List Value) (P X Y Z S : List Mc) (a b n : Nat) (F : Value) (w : World) (h : SRow w g L rest) (hL : L = P ++ X ++ Y ++ Z ++ S) (hX : X.length = n) (hZ : Z.length = n) (ha : a = P.length) (hb : b = P.length + n + Y.length)
    (hN : N = L.length) (hl : L.length ≤ 1000000000) :
    Calls Tryz.prog 127 #[.slice (some ⟨g, 0, none⟩) N cap, .int .i64 a, .int .i64 b, .int .i64 n, F] w fun e w' => e = .returned (.tuple #[]) ∧ SRow w' g (P ++ Z ++ Y ++ X ++ S) rest ∧ w.grownBy w' (some g) := by
  rw [hN, ← swapN_block P X Y Z S n a b hL hX hZ ha hb]
  refine swapRange_run g cap L rest a b n F w h ?_ ?_ hl
  · omega
  · rw [hL]; simp only [List.length_append]; omega

theorem rot_case1 {P A B S : List Mc} (h : B.length < A.length) : ∃ X Y, A = X ++ Y ∧ X.length = B.length ∧ Y.length = A.length - B.length ∧ P ++ A ++ B ++ S = P ++ X ++ Y ++ B ++ S :=
  ⟨A.take B.length, A.drop B.length, (List.take_append_drop _ _).symm, by rw [List.length_take]; omega, List.length_drop .., by rw [List.append_assoc P (List.take _ _) (List.drop _ _), List.take_append_drop]⟩
theorem rot_case2 {P A B S : List Mc} (h : A.length < B.length) : ∃ Y Z, B = Y ++ Z ∧ Y.length = B.length - A.length ∧ Z.length = A.length ∧ P ++ A ++ B ++ S = P ++ A ++ Y ++ Z ++ S :=
  ⟨B.take (B.length - A.length), B.drop (B.length - A.length), (List.take_append_drop _ _).symm, by rw [List.length_take]; omega, by rw [List.length_drop]; omega, by rw [List.append_assoc (P ++ A) (List.take _ _) (List.drop _ _), List.take_append_drop]⟩

set_option maxRecDepth 100000 in
set_option maxHeartbeats 400000 in
theorem rotate_run (g cap N a m b : Nat) (P A B S : List Mc) (rest : List Value) (F : Value) (w : World) (h : SRow w g (P ++ A ++ B ++ S) rest) (hA : 0 < A.length) (hB : 0 < B.length) (ha : a = P.length) (hm : m = P.length + A.length) (hb : b = P.length + A.length + B.length)
    (hN : N = (P ++ A ++ B ++ S).length) (hl : N ≤ 1000000000) :
    Calls Tryz.prog 121 #[.slice (some ⟨g, 0, none⟩) N cap, .int .i64 a, .int .i64 m, .int .i64 b, F] w fun e w' => e = .returned (.tuple #[]) ∧ SRow w' g (P ++ B ++ A ++ S) rest ∧ w.grownBy w' (some g) := by
  have hlen : P.length + A.length + B.length + S.length = N := by rw [hN]; simp only [List.length_append]
  have HS := hide h
  obtain ⟨T, hT⟩ : ∃ T, T = P ++ B ++ A ++ S := ⟨_, rfl⟩
  have hTl : T.length = N := by rw [hT]; simp only [List.length_append]; omega
  have HST := hide (show ∃ P' A' B' S' : List Mc, A'.length = A.length ∧ B'.length = B.length ∧ 0 < A'.length ∧ 0 < B'.length ∧ P'.length + A'.length = m ∧ P' ++ B' ++ A' ++ S' = T ∧ SRow w g (P' ++ A' ++ B' ++ S') rest from
    ⟨P, A, B, S, rfl, rfl, hA, hB, by omega, hT.symm, h⟩)
  rw [← hT]
  have w1 : IntKind.i64.wrap ((m : Int) - (a : Int)) = ((A.length : Nat) : Int) := by rw [IntWalk.i64_in _ (by omega)]; omega
  have w2 : IntKind.i64.wrap ((b : Int) - (m : Int)) = ((B.length : Nat) : Int) := by rw [IntWalk.i64_in _ (by omega)]; omega
  obtain ⟨i, hi⟩ : ∃ i, i = A.length := ⟨_, rfl⟩
  obtain ⟨j, hj⟩ : ∃ i, i = B.length := ⟨_, rfl⟩
  rw [← hi] at w1 HST
  rw [← hj] at w2 HST
  clear h HS hT hN hm hA hB ha hb hlen hi hj
  go_enter Tryz.func121, Tryz.ntmps121
  go_wp2_with fail
  go_loopw [10, 11] (fun iv jv wr => ∃ i j : Nat, iv = .int .i64 i ∧ jv = .int .i64 j ∧ Hid (w.grownBy wr (some g)) ∧ Hid (∃ P' A' B' S' : List Mc, A'.length = i ∧ B'.length = j ∧ 0 < A'.length ∧ 0 < B'.length ∧ P'.length + A'.length = m ∧ P' ++ B' ++ A' ++ S' = T ∧ SRow wr g (P' ++ A' ++ B' ++ S') rest)) (fun iv jv _ => (intOf iv).toNat + (intOf jv).toNat)
  case atStart => exact ⟨i, j, rfl, rfl, hide (grown_refl _ _), HST⟩
  case round =>
    clear HST w1 w2
    obtain ⟨i, j, rfl, rfl, hG, hS⟩ := hrel
    obtain ⟨P', A', B', S', hi, hj, hA, hB, hm, hT, hS'⟩ := hS.out
    have hl2 : P'.length + B'.length + A'.length + S'.length = N := by rw [← hTl, ← hT]; simp only [List.length_append]
    have hNN : N = (P' ++ A' ++ B' ++ S').length := by simp only [List.length_append]; omega
    have him : i ≤ m := by omega
    have hmj : m + j ≤ N := by omega
    have hi0 : 0 < i := by omega
    have hj0 : 0 < j := by omega
    have e1 : IntKind.i64.wrap ((m : Int) - (i : Int)) = ((m - i : Nat) : Int) := by rw [IntWalk.i64_in _ (by omega)]; omega
    by_cases hij : i = j
    · subst hij
      have hc := swapRange_at g cap N _ rest P' A' [] B' S' (m - i) m i F wr hS' (by simp) hi (by omega) (by omega) (by simp; omega) hNN (by omega)
      rw [List.append_nil, hT] at hc
      have HC := hide hc
      have g1 : ((i : Int) != (i : Int)) = false := by simp
      clear hc hS hS' hT hNN hi hj hA hB hm hl2
      go_wp2_with fail
      refine HC.out.mono ?_; rintro e w3 ⟨rfl, hS3, hG3⟩
      go_wp2_with fail
      go_end0
      exact ⟨rfl, hS3, hG.out.trans hG3⟩
    · have g1 : ((i : Int) != (j : Int)) = true := by simp; omega
      by_cases hgt : j < i
      · have g2 : decide ((i : Int) > (j : Int)) = true := by simp; omega
        obtain ⟨X, Y, hXY, hX, hY, hL⟩ := rot_case1 (P := P') (A := A') (B := B') (S := S') (by omega)
        rw [hL] at hS' hNN
        have hc := swapRange_at g cap N _ rest P' X Y B' S' (m - i) m j F wr hS' rfl (by omega) hj (by omega) (by omega) hNN (by omega)
        have e2 : IntKind.i64.wrap ((i : Int) - (j : Int)) = ((i - j : Nat) : Int) := by rw [IntWalk.i64_in _ (by omega)]; omega
        have HC := hide hc
        have HT := hide (show P' ++ B' ++ X ++ Y ++ S' = T by rw [← hT, hXY]; simp)
        have hY0 : 0 < Y.length := by omega
        have hX0 : 0 < X.length := by omega
        have hP : (P' ++ B').length + Y.length = m := by rw [List.length_append]; omega
        have hYi : Y.length = i - j := by omega
        have hXj : X.length = j := by omega
        have HP := hide (And.intro hYi (And.intro hXj (And.intro hY0 (And.intro hX0 hP))))
        clear hc hS hS' hT hNN hi hj hA hB hm hl2 hL hXY hX hY hY0 hX0 hP hYi hXj
        go_wp2_with fail
        refine HC.out.mono ?_; rintro e w3 ⟨rfl, hS3, hG3⟩
        have HG3 := hide (hG.out.trans hG3)
        have HS3 := hide (show ∃ P' A' B' S' : List Mc, A'.length = i - j ∧ B'.length = j ∧ 0 < A'.length ∧ 0 < B'.length ∧ P'.length + A'.length = m ∧ P' ++ B' ++ A' ++ S' = T ∧ SRow w3 g (P' ++ A' ++ B' ++ S') rest from
          ⟨P' ++ B', Y, X, S', HP.out.1, HP.out.2.1, HP.out.2.2.1, HP.out.2.2.2.1, HP.out.2.2.2.2, HT.out, hS3⟩)
        clear hS3 hG3 HC HT HP
        go_wp2_with fail
        go_roundw
        case rel => exact ⟨i - j, j, rfl, rfl, HG3, HS3⟩
        case measure => simp [intOf]; omega
      · have g2 : decide ((i : Int) > (j : Int)) = false := by simp; omega
        obtain ⟨Y, Z, hYZ, hY, hZ, hL⟩ := rot_case2 (P := P') (A := A') (B := B') (S := S') (by omega)
        rw [hL] at hS' hNN
        have hc := swapRange_at g cap N _ rest P' A' Y Z S' (m - i) (m + j - i) i F wr hS' rfl hi (by omega) (by omega) (by omega) hNN (by omega)
        have e2 : IntKind.i64.wrap ((j : Int) - (i : Int)) = ((j - i : Nat) : Int) := by rw [IntWalk.i64_in _ (by omega)]; omega
        have e3 : IntKind.i64.wrap ((m : Int) + (j : Int)) = ((m + j : Nat) : Int) := by rw [IntWalk.i64_in _ (by omega)]; omega
        have e4 : IntKind.i64.wrap (((m + j : Nat) : Int) - (i : Int)) = ((m + j - i : Nat) : Int) := by rw [IntWalk.i64_in _ (by omega)]; omega
        obtain ⟨mj, hmj'⟩ : ∃ x, x = m + j := ⟨_, rfl⟩
        rw [← hmj'] at e3 e4 hc
        have HC := hide hc
        have HT := hide (show P' ++ Y ++ Z ++ (A' ++ S') = T by rw [← hT, hYZ]; simp)
        have hY0 : 0 < Y.length := by omega
        have hZ0 : 0 < Z.length := by omega
        have hP : P'.length + Z.length = m := by omega
        have hZi : Z.length = i := by omega
        have hYj : Y.length = j - i := by omega
        have HP := hide (And.intro hZi (And.intro hYj (And.intro hZ0 (And.intro hY0 hP))))
        clear hc hS hS' hT hNN hi hj hA hB hm hl2 hL hYZ hY hZ hY0 hZ0 hP hZi hYj hmj'
        go_wp2_with fail
        refine HC.out.mono ?_; rintro e w3 ⟨rfl, hS3, hG3⟩
        have HG3 := hide (hG.out.trans hG3)
        have HS3 := hide (show ∃ P' A' B' S' : List Mc, A'.length = i ∧ B'.length = j - i ∧ 0 < A'.length ∧ 0 < B'.length ∧ P'.length + A'.length = m ∧ P' ++ B' ++ A' ++ S' = T ∧ SRow w3 g (P' ++ A' ++ B' ++ S') rest from
          ⟨P', Z, Y, A' ++ S', HP.out.1, HP.out.2.1, HP.out.2.2.1, HP.out.2.2.2.1, HP.out.2.2.2.2, HT.out, by simpa using hS3⟩)
        clear hS3 hG3 HC HT HP
        go_wp2_with fail
        go_roundw
        case rel => exact ⟨i, j - i, rfl, rfl, HG3, HS3⟩
        case measure => simp [intOf]; omega
end Go.Proofs.YtmmbbndoimleaaaGreatDoor

/- compare: the closure over members, and compare itself. -/
namespace Go.Proofs.YtmmbbndoimleaaaGreatDoor
open Go.RowKit

def compM (f : Dt → Dt → Int) (x y : ByteArray × Dt) : Int := orI (cmpS x.1 y.1) (f x.2 y.2)

def compF : Nat → Dt → Dt → Int
  | 0, _, _ => 0
  | m + 1, d, e => if kD d = kD e then (if orI (cmpI (nD d) (nD e)) (cmpS (sD d) (sD e)) = 0 then orI (cmpL (compF m) (iD d) (iD e)) (cmpL (compM (compF m)) (mD d) (mD e)) else orI (cmpI (nD d) (nD e)) (cmpS (sD d) (sD e))) else cmpI (kD d) (kD e)

end Go.Proofs.YtmmbbndoimleaaaGreatDoor

/- Sorting members: the closure that compares labels. -/
namespace Go.Proofs.YtmmbbndoimleaaaGreatDoor
open Go.RowKit

theorem cmpS_lt {a b : ByteArray} (h : ltB a b = true) : cmpS a b = -1 := if_pos h
theorem cmpS_ge {a b : ByteArray} (h : ltB a b = false) : 0 ≤ cmpS a b := by
  have e : cmpS a b = if gtB a b = true then 1 else 0 := if_neg (by unfold ltB at h; simp [h])
  rw [e]; split <;> omega

set_option maxRecDepth 20000 in
set_option maxHeartbeats 1000000 in
theorem lab_run (x y : Mc) (w : World) : Calls Tryz.prog 70 #[mcV x, mcV y] w fun e w' => e = .returned (.int .i64 (cmpS x.1 y.1)) ∧ Below w.heap.size w w' := by
  obtain ⟨X, d, a, q, a', q'⟩ := x
  obtain ⟨Y, d2, b, p, b', p'⟩ := y
  unfold mcV mcs
  dsimp only
  obtain ⟨r1, hr1⟩ : ∃ r, r = cmpS X Y := ⟨_, rfl⟩
  rw [← hr1]
  have HST := hide fun w => cmpStr_run X Y w
  rw [← hr1] at HST
  clear hr1
  go_enter Tryz.func70, Tryz.ntmps70
  go_upto_region 1 with fail
  obtain ⟨w1, g1, e1, e2, hB1, hR1⟩ := boxM w (X, d) a q a' q'
  obtain ⟨w2, g2, e3, e4, hB2, hR2⟩ := boxM w1 (Y, d2) b p b' p'
  have e5 : g1 + 1 = g2 := by rw [← e4, ← e1, ← e2]; simp
  dsimp only at e1 e3
  rw [e1, e2, e3, e5]
  have HBL := hide (hB1.trans (hB2.mono hB1.size))
  obtain ⟨s0, _⟩ := row6 (hR1.below hB2)
  obtain ⟨t0, _⟩ := row6 hR2
  dsimp only at s0 t0
  clear e1 e2 e3 e4 e5 hB1 hB2 hR1 hR2
  go_wp2_with fail
  refine (HST.out _).mono ?_; rintro e w3 ⟨rfl, rfl⟩
  go_wp2_with fail
  go_ret
  exact ⟨rfl, HBL.out⟩
end Go.Proofs.YtmmbbndoimleaaaGreatDoor

/- Stable sorting by labels, as plain lists: the sorted list with the same order of equal labels is one alone. -/
namespace Go.Proofs.YtmmbbndoimleaaaGreatDoor
open Go.RowKit

theorem bl_irr : ∀ a : List UInt8, Op.bytesLess a a = false
  | [] => rfl
  | x :: a => by simp [Op.bytesLess, bl_irr a]
theorem bl_antisymm : ∀ a b : List UInt8, Op.bytesLess a b = false → Op.bytesLess b a = false → a = b
  | [], [], _, _ => rfl
  | [], _ :: _, h, _ => by simp [Op.bytesLess] at h
  | _ :: _, [], _, h => by simp [Op.bytesLess] at h
  | x :: a, y :: b, h, h' => by
    have ih := bl_antisymm a b
    simp only [Op.bytesLess, Bool.or_eq_false_iff, decide_eq_false_iff_not, Bool.and_eq_false_iff, beq_eq_false_iff_ne, ne_eq, UInt8.lt_iff_toNat_lt] at h h'
    have : x = y := UInt8.toNat_inj.1 (by omega)
    subst this
    rw [ih (by simpa using h.2) (by simpa using h'.2)]
theorem ltB_ne {a b : ByteArray} (h : ltB a b = true) : a ≠ b := by
  rintro rfl
  unfold ltB at h
  rw [bl_irr] at h
  cases h
theorem ba_toList (a : ByteArray) : a.toList = a.data.toList := ByteArray.toList_eq a
theorem ltB_antisymm {a b : ByteArray} (h : ltB a b = false) (h' : ltB b a = false) : a = b := by
  have e := bl_antisymm _ _ h h'
  rw [ba_toList, ba_toList] at e
  cases a; cases b
  simp at e
  exact congrArg _ e

section
variable {α : Type} (k : α → ByteArray)
def filK (s : ByteArray) (l : List α) : List α := l.filter fun e => decide (k e = s)
/-- Members of equal labels stand in the same order. -/
def StaK (C M : List α) : Prop := ∀ s, filK k s C = filK k s M
def leK (x y : α) : Prop := ltB (k y) (k x) = false
def SrtK (l : List α) : Prop := l.Pairwise (leK k)
variable {k}
theorem filK_append (s : ByteArray) (a b : List α) : filK k s (a ++ b) = filK k s a ++ filK k s b := List.filter_append ..
theorem filK_nil_of {s : ByteArray} {l : List α} (h : ∀ x ∈ l, k x ≠ s) : filK k s l = [] := by
  unfold filK; rw [List.filter_eq_nil_iff]; intro x hx; simpa using h x hx
theorem StaK.refl (l : List α) : StaK k l l := fun _ => rfl
theorem StaK.trans {a b c : List α} (h : StaK k a b) (h' : StaK k b c) : StaK k a c := fun s => (h s).trans (h' s)
theorem StaK.symm {a b : List α} (h : StaK k a b) : StaK k b a := fun s => (h s).symm
theorem StaK.append {a b c d : List α} (h : StaK k a b) (h' : StaK k c d) : StaK k (a ++ c) (b ++ d) := fun s => by rw [filK_append, filK_append, h s, h' s]
theorem StaK.flip {A B : List α} (h : ∀ x ∈ A, ∀ y ∈ B, k x ≠ k y) : StaK k (B ++ A) (A ++ B) := fun s => by
  rw [filK_append, filK_append]
  by_cases hA : ∃ x ∈ A, k x = s
  · obtain ⟨x, hx, rfl⟩ := hA
    rw [filK_nil_of (l := B) fun y hy e => h x hx y hy e.symm]; simp
  · rw [filK_nil_of (l := A) fun x hx e => hA ⟨x, hx, e⟩]; simp
theorem StaK.mem {a b : List α} (h : StaK k a b) {x : α} (hx : x ∈ a) : x ∈ b := by
  have : x ∈ filK k (k x) a := List.mem_filter.2 ⟨hx, by simp⟩
  rw [h] at this
  exact (List.mem_filter.1 this).1
theorem StaK.map {β : Type} {k' : β → ByteArray} (f : α → β) (hf : ∀ x, k' (f x) = k x) {a b : List α} (h : StaK k a b) : StaK k' (a.map f) (b.map f) := fun s => by
  have e : ∀ l : List α, filK k' s (l.map f) = (filK k s l).map f := fun l => by
    unfold filK; rw [List.filter_map]; congr 2; funext x; simp [hf]
  rw [e, e, h s]
theorem SrtK.map {β : Type} {k' : β → ByteArray} (f : α → β) (hf : ∀ x, k' (f x) = k x) {a : List α} (h : SrtK k a) : SrtK k' (a.map f) := by
  unfold SrtK
  rw [List.pairwise_map]
  exact h.imp fun h => by unfold leK; rw [hf, hf]; exact h
theorem leK_refl (x : α) : leK k x x := bl_irr _
theorem leK_trans {x y z : α} (h : leK k x y) (h' : leK k y z) : leK k x z := bl_trans _ _ _ h h'
theorem leK_of_lt {x y : α} (h : ltB (k x) (k y) = true) : leK k x y := bl_asymm _ _ h
theorem stable_unique : ∀ {C D : List α}, SrtK k C → SrtK k D → StaK k C D → C = D
  | [], [], _, _, _ => rfl
  | [], y :: D, _, _, h => by have := h.symm.mem (List.mem_cons_self ..); cases this
  | x :: C, [], _, _, h => by have := h.mem (List.mem_cons_self ..); cases this
  | x :: C, y :: D, hC, hD, h => by
    have h1 : leK k y x := by
      rcases List.mem_cons.1 (h.mem (List.mem_cons_self ..)) with e | e
      · rw [e]; exact leK_refl _
      · exact (List.pairwise_cons.1 hD).1 x e
    have h2 : leK k x y := by
      rcases List.mem_cons.1 (h.symm.mem (List.mem_cons_self ..)) with e | e
      · rw [e]; exact leK_refl _
      · exact (List.pairwise_cons.1 hC).1 y e
    have e : k x = k y := ltB_antisymm h1 h2
    have hs := h (k x)
    have ex : filK k (k x) (x :: C) = x :: filK k (k x) C := by unfold filK; rw [List.filter_cons_of_pos (by simp)]
    have ey : filK k (k x) (y :: D) = y :: filK k (k x) D := by unfold filK; rw [List.filter_cons_of_pos (by simp [e])]
    rw [ex, ey] at hs
    injection hs with hxy _
    subst hxy
    have h3 : StaK k C D := fun s => by
      have := h s
      unfold filK at this ⊢
      rw [List.filter_cons, List.filter_cons] at this
      split at this
      · injection this
      · exact this
    rw [stable_unique (List.pairwise_cons.1 hC).2 (List.pairwise_cons.1 hD).2 h3]

variable (k)
/-- Behind all whose labels are not greater. -/
def insK (m : α) : List α → List α
  | [] => [m]
  | x :: l => if ltB (k m) (k x) = true then m :: x :: l else x :: insK m l
def sortK (l : List α) : List α := l.foldl (fun acc m => insK k m acc) []
variable {k}
theorem insK_at (m : α) : ∀ l : List α, SrtK k l → ∃ a b, l = a ++ b ∧ insK k m l = a ++ m :: b ∧ (∀ x ∈ a, ltB (k m) (k x) = false) ∧ ∀ x ∈ b, ltB (k m) (k x) = true
  | [], _ => ⟨[], [], rfl, rfl, by simp, by simp⟩
  | x :: l, h => by
    by_cases hc : ltB (k m) (k x) = true
    · refine ⟨[], x :: l, rfl, by simp [insK, hc], by simp, fun y hy => ?_⟩
      rcases List.mem_cons.1 hy with rfl | hy
      · exact hc
      · have h1 : leK k x y := (List.pairwise_cons.1 h).1 y hy
        rcases Bool.eq_false_or_eq_true (ltB (k m) (k y)) with e | e
        · exact e
        · have : leK k x m := leK_trans (k := k) (x := x) (y := y) (z := m) h1 e
          unfold leK at this; rw [hc] at this; cases this
    · obtain ⟨a, b, e, e2, h1, h2⟩ := insK_at m l (List.pairwise_cons.1 h).2
      refine ⟨x :: a, b, by rw [e]; rfl, by simp [insK, hc, e2], fun y hy => ?_, h2⟩
      rcases List.mem_cons.1 hy with rfl | hy
      · simpa using hc
      · exact h1 y hy
theorem insK_srt (m : α) (l : List α) (h : SrtK k l) : SrtK k (insK k m l) ∧ StaK k (insK k m l) (l ++ [m]) := by
  obtain ⟨a, b, e, e2, h1, h2⟩ := insK_at m l h
  rw [e2]
  rw [e] at h ⊢
  constructor
  · have hab := List.pairwise_append.1 h
    refine List.pairwise_append.2 ⟨hab.1, List.pairwise_cons.2 ⟨fun y hy => leK_of_lt (h2 y hy), hab.2.1⟩, fun x hx y hy => ?_⟩
    rcases List.mem_cons.1 hy with rfl | hy
    · exact h1 x hx
    · exact hab.2.2 x hx y hy
  · have := (StaK.refl (k := k) a).append (StaK.flip (k := k) (A := b) (B := [m]) fun x hx y hy => by
      simp at hy; subst hy; exact (ltB_ne (h2 x hx)).symm)
    simpa using this
theorem sortK_from : ∀ (l acc : List α), SrtK k acc → SrtK k (l.foldl (fun acc m => insK k m acc) acc) ∧ StaK k (l.foldl (fun acc m => insK k m acc) acc) (acc ++ l)
  | [], acc, h => ⟨h, by simpa using StaK.refl acc⟩
  | x :: l, acc, h => by
    have h1 := insK_srt x acc h
    have h2 := sortK_from l (insK k x acc) h1.1
    refine ⟨h2.1, h2.2.trans ?_⟩
    have := h1.2.append (StaK.refl (k := k) l)
    simpa using this
theorem sortK_ok (l : List α) : SrtK k (sortK k l) ∧ StaK k (sortK k l) l := by
  have := sortK_from (k := k) l [] List.Pairwise.nil
  simpa [sortK] using this
theorem eq_sortK {C l : List α} (h : SrtK k C) (h' : StaK k C l) : C = sortK k l := stable_unique h (sortK_ok l).1 (h'.trans (sortK_ok l).2.symm)
theorem insK_length (m : α) : ∀ l : List α, (insK k m l).length = l.length + 1
  | [] => rfl
  | x :: l => by unfold insK; split <;> simp [insK_length m l]
theorem sortK_length (l : List α) : (sortK k l).length = l.length := by
  have : ∀ (l acc : List α), (l.foldl (fun acc m => insK k m acc) acc).length = acc.length + l.length := fun l => by
    induction l with
    | nil => intro acc; simp
    | cons x l ih => intro acc; rw [List.foldl_cons, ih, insK_length]; simp; omega
  simpa [sortK] using this l []
end
end Go.Proofs.YtmmbbndoimleaaaGreatDoor

/- Sorting members: the insertion sort. -/
namespace Go.Proofs.YtmmbbndoimleaaaGreatDoor
open Go.RowKit

def lab (e : Mc) : ByteArray := e.1
abbrev Sr (l : List Mc) : Prop := SrtK lab l
abbrev St (a b : List Mc) : Prop := StaK lab a b
/-- C is M, sorted stably. -/
def Sorted_ (C M : List Mc) : Prop := Sr C ∧ St C M ∧ C.length = M.length

theorem srt_put {C1 C2 : List Mc} {x : Mc} (h : Sr (C1 ++ C2)) (h1 : ∀ y ∈ C1, ltB x.1 y.1 = false) (h2 : ∀ y ∈ C2, ltB x.1 y.1 = true) : Sr (C1 ++ x :: C2) := by
  have hab := List.pairwise_append.1 h
  refine List.pairwise_append.2 ⟨hab.1, List.pairwise_cons.2 ⟨fun y hy => leK_of_lt (k := lab) (h2 y hy), hab.2.1⟩, fun u hu y hy => ?_⟩
  rcases List.mem_cons.1 hy with rfl | hy
  · exact h1 u hu
  · exact hab.2.2 u hu y hy
theorem sta_put {C1 C2 R M : List Mc} {x : Mc} (h : St (C1 ++ C2 ++ x :: R) M) (h2 : ∀ y ∈ C2, ltB x.1 y.1 = true) : St (C1 ++ x :: C2 ++ R) M := by
  have h3 : St (C1 ++ ([x] ++ C2) ++ R) (C1 ++ (C2 ++ [x]) ++ R) := ((StaK.refl C1).append (StaK.flip fun u hu v hv => by
    simp at hv; subst hv; exact (ltB_ne (h2 u hu)).symm)).append (StaK.refl R)
  have h4 := h3.trans (c := M) (by simpa using h)
  simpa using h4
/-- All of a sorted list are at most what its last is. -/
theorem last_le {C0 : List Mc} {y x : Mc} (h : Sr (C0 ++ [y])) (hx : ltB x.1 y.1 = false) : ∀ z ∈ C0 ++ [y], ltB x.1 z.1 = false := fun z hz => by
  rcases List.mem_append.1 hz with hz | hz
  · exact leK_trans (k := lab) ((List.pairwise_append.1 h).2.2 z hz y (by simp)) hx
  · simp at hz; subst hz; exact hx
theorem get_mid (A C : List Mc) (x : Mc) (i : Nat) (h : i = A.length) (hi : i < (A ++ x :: C).length) : (A ++ x :: C)[i] = x := by subst h; simp

theorem srt_left' {a b : List Mc} (h : Sr (a ++ b)) : Sr a := (List.pairwise_append.1 h).1

attribute [local go_sem] add_head
set_option maxRecDepth 100000 in
set_option maxHeartbeats 4000000 in
theorem insSort_run (g cap N a b : Nat) (P M S : List Mc) (rest : List Value) (w : World) (h : SRow w g (P ++ M ++ S) rest) (ha : a = P.length) (hb : b = P.length + M.length) (hN : N = (P ++ M ++ S).length) (hl : N ≤ 1000000000) :
    Calls Tryz.prog 107 #[.slice (some ⟨g, 0, none⟩) N cap, .int .i64 a, .int .i64 b, .func (.func 70) #[] #[]] w fun e w' => e = .returned (.tuple #[]) ∧ ∃ C, Sorted_ C M ∧ SRow w' g (P ++ C ++ S) rest ∧ w.grownBy w' (some g) := by
  have hlen : P.length + M.length + S.length = N := by rw [hN]; simp only [List.length_append]
  have hbN : b ≤ N := by omega
  have hab : a ≤ b := by omega
  have w0 : IntKind.i64.wrap ((a : Int) + 1) = ((a + 1 : Nat) : Int) := by rw [IntWalk.i64_in _ (by omega)]; omega
  replace ha := ha.symm
  rw [ha] at hb hlen
  replace hb := hb.symm
  cases M with
  | nil =>
    have HS := hide h
    obtain rfl : a = b := by simp at hb; omega
    clear h hN
    go_enter Tryz.func107, Tryz.ntmps107
    go_wp2_with fail
    go_loopw [8, 9] (fun iv _ wr => iv = .int .i64 ((a + 1 : Nat) : Int) ∧ wr = w) (fun _ _ _ => 0)
    case atStart => exact ⟨rfl, rfl⟩
    case round =>
      obtain ⟨rfl, rfl⟩ := hrel
      have g1 : decide (((a + 1 : Nat) : Int) < (a : Int)) = false := by simp; omega
      go_wp2_with fail
      go_end0
      exact ⟨rfl, [], ⟨List.Pairwise.nil, StaK.refl _, rfl⟩, HS.out, grown_refl _ _⟩
  | cons x0 M0 =>
    have HS := hide (show ∃ C R : List Mc, a + 1 = P.length + C.length ∧ 0 < C.length ∧ C.length + R.length = (x0 :: M0).length ∧ Sr C ∧ St (C ++ R) (x0 :: M0) ∧ SRow w g (P ++ C ++ R ++ S) rest from
      ⟨[x0], M0, by simp; omega, by simp, by simp; omega, List.pairwise_singleton .., StaK.refl _, by simpa using h⟩)
    have hab2 : a + 1 ≤ b := by simp at hb; omega
    obtain ⟨M, hM⟩ : ∃ M, M = x0 :: M0 := ⟨_, rfl⟩
    rw [← hM] at HS hb hlen ⊢
    clear h hN hM
    go_enter Tryz.func107, Tryz.ntmps107
    go_wp2_with fail
    go_loopw [8, 9] (fun iv _ wr => ∃ i : Nat, iv = .int .i64 i ∧ i ≤ b ∧ Hid (w.grownBy wr (some g)) ∧ Hid (∃ C R : List Mc, i = P.length + C.length ∧ 0 < C.length ∧ C.length + R.length = M.length ∧ Sr C ∧ St (C ++ R) M ∧ SRow wr g (P ++ C ++ R ++ S) rest)) (fun iv _ _ => b - (intOf iv).toNat)
    case atStart => exact ⟨a + 1, rfl, hab2, hide (grown_refl _ _), HS⟩
    case round =>
      clear HS
      obtain ⟨i, rfl, hi, hG, hI⟩ := hrel
      obtain ⟨C, R, hiC, hC0, hCR, hsr, hst, hrow⟩ := hI.out
      replace hiC := hiC.symm
      by_cases hlt : i < b
      · obtain ⟨x, R', rfl⟩ : ∃ x R', R = x :: R' := by
          cases R with
          | nil => simp at hCR; omega
          | cons x R' => exact ⟨x, R', rfl⟩
        simp only [List.length_cons] at hCR
        have hai : a ≤ i := by omega
        have HI2 := hide (show ∃ C1 C2 : List Mc, i = P.length + C1.length ∧ C1.length + C2.length = C.length ∧ Sr (C1 ++ C2) ∧ St (C1 ++ C2 ++ x :: R') M ∧ (∀ y ∈ C2, ltB x.1 y.1 = true) ∧ SRow wr g (P ++ C1 ++ x :: (C2 ++ R' ++ S)) rest from
          ⟨C, [], hiC.symm, by simp, by simpa using hsr, by simpa using hst, by simp, by simpa using hrow⟩)
        have w1 : IntKind.i64.wrap ((i : Int) + 1) = ((i + 1 : Nat) : Int) := by rw [IntWalk.i64_in _ (by omega)]; omega
        clear hI hrow hsr hst
        go_wp2_with fail
        go_loopw [9] (fun jv wj => ∃ j : Nat, jv = .int .i64 j ∧ j ≤ i ∧ a ≤ j ∧ Hid (w.grownBy wj (some g)) ∧ Hid (∃ C1 C2 : List Mc, j = P.length + C1.length ∧ C1.length + C2.length = C.length ∧ Sr (C1 ++ C2) ∧ St (C1 ++ C2 ++ x :: R') M ∧ (∀ y ∈ C2, ltB x.1 y.1 = true) ∧ SRow wj g (P ++ C1 ++ x :: (C2 ++ R' ++ S)) rest)) (fun jv _ => (intOf jv).toNat)
        case atStart => exact ⟨i, rfl, Nat.le_refl _, hai, hG, HI2⟩
        case round =>
          clear HI2 hG
          obtain ⟨j, rfl, hj, haj, hG, hI⟩ := hrel
          obtain ⟨C1, C2, hjC, hCC, hsr, hst, hx, hrow⟩ := hI.out
          rcases List.eq_nil_or_concat C1 with rfl | ⟨C0, y, rfl⟩
          · obtain rfl : j = a := by simp at hjC; omega
            have g1 : decide ((j : Int) > (j : Int)) = false := by simp
            have HE := hide (show ∃ C R : List Mc, i + 1 = P.length + C.length ∧ 0 < C.length ∧ C.length + R.length = M.length ∧ Sr C ∧ St (C ++ R) M ∧ SRow wr g (P ++ C ++ R ++ S) rest from
              ⟨x :: C2, R', by simp at hCC ⊢; omega, by simp, by simp at hCC ⊢; omega, srt_put (C1 := []) hsr (by simp) hx, sta_put (C1 := []) hst hx, by simpa using hrow⟩)
            clear hI hsr hst hx hrow hjC hiC hCC hCR
            go_wp2_with fail
            go_quiet (fail)
            go_wp2_with fail
            go_roundw
            case rel => exact ⟨i + 1, by go_num, by omega, hide (grown_drewN hG.out _), HE⟩
            case measure => simp [intOf]; omega
          · rw [List.concat_eq_append] at *
            have hjC2 : j = P.length + (C0.length + 1) := by simpa using hjC
            have hja : a < j := by omega
            have hjN : j < N := by omega
            have e1 : IntKind.i64.wrap ((j : Int) - 1) = ((j - 1 : Nat) : Int) := by rw [IntWalk.i64_in _ (by omega)]; omega
            obtain ⟨q, hq⟩ : ∃ q, q = j - 1 := ⟨_, rfl⟩
            rw [← hq] at e1
            have hqj : q < j := by omega
            have hqN : q < N := by omega
            have hqj6 : q * 6 + 6 ≤ j * 6 := by omega
            have g1 : decide ((j : Int) > (a : Int)) = true := by simp; omega
            have hL : P ++ (C0 ++ [y]) ++ x :: (C2 ++ R' ++ S) = (P ++ C0) ++ y :: x :: (C2 ++ R' ++ S) := by simp
            have hrow2 := hrow
            rw [hL] at hrow2
            have hy6 := hrow2.cells (i := q) (by simp; omega)
            rw [get_mid _ _ y q (by simp; omega)] at hy6
            have hx6 := hrow.cells (i := j) (by simp; omega)
            rw [get_mid _ _ x j (by simp; omega)] at hx6
            obtain ⟨z, hz⟩ : ∃ z, z = cmpS x.1 y.1 := ⟨_, rfl⟩
            have HC := hide fun w => lab_run x y w
            rw [← hz] at HC
            unfold mcV mcs at HC
            obtain ⟨L, hLd⟩ : ∃ L, L = (P ++ C0) ++ y :: x :: (C2 ++ R' ++ S) := ⟨_, rfl⟩
            have hLN : L.length = N := by rw [hLd]; simp at hCC ⊢; omega
            have hLY : y = L[q]'(by omega) := by
              subst hLd; exact (get_mid _ _ y q (by simp; omega) _).symm
            have hLX : x = L[j]'(by omega) := by
              subst hLd
              have := get_mid (P ++ C0 ++ [y]) (C2 ++ R' ++ S) x j (by simp; omega) (by simp at hCC ⊢; omega)
              simp only [List.append_assoc, List.cons_append, List.nil_append] at this ⊢
              exact this.symm
            have hLS : swp L j q = (P ++ C0) ++ x :: y :: (C2 ++ R' ++ S) := by
              subst hLd; exact swp_back (P ++ C0) (C2 ++ R' ++ S) y x j q (by simp; omega) (by simp; omega)
            rw [hL, ← hLd] at hrow
            have HSC := hide fun W (h : Below wr.heap.size wr W) => And.intro (hrow.below h) (grown_below hG.out h (Nat.le_refl _))
            have HLD := Lib.hid hLd
            have hxr := hx6
            obtain ⟨y0, y1, y2, y3, y4, y5⟩ := hy6
            obtain ⟨x0, x1, x2, x3, x4, x5⟩ := hx6
            by_cases hxy : ltB x.1 y.1 = true
            · have g2 : decide ((z : Int) < 0) = true := by rw [hz, cmpS_lt hxy]; rfl
              have HE := hide (show j - 1 = P.length + C0.length ∧ C0.length + (y :: C2).length = C.length ∧ Sr (C0 ++ y :: C2) ∧ St (C0 ++ y :: C2 ++ x :: R') M ∧ (∀ u ∈ y :: C2, ltB x.1 u.1 = true) from
                ⟨by omega, by simp at hCC ⊢; omega, by simpa using hsr, by simpa using hst, fun u hu => by
                  rcases List.mem_cons.1 hu with rfl | hu
                  · exact hxy
                  · exact hx u hu⟩)
              have HLS := hide hLS; have HLX := hide (show ∀ h : j < L.length, x = L[j] from fun _ => hLX); have HLY := hide (show ∀ h : q < L.length, y = L[q] from fun _ => hLY); have HQ := hide hq
              clear hI hsr hst hx hrow hrow2 hjC hiC hCC hCR hjC2 hL hz hG hq hLd hLX hLY hLS hxr
              go_wp2_with fail
              refine wp_region_still_tail 14 (by kernel_rfl) (by kernel_rfl) ?_
              simp only [List.take_succ_cons, List.take_zero, List.drop_succ_cons, List.drop_zero]
              repeat (first
                | still_step
                | (with_reducible refine wpStill_want ?_ (fun K hK => ?_); kernel_rfl; go_simp; refine hK _ ?_; clear hK K))
              refine wpStill_nil ?_
              go_wp2_with fail
              refine (HC.out _).mono ?_; rintro e w3 ⟨rfl, hB3⟩
              have hS3 := HSC.out _ ((Below.refl _ _).drew.trans hB3)
              have hy6 := hS3.1.cells (i := q) (by omega)
              have hx6 := hS3.1.cells (i := j) (by omega)
              rw [← HLY.out (by omega)] at hy6
              rw [← HLX.out (by omega)] at hx6
              have fy := hS3.1.free (q * 6)
              have fx := hS3.1.free (j * 6)
              have hsw := hS3.1.swp (i := j) (j := q) (by omega) (by omega) (HLX.out (by omega)) (HLY.out (by omega))
              have hgr := hS3.2.trans hsw.2
              have hsw := hsw.1
              rw [HLS.out] at hsw
              dsimp only [put6] at hsw hgr
              have HSW := hide hsw.drew
              have HGR := hide (grown_drew hgr)
              clear hsw hgr hS3 HSC HC hB3 y0 y1 y2 y3 y4 y5 x0 x1 x2 x3 x4 x5
              obtain ⟨y0, y1, y2, y3, y4, y5⟩ := hy6
              obtain ⟨x0, x1, x2, x3, x4, x5⟩ := hx6
              obtain ⟨f0, f1, f2, f3, f4, f5⟩ := fx
              obtain ⟨k0, k1, k2, k3, k4, k5⟩ := fy
              go_wp2_with fail
              go_region
              all_goals go_wp2_with fail
              all_goals
                go_roundw
                case rel => exact ⟨j - 1, by rw [HQ.out], by omega, by omega, HGR, hide ⟨C0, y :: C2, HE.out.1, HE.out.2.1, HE.out.2.2.1, HE.out.2.2.2.1, HE.out.2.2.2.2, by simpa using HSW.out⟩⟩
                case measure => simp [intOf]; omega
            · have hxy : ltB x.1 y.1 = false := by simpa using hxy
              have g2 : decide ((z : Int) < 0) = false := by rw [hz]; have := cmpS_ge hxy; simp; omega
              have hC1 := last_le (srt_left' hsr) hxy
              have HE := hide (show ∀ W, SRow W g L rest → ∃ C R : List Mc, i + 1 = P.length + C.length ∧ 0 < C.length ∧ C.length + R.length = M.length ∧ Sr C ∧ St (C ++ R) M ∧ SRow W g (P ++ C ++ R ++ S) rest from fun W hW =>
                ⟨(C0 ++ [y]) ++ x :: C2, R', by simp at hCC ⊢; omega, by simp; omega, by simp at hCC ⊢; omega, srt_put hsr hC1 hx, sta_put hst hx, by rw [hLd] at hW; simpa using hW⟩)
              clear hI hsr hst hx hrow hrow2 hjC hiC hCC hCR hjC2 hL hz hG hq hLd hLX hLY hLS hxr hC1
              go_wp2_with fail
              refine wp_region_still_tail 14 (by kernel_rfl) (by kernel_rfl) ?_
              simp only [List.take_succ_cons, List.take_zero, List.drop_succ_cons, List.drop_zero]
              repeat (first
                | still_step
                | (with_reducible refine wpStill_want ?_ (fun K hK => ?_); kernel_rfl; go_simp; refine hK _ ?_; clear hK K))
              refine wpStill_nil ?_
              go_wp2_with fail
              refine (HC.out _).mono ?_; rintro e w3 ⟨rfl, hB3⟩
              have hS3 := HSC.out _ ((Below.refl _ _).drew.trans hB3)
              have HS3 := hide (HE.out _ hS3.1)
              have HG3 := hide hS3.2
              clear hS3 HSC HC hB3 y0 y1 y2 y3 y4 y5 x0 x1 x2 x3 x4 x5
              go_wp2_with fail
              go_roundw
              case rel => exact ⟨i + 1, by go_num, by omega, HG3, HS3⟩
              case measure => simp [intOf]; omega
      · obtain rfl : i = b := by omega
        have hR : R = [] := List.eq_nil_of_length_eq_zero (by omega)
        subst hR
        have HE := hide (show ∃ C, Sorted_ C M ∧ SRow wr g (P ++ C ++ S) rest ∧ w.grownBy wr (some g) from ⟨C, ⟨hsr, by simpa using hst, by simpa using hCR⟩, by simpa using hrow, hG.out⟩)
        clear hI hsr hst hrow
        go_wp2_with fail
        go_end0
        exact ⟨rfl, HE.out⟩
end Go.Proofs.YtmmbbndoimleaaaGreatDoor

/- Sorting members: one member merged into a sorted list. -/
namespace Go.Proofs.YtmmbbndoimleaaaGreatDoor
open Go.RowKit

theorem srt_le {C1 C2 : List Mc} {x : Mc} (h : Sr (C1 ++ C2)) (h1 : ∀ y ∈ C1, leK lab y x) (h2 : ∀ y ∈ C2, leK lab x y) : Sr (C1 ++ x :: C2) := by
  have hab := List.pairwise_append.1 h
  refine List.pairwise_append.2 ⟨hab.1, List.pairwise_cons.2 ⟨h2, hab.2.1⟩, fun u hu y hy => ?_⟩
  rcases List.mem_cons.1 hy with rfl | hy
  · exact h1 u hu
  · exact hab.2.2 u hu y hy
theorem sr_at {B : List Mc} (h : Sr B) {s t : Nat} (hst : s ≤ t) (ht : t < B.length) : leK lab (B[s]'(by omega)) B[t] := by
  rcases Nat.lt_or_ge s t with h1 | h1
  · exact List.pairwise_iff_getElem.1 h s t (by omega) ht h1
  · obtain rfl : s = t := by omega
    exact leK_refl _
theorem lt_of_le_lt {x y z : Mc} (h : leK lab x y) (h' : ltB y.1 z.1 = true) : ltB x.1 z.1 = true := by
  rcases Bool.eq_false_or_eq_true (ltB x.1 z.1) with e | e
  · exact e
  · have : ltB y.1 z.1 = false := leK_trans (k := lab) (x := z) (y := x) (z := y) e h
    rw [this] at h'; cases h'
theorem lt_of_lt_le {x y z : Mc} (h : ltB x.1 y.1 = true) (h' : leK lab y z) : ltB x.1 z.1 = true := by
  rcases Bool.eq_false_or_eq_true (ltB x.1 z.1) with e | e
  · exact e
  · have : ltB x.1 y.1 = false := leK_trans (k := lab) (x := y) (y := z) (z := x) h' e
    rw [this] at h; cases h

theorem SRow.at_ {w : World} {g : Nat} {L : List Mc} {rest : List Value} (h : SRow w g L rest) {i : Nat} {e : Mc} (hi : L[i]? = some e) : six6 w ⟨g, i * 6, none⟩ e := by
  obtain ⟨h1, rfl⟩ := List.getElem?_eq_some_iff.1 hi
  exact h.cells h1
theorem SRow.swp_ {w : World} {g : Nat} {L : List Mc} {rest : List Value} {i j : Nat} {X Y : Mc} (h : SRow w g L rest) (hX : L[i]? = some X) (hY : L[j]? = some Y) :
    SRow (put6 (put6 w ⟨g, i * 6, none⟩ Y) ⟨g, j * 6, none⟩ X) g (Go.Proofs.YtmmbbndoimleaaaGreatDoor.swp L i j) rest ∧ w.grownBy (put6 (put6 w ⟨g, i * 6, none⟩ Y) ⟨g, j * 6, none⟩ X) (some g) := by
  obtain ⟨h1, rfl⟩ := List.getElem?_eq_some_iff.1 hX
  obtain ⟨h2, rfl⟩ := List.getElem?_eq_some_iff.1 hY
  exact h.swp h1 h2 rfl rfl
theorem at_mid {A C : List Mc} {x : Mc} {i : Nat} (h : A.length = i) : (A ++ x :: C)[i]? = some x := by subst h; simp
theorem at_two {A C : List Mc} {x y : Mc} {i : Nat} (h : A.length + 1 = i) : (A ++ x :: y :: C)[i]? = some y := by
  subst h; rw [List.getElem?_append_right (by omega), show A.length + 1 - A.length = 1 by omega]; rfl
theorem at_in {A B S : List Mc} {i t : Nat} (h : A.length + t = i) (ht : t < B.length) : (A ++ B ++ S)[i]? = some B[t] := by
  subst h
  rw [List.append_assoc, List.getElem?_append_right (by omega), List.getElem?_append_left (by omega), show A.length + t - A.length = t by omega, List.getElem?_eq_getElem ht]

attribute [local go_sem] add_head
set_option maxRecDepth 100000 in
set_option maxHeartbeats 4000000 in
/-- The list's first member is merged into the others. -/
theorem symFirst_run (g cap N a m b : Nat) (P : List Mc) (x : Mc) (B S : List Mc) (rest : List Value) (w : World) (h : SRow w g (P ++ x :: B ++ S) rest) (hB : 0 < B.length) (ha : P.length = a) (hm : a + 1 = m) (hb : m + B.length = b) (hN : (P ++ x :: B ++ S).length = N) (hl : N ≤ 1000000000) (hsB : Sr B) :
    Calls Tryz.prog 108 #[.slice (some ⟨g, 0, none⟩) N cap, .int .i64 a, .int .i64 m, .int .i64 b, .func (.func 70) #[] #[]] w fun e w' => e = .returned (.tuple #[]) ∧ ∃ C, Sorted_ C (x :: B) ∧ SRow w' g (P ++ C ++ S) rest ∧ w.grownBy w' (some g) := by
  have hlen : b + S.length = N := by rw [← hN]; simp; omega
  have hmb : m < b := by omega
  have w1 : IntKind.i64.wrap ((m : Int) - (a : Int)) = 1 := by rw [IntWalk.i64_in _ (by omega)]; omega
  have haN : a < N := by omega
  have HS := hide h
  clear h hN
  have HSB := hide hsB
  clear hsB
  go_enter Tryz.func108, Tryz.ntmps108
  go_wp2_with fail
  go_loopw [10, 11, 12] (fun iv jv _ wr => ∃ i j : Nat, iv = .int .i64 i ∧ jv = .int .i64 j ∧ m ≤ i ∧ i ≤ j ∧ j ≤ b ∧ Hid (SRow wr g (P ++ x :: B ++ S) rest) ∧ Hid (w.grownBy wr (some g)) ∧ Hid ((∀ t (h : t < B.length), m + t < i → ltB B[t].1 x.1 = true) ∧ (∀ t (h : t < B.length), j ≤ m + t → ltB B[t].1 x.1 = false))) (fun iv jv _ _ => (intOf jv).toNat - (intOf iv).toNat)
  case atStart => exact ⟨m, b, rfl, rfl, Nat.le_refl _, by omega, Nat.le_refl _, HS, hide (grown_refl _ _), hide ⟨fun t h h' => by omega, fun t h h' => by omega⟩⟩
  case round =>
    clear HS w1
    obtain ⟨i, j, rfl, rfl, hi, hij, hj, hR, hG, hI⟩ := hrel
    by_cases hlt : i < j
    · have e1 : IntKind.i64.wrap ((i : Int) + (j : Int)) = ((i + j : Nat) : Int) := by rw [IntWalk.i64_in _ (by omega)]; omega
      obtain ⟨c, hc⟩ : ∃ c, c = (i + j) / 2 := ⟨_, rfl⟩
      have e2 : ((i : Int) + (j : Int)) / 2 = (c : Int) := by omega
      have hic : i ≤ c := by omega
      have hcj : c < j := by omega
      have hcN : c < N := by omega
      have e3 : IntKind.i64.wrap ((c : Int) + 1) = ((c + 1 : Nat) : Int) := by rw [IntWalk.i64_in _ (by omega)]; omega
      obtain ⟨t, ht⟩ : ∃ t, c = m + t := ⟨c - m, by omega⟩
      have htB : t < B.length := by omega
      obtain ⟨y, hy⟩ : ∃ y, y = B[t] := ⟨_, rfl⟩
      have hx6 := hR.out.at_ (i := a) (e := x) (by simpa using at_mid (A := P) (C := B ++ S) ha)
      have hy6 := hR.out.at_ (i := c) (e := y) (by
        have := at_in (A := P ++ [x]) (B := B) (S := S) (i := c) (t := t) (by simp; omega) htB
        rw [hy, ← this]; simp)
      obtain ⟨z, hz⟩ : ∃ z, z = cmpS y.1 x.1 := ⟨_, rfl⟩
      have HC := hide fun w => lab_run y x w
      rw [← hz] at HC
      unfold mcV mcs at HC
      have HSC := hide fun W (h : Below wr.heap.size wr W) => And.intro (hide (hR.out.below h)) (hide (grown_below hG.out h (Nat.le_refl _)))
      obtain ⟨y0, y1, y2, y3, y4, y5⟩ := hy6
      obtain ⟨x0, x1, x2, x3, x4, x5⟩ := hx6
      have HT := hide (And.intro hc ht)
      clear hc ht
      by_cases hyx : ltB y.1 x.1 = true
      · have g2 : decide ((z : Int) < 0) = true := by rw [hz, cmpS_lt hyx]; rfl
        have HI := hide (show (∀ t (h : t < B.length), m + t < c + 1 → ltB B[t].1 x.1 = true) ∧ (∀ t (h : t < B.length), j ≤ m + t → ltB B[t].1 x.1 = false) from
          ⟨fun t' h' hc' => by
            have := HT.out.2
            exact lt_of_le_lt (sr_at HSB.out (s := t') (t := t) (by omega) htB) (by rw [← hy]; exact hyx), hI.out.2⟩)
        clear hI hz hG hR hy
        go_wp2_with fail
        refine wp_region_still_tail 9 (by kernel_rfl) (by kernel_rfl) ?_
        simp only [List.take_succ_cons, List.take_zero, List.drop_succ_cons, List.drop_zero]
        repeat (first
          | still_step
          | (with_reducible refine wpStill_want ?_ (fun K hK => ?_); kernel_rfl; go_simp; refine hK _ ?_; clear hK K))
        refine wpStill_nil ?_
        go_wp2_with fail
        refine (HC.out _).mono ?_; rintro e w3 ⟨rfl, hB3⟩
        obtain ⟨HS3, HG3⟩ := HSC.out _ ((Below.refl _ _).drew.trans hB3)
        clear HSC HC hB3 y0 y1 y2 y3 y4 y5 x0 x1 x2 x3 x4 x5
        go_wp2_with fail
        go_roundw
        case rel => exact ⟨c + 1, j, by go_num, rfl, by omega, by omega, hj, HS3, HG3, HI⟩
        case measure => simp [intOf]; omega
      · have hyx : ltB y.1 x.1 = false := by simpa using hyx
        have g2 : decide ((z : Int) < 0) = false := by rw [hz]; have := cmpS_ge hyx; simp; omega
        have HI := hide (show (∀ t (h : t < B.length), m + t < i → ltB B[t].1 x.1 = true) ∧ (∀ t (h : t < B.length), c ≤ m + t → ltB B[t].1 x.1 = false) from
          ⟨hI.out.1, fun t' h' hc' => by
            have := HT.out.2
            rcases Bool.eq_false_or_eq_true (ltB B[t'].1 x.1) with e | e
            · have := lt_of_le_lt (sr_at HSB.out (s := t) (t := t') (by omega) h') e
              rw [← hy, hyx] at this; cases this
            · exact e⟩)
        clear hI hz hG hR hy
        go_wp2_with fail
        refine wp_region_still_tail 9 (by kernel_rfl) (by kernel_rfl) ?_
        simp only [List.take_succ_cons, List.take_zero, List.drop_succ_cons, List.drop_zero]
        repeat (first
          | still_step
          | (with_reducible refine wpStill_want ?_ (fun K hK => ?_); kernel_rfl; go_simp; refine hK _ ?_; clear hK K))
        refine wpStill_nil ?_
        go_wp2_with fail
        refine (HC.out _).mono ?_; rintro e w3 ⟨rfl, hB3⟩
        obtain ⟨HS3, HG3⟩ := HSC.out _ ((Below.refl _ _).drew.trans hB3)
        clear HSC HC hB3 y0 y1 y2 y3 y4 y5 x0 x1 x2 x3 x4 x5
        go_wp2_with fail
        go_roundw
        case rel => exact ⟨i, c, rfl, rfl, hi, hic, by omega, HS3, HG3, HI⟩
        case measure => simp [intOf]; omega
    · obtain rfl : i = j := by omega
      obtain ⟨t, ht⟩ : ∃ t, i = m + t := ⟨i - m, by omega⟩
      obtain ⟨B1, hB1⟩ : ∃ l, l = B.take t := ⟨_, rfl⟩
      obtain ⟨B2, hB2⟩ : ∃ l, l = B.drop t := ⟨_, rfl⟩
      have hBB : B1 ++ B2 = B := by rw [hB1, hB2, List.take_append_drop]
      have htl : t ≤ B.length := by omega
      have hl1 : B1.length = t := by rw [hB1, List.length_take]; omega
      have hlo : ∀ y ∈ B1, ltB y.1 x.1 = true := fun y hy => by
        rw [hB1] at hy
        obtain ⟨s, hs, rfl⟩ := List.getElem_of_mem hy
        rw [List.length_take] at hs
        rw [List.getElem_take]
        exact hI.out.1 s (by omega) (by omega)
      have hhi : ∀ y ∈ B2, ltB y.1 x.1 = false := fun y hy => by
        rw [hB2] at hy
        obtain ⟨s, hs, rfl⟩ := List.getElem_of_mem hy
        rw [List.length_drop] at hs
        rw [List.getElem_drop]
        exact hI.out.2 (t + s) (by omega) (by omega)
      have HEND := hide (show Sorted_ (B1 ++ x :: B2) (x :: B) from
        ⟨srt_le (by rw [hBB]; exact HSB.out) (fun y hy => leK_of_lt (k := lab) (hlo y hy)) hhi, by
          have := (StaK.flip (k := lab) (A := [x]) (B := B1) fun u hu y hy => by simp at hu; subst hu; exact (ltB_ne (hlo y hy)).symm).append (StaK.refl B2)
          rw [← hBB]; simpa using this, by rw [← hBB]; simp; omega⟩)
      have e1 : IntKind.i64.wrap ((i : Int) - 1) = ((a + t : Nat) : Int) := by rw [IntWalk.i64_in _ (by omega)]; omega
      have HS1 := hide (show SRow wr g (P ++ (B1.take 0 ++ x :: B1.drop 0) ++ B2 ++ S) rest by rw [← hBB] at hR; simpa using hR.out)
      have htN : a + t < N := by omega
      obtain ⟨q, hq⟩ : ∃ q, q = a + t := ⟨_, rfl⟩
      rw [← hq] at e1 htN
      have haq : a ≤ q := by omega
      have HL := hide (show a + B1.length = q ∧ (P ++ B1 ++ B2 ++ S).length + 1 = N from ⟨by omega, by
        have := congrArg List.length hBB; simp at this ⊢; omega⟩)
      clear hR hI hB1 hB2 hBB hlo hhi ht hl1 hq htl
      go_wp2_with fail
      go_loopw [13] (fun kv wk => ∃ k : Nat, kv = .int .i64 k ∧ a ≤ k ∧ k ≤ q ∧ Hid (w.grownBy wk (some g)) ∧ Hid (SRow wk g (P ++ (B1.take (k - a) ++ x :: B1.drop (k - a)) ++ B2 ++ S) rest)) (fun kv _ => N - (intOf kv).toNat)
      case atStart => exact ⟨a, rfl, Nat.le_refl _, haq, hG, by rw [Nat.sub_self]; exact HS1⟩
      case round =>
        clear HS1 hG
        obtain ⟨k, rfl, hk, hkq, hG, hR⟩ := hrel
        by_cases hkl : k < q
        · have e3 : IntKind.i64.wrap ((k : Int) + 1) = ((k + 1 : Nat) : Int) := by rw [IntWalk.i64_in _ (by omega)]; omega
          obtain ⟨p, hp⟩ : ∃ p, p = k + 1 := ⟨_, rfl⟩
          have e4 : IntKind.i64.wrap ((k : Int) + 1) = ((p : Nat) : Int) := by rw [e3, hp]
          have hkp : k < p := by omega
          have hkp6 : k * 6 + 6 ≤ p * 6 := by omega
          have hkN : k < N := by omega
          have hpN : p < N := by omega
          obtain ⟨n, hn⟩ : ∃ n, n = k - a := ⟨_, rfl⟩
          have hn1 : n < B1.length := by have := HL.out.1; omega
          obtain ⟨y, hy⟩ : ∃ y, y = B1[n] := ⟨_, rfl⟩
          have hr := hR.out
          rw [← hn, drop_at hn1, ← hy, show P ++ (B1.take n ++ x :: y :: B1.drop (n + 1)) ++ B2 ++ S = (P ++ B1.take n) ++ x :: y :: (B1.drop (n + 1) ++ B2 ++ S) by simp] at hr
          have hAl : (P ++ B1.take n).length = k := by simp [List.length_take]; omega
          have hX := at_mid (A := P ++ B1.take n) (x := x) (C := y :: (B1.drop (n + 1) ++ B2 ++ S)) hAl
          have hY := at_two (A := P ++ B1.take n) (x := x) (y := y) (C := B1.drop (n + 1) ++ B2 ++ S) (i := p) (by rw [hAl, hp])
          have hsw := hr.swp_ hX hY
          have hx6 := hr.at_ hX
          have hy6 := hr.at_ hY
          rw [swp_next _ _ _ _ k p hAl.symm (by rw [hAl, hp]), show (P ++ B1.take n) ++ y :: x :: (B1.drop (n + 1) ++ B2 ++ S) = P ++ (B1.take (k + 1 - a) ++ x :: B1.drop (k + 1 - a)) ++ B2 ++ S by
            rw [show k + 1 - a = n + 1 by omega, List.take_add_one, List.getElem?_eq_getElem hn1, ← hy]; simp] at hsw
          have hgr := hG.out.trans hsw.2
          have hsw := hsw.1
          dsimp only [put6] at hsw hgr
          have HSW := hide hsw.drew
          have HGR := hide (grown_drew hgr)
          obtain ⟨f0, f1, f2, f3, f4, f5⟩ := hr.free (k * 6)
          obtain ⟨k0, k1, k2, k3, k4, k5⟩ := hr.free (p * 6)
          have HP := hide hp
          clear hsw hgr hr hX hY hAl hy hn1 hn hR hG hp e3
          obtain ⟨y0, y1, y2, y3, y4, y5⟩ := hy6
          obtain ⟨x0, x1, x2, x3, x4, x5⟩ := hx6
          go_wp2_with fail
          go_region
          all_goals go_wp2_with fail
          all_goals
            go_roundw
            case rel => exact ⟨k + 1, by rw [HP.out], by omega, by omega, HGR, HSW⟩
            case measure => simp [intOf]; have := HP.out; omega
        · obtain rfl : k = q := by omega
          have HE := hide (show SRow wr g (P ++ (B1 ++ x :: B2) ++ S) rest by
            have := hR.out
            rw [show k - a = B1.length by have := HL.out.1; omega, List.take_length, List.drop_length] at this
            simpa using this)
          clear hR
          go_wp2_with fail
          refine bodyPost_ret (results_none rfl _ _ _) rfl ?_
          exact ⟨rfl, _, HEND.out, HE.out, hG.out⟩
end Go.Proofs.YtmmbbndoimleaaaGreatDoor
