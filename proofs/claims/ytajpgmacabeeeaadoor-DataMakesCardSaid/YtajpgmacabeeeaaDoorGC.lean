/- Same; cmp.Compare, cmp.Or; Num and Str of the reference; slices.CompareFunc over data and over members; compare: the closure over members, and compare itself; Compare and Equal. -/
import Derived.Test.YtajpgmacabeeeaaDoorGB
import Derived.Test.YtajpgmacabeeeaaDoorGA

/- Same. -/
namespace Go.Proofs.YtajpgmacabeeeaaDoor
open Go.RowKit

def zipD (f : Dt → Dt → Bool) : List Dt → List Dt → Bool
  | x :: l, y :: k => f x y && zipD f l k
  | _, _ => true
def zipM (f : Dt → Dt → Bool) : List (ByteArray × Dt) → List (ByteArray × Dt) → Bool
  | x :: l, y :: k => (x.1.toList == y.1.toList) && f x.2 y.2 && zipM f l k
  | _, _ => true
def diffQ (k k' n n' : Int) (s s' : ByteArray) (x x' y y' : Nat) : Bool :=
  (k != k') || (n != n') || !(s.toList == s'.toList) || ((x : Int) != x') || ((y : Int) != y')
def sameF : Nat → Dt → Dt → Bool
  | 0, _, _ => true
  | m + 1, a, b => !diffQ (kD a) (kD b) (nD a) (nD b) (sD a) (sD b) (iD a).length (iD b).length (mD a).length (mD b).length && (zipD (sameF m) (iD a) (iD b) && zipM (sameF m) (mD a) (mD b))

set_option maxRecDepth 20000 in
set_option maxHeartbeats 4000000 in
theorem same_run : ∀ (m : Nat) (d : Dt) (A : Option Addr) (c : Nat) (A' : Option Addr) (c' : Nat) (e : Dt) (E : Option Addr) (f : Nat) (E' : Option Addr) (f' : Nat) (w : World), Parts w w.heap.size m d A c A' c' → Parts w w.heap.size m e E f E' f' →
    Calls Tryd.prog 19 #[datV d A c A' c', datV e E f E' f'] w fun r w' => r = .returned (.bool (sameF m d e)) ∧ Below w.heap.size w w' := by
  intro m
  induction m with
  | zero => intro d  A  c  A'  c'  e  E  f  E'  f'  w  hp  _; exact hp.elim
  | succ m ih =>
    intro d  A  c  A'  c'  e  E  f  E'  f'  w  hp  hp'
    obtain ⟨res, hres⟩ : ∃ k, k = sameF (m + 1) d e := ⟨_, rfl⟩
    rw [← hres]
    unfold sameF at hres
    unfold datV datCs
    obtain ⟨h1, h2, h3, h4⟩ := hp.lens
    have hm := maxLen_le h2; have hn := maxLen_le h4
    have HI := Lib.hid hp.2.1; have HM := Lib.hid hp.2.2
    obtain ⟨k, hk⟩ : ∃ k, k = kD d := ⟨_, rfl⟩
    obtain ⟨n, hnn⟩ : ∃ k, k = nD d := ⟨_, rfl⟩
    obtain ⟨s, hs⟩ : ∃ k, k = sD d := ⟨_, rfl⟩
    obtain ⟨IS, hIS⟩ : ∃ k, k = iD d := ⟨_, rfl⟩
    obtain ⟨MS, hMS⟩ : ∃ k, k = mD d := ⟨_, rfl⟩
    rw [← hk, ← hnn, ← hs, ← hIS, ← hMS] at hres
    rw [← hk, ← hnn, ← hs, ← hIS, ← hMS]
    rw [← hIS] at h1 HI
    rw [← hMS] at h3 HM
    obtain ⟨x, hx⟩ : ∃ k, k = IS.length := ⟨_, rfl⟩
    obtain ⟨y, hy⟩ : ∃ k, k = MS.length := ⟨_, rfl⟩
    rw [← hx, ← hy]
    rw [← hx] at h1
    rw [← hy] at h3
    rw [← hx, ← hy] at hres
    have HX := Lib.hid hx; have HY := Lib.hid hy
    clear hk hnn hs hx hy hIS hMS h2 h4
    obtain ⟨h12, h22, h32, h42⟩ := hp'.lens
    have hm2 := maxLen_le h22; have hn2 := maxLen_le h42
    have HI2 := Lib.hid hp'.2.1; have HM2 := Lib.hid hp'.2.2
    obtain ⟨k2, hk2⟩ : ∃ k, k = kD e := ⟨_, rfl⟩
    obtain ⟨n2, hnn2⟩ : ∃ k, k = nD e := ⟨_, rfl⟩
    obtain ⟨s2, hs2⟩ : ∃ k, k = sD e := ⟨_, rfl⟩
    obtain ⟨IS2, hIS2⟩ : ∃ k, k = iD e := ⟨_, rfl⟩
    obtain ⟨MS2, hMS2⟩ : ∃ k, k = mD e := ⟨_, rfl⟩
    rw [← hk2, ← hnn2, ← hs2, ← hIS2, ← hMS2] at hres
    rw [← hk2, ← hnn2, ← hs2, ← hIS2, ← hMS2]
    rw [← hIS2] at h12 HI2
    rw [← hMS2] at h32 HM2
    obtain ⟨x2, hx2⟩ : ∃ k, k = IS2.length := ⟨_, rfl⟩
    obtain ⟨y2, hy2⟩ : ∃ k, k = MS2.length := ⟨_, rfl⟩
    rw [← hx2, ← hy2]
    rw [← hx2] at h12
    rw [← hy2] at h32
    rw [← hx2, ← hy2] at hres
    have HX2 := Lib.hid hx2; have HY2 := Lib.hid hy2
    clear hk2 hnn2 hs2 hx2 hy2 hIS2 hMS2 h22 h42
    obtain ⟨q, hq⟩ : ∃ q, q = diffQ k k2 n n2 s s2 x x2 y y2 := ⟨_, rfl⟩
    rw [← hq] at hres
    unfold diffQ at hq
    have HRES := Lib.hid hres; have HQ := Lib.hid hq
    clear hres hq hp hp'
    go_enter Tryd.func19, Tryd.ntmps19
    go_upto_region 1 with fail
    obtain ⟨w1, g, e1, e2, hBL, _, _, _, _, _, hROW⟩ := boxD w k n s (.slice A x c) (.slice A' y c')
    obtain ⟨w2, g2, e3, e4, hBL2, _, _, _, _, _, hROW2⟩ := boxD w1 k2 n2 s2 (.slice E x2 f) (.slice E' y2 f')
    have e5 : g + 1 = g2 := by rw [← e4, ← e1, ← e2]; simp
    rw [e1, e2, e3, e5]
    have HBL := hide (hBL.trans (hBL2.mono hBL.size)); have HROW := hide (hROW.below hBL2); have HROW2 := hide hROW2
    clear e1 e2 e3 e4 e5 hBL hBL2 hROW hROW2
    rename_i z0 z1 z2 z3 z4 z5 z6 z7 z8 z9
    clear z0 z1 z2 z3 z4 z5 z6 z7 z8 z9
    obtain ⟨c0, c1, c2, c3, c4⟩ := row5 HROW.out
    obtain ⟨b0, b1, b2, b3, b4⟩ := row5 HROW2.out
    go_cut [43] from 7 to 42 (fun a wc => a = .bool q ∧ wc = w2)
    case first =>
      go_wp2_with fail
      all_goals
        subst_vars
        go_meet
        case rel =>
          refine ⟨?_, rfl⟩
          simp_all
    case rest =>
      obtain ⟨rfl, rfl⟩ := hcut
      obtain ⟨w2, rfl⟩ : ∃ we, we = wc := ⟨_, rfl⟩
      cases q with
      | true =>
        have HZ := hide (show res = false by rw [HRES.out]; rfl)
        go_wp2_with fail
        go_ret
        exact ⟨ret_bool HZ.out.symm, HBL.out⟩
      | false =>
        have hz : res = (zipD (sameF m) IS IS2 && zipM (sameF m) MS MS2) := by rw [HRES.out]; rfl
        have hqq := HQ.out.symm
        simp only [Bool.or_eq_false_iff] at hqq
        obtain ⟨⟨_, hxx⟩, hyy⟩ := hqq
        obtain rfl : x = x2 := Int.ofNat.inj (show (x : Int) = x2 by simpa using hxx)
        obtain rfl : y = y2 := Int.ofNat.inj (show (y : Int) = y2 by simpa using hyy)
        have HZ := Lib.hid hz
        clear hz HRES HQ hxx hyy
        go_wp2_with fail
        clear c0 c1 c2 c3 c4 b0 b1 b2 b3 b4
        go_loopw [5] (fun iv wr => ∃ i : Nat, iv = .int .i64 i ∧ i ≤ x ∧ Hid (res = (zipD (sameF m) (IS.drop i) (IS2.drop i) && zipM (sameF m) MS MS2)) ∧ Hid (Below w2.heap.size w2 wr)) (fun iv _ => x - (intOf iv).toNat)
        case atStart => exact ⟨0, rfl, Nat.zero_le _, HZ, hide (Below.refl _ _)⟩
        case round =>
          clear HZ
          obtain ⟨i, rfl, hi, hI, hB⟩ := hrel
          obtain ⟨c0, c1, c2, c3, c4⟩ := row5 (HROW.out.below hB.out)
          obtain ⟨b0, b1, b2, b3, b4⟩ := row5 (HROW2.out.below hB.out)
          by_cases hlt : i < x
          · have hl1 : i < IS.length := by rw [← HX.out]; exact hlt
            have hl2 : i < IS2.length := by rw [← HX2.out]; exact hlt
            obtain ⟨ad, rfl, hb, a, q, a', q', hfive, hpts⟩ := HI.out i _ (List.getElem?_eq_getElem hl1)
            obtain ⟨ad2, rfl, hb2, a2, q2, a2', q2', hfive2, hpts2⟩ := HI2.out i _ (List.getElem?_eq_getElem hl2)
            have hq := hI.out
            rw [drop_at hl1, drop_at hl2, zipD] at hq
            obtain ⟨X, hX⟩ : ∃ X, X = IS[i] := ⟨_, rfl⟩
            obtain ⟨X2, hX2⟩ : ∃ X, X = IS2[i] := ⟨_, rfl⟩
            rw [← hX] at hfive hpts hq
            rw [← hX2] at hfive2 hpts2 hq
            have hbb : (ad.add (i * 5)).block < w.heap.size := by rw [block_of_add]; exact hb
            have hbb2 : (ad2.add (i * 5)).block < w.heap.size := by rw [block_of_add]; exact hb2
            have hBB := HBL.out.trans (hB.out.mono HBL.out.size)
            obtain ⟨s0, s1, s2', s3, s4⟩ := hfive.same hbb (Same.of_below hBB)
            obtain ⟨t0, t1, t2, t3, t4⟩ := hfive2.same hbb2 (Same.of_below hBB)
            have HCK := hide (ih X a q a' q' X2 a2 q2 a2' q2' wr.drew (hpts.turn (Same.of_below hBB.drew) hBB.drew.size) (hpts2.turn (Same.of_below hBB.drew) hBB.drew.size))
            have HQ := Lib.hid hq
            clear hfive hpts hX hl1 hb hbb hfive2 hpts2 hX2 hl2 hb2 hbb2 hI hq hBB
            unfold datV datCs at HCK
            obtain ⟨z, hz⟩ : ∃ z, z = sameF m X X2 := ⟨_, rfl⟩
            rw [← hz] at HCK HQ
            clear hz
            go_wp2_with fail
            refine wp_region_still_tail 10 (by kernel_rfl) (by kernel_rfl) ?_
            simp only [List.take_succ_cons, List.take_zero, List.drop_succ_cons, List.drop_zero]
            repeat still_step
            refine wpStill_nil ?_
            go_wp2_with fail
            refine (unhide HCK).mono ?_; rintro r w4 ⟨rfl, hB4⟩
            have HB4 := hide (hB.out.drew.trans (hB4.mono hB.out.drew.size))
            clear hB4 HCK s0 s1 s2' s3 s4 t0 t1 t2 t3 t4 c0 c1 c2 c3 c4 b0 b1 b2 b3 b4
            cases z with
            | true =>
              have HQ2 := hide (show res = (zipD (sameF m) (IS.drop (i + 1)) (IS2.drop (i + 1)) && zipM (sameF m) MS MS2) by rw [HQ.out, Bool.true_and])
              go_wp2_with fail
              go_roundw
              case rel => exact ⟨i + 1, by go_num, by omega, HQ2, HB4⟩
              case measure => simp [intOf]; omega
            | false =>
              have HZ := hide (show res = false by rw [HQ.out]; rfl)
              go_wp2_with fail
              go_ret
              exact ⟨ret_bool HZ.out.symm, HBL.out.trans (HB4.out.mono HBL.out.size)⟩
          · have HZ := hide (show res = zipM (sameF m) (MS.drop 0) (MS2.drop 0) by rw [hI.out, List.drop_eq_nil_of_le (by rw [← HX.out]; omega)]; rfl)
            have HB4 := hide (HBL.out.trans (hB.out.mono HBL.out.size))
            have HROW4 := hide (HROW.out.below hB.out); have HROW5 := hide (HROW2.out.below hB.out)
            clear hI HROW HROW2 HBL hB
            obtain ⟨w4, rfl⟩ : ∃ w4, w4 = wr := ⟨_, rfl⟩
            go_wp2_with fail
            clear c0 c1 c2 c3 c4 b0 b1 b2 b3 b4
            go_loopw [6] (fun iv wr => ∃ i : Nat, iv = .int .i64 i ∧ i ≤ y ∧ Hid (res = zipM (sameF m) (MS.drop i) (MS2.drop i)) ∧ Hid (Below w4.heap.size w4 wr)) (fun iv _ => y - (intOf iv).toNat)
            case atStart => exact ⟨0, rfl, Nat.zero_le _, HZ, hide (Below.refl _ _)⟩
            case round =>
              clear HZ
              obtain ⟨i, rfl, hi, hI, hB⟩ := hrel
              obtain ⟨c0, c1, c2, c3, c4⟩ := row5 (HROW4.out.below hB.out)
              obtain ⟨b0, b1, b2, b3, b4⟩ := row5 (HROW5.out.below hB.out)
              by_cases hlt : i < y
              · have hl1 : i < MS.length := by rw [← HY.out]; exact hlt
                have hl2 : i < MS2.length := by rw [← HY2.out]; exact hlt
                obtain ⟨ad, rfl, hb, hlab, a, q, a', q', hfive, hpts⟩ := HM.out i _ (List.getElem?_eq_getElem hl1)
                obtain ⟨ad2, rfl, hb2, hlab2, a2, q2, a2', q2', hfive2, hpts2⟩ := HM2.out i _ (List.getElem?_eq_getElem hl2)
                have hq := hI.out
                rw [drop_at hl1, drop_at hl2, zipM] at hq
                obtain ⟨X, hX⟩ : ∃ X, X = MS[i] := ⟨_, rfl⟩
                obtain ⟨X2, hX2⟩ : ∃ X, X = MS2[i] := ⟨_, rfl⟩
                rw [← hX] at hfive hpts hq hlab
                rw [← hX2] at hfive2 hpts2 hq hlab2
                have hbb : (ad.add (i * 6)).block < w.heap.size := by rw [block_of_add]; exact hb
                have hbb2 : (ad2.add (i * 6)).block < w.heap.size := by rw [block_of_add]; exact hb2
                have hBB := HB4.out.trans (hB.out.mono HB4.out.size)
                obtain ⟨s0, s1, s2', s3, s4, s5⟩ := six_of ((hBB.cell (p := ad.add (i * 6)) hbb).trans hlab) (hfive.same (p := ⟨_, _, none⟩) hbb (Same.of_below hBB))
                obtain ⟨t0, t1, t2, t3, t4, t5⟩ := six_of ((hBB.cell (p := ad2.add (i * 6)) hbb2).trans hlab2) (hfive2.same (p := ⟨_, _, none⟩) hbb2 (Same.of_below hBB))
                have HCK := hide (ih X.2 a q a' q' X2.2 a2 q2 a2' q2' wr.drew (hpts.turn (Same.of_below hBB.drew) hBB.drew.size) (hpts2.turn (Same.of_below hBB.drew) hBB.drew.size))
                have HQ := Lib.hid hq
                clear hfive hpts hX hl1 hb hbb hlab hfive2 hpts2 hX2 hl2 hb2 hbb2 hlab2 hI hq hBB
                unfold datV datCs at HCK
                obtain ⟨z, hz⟩ : ∃ z, z = sameF m X.2 X2.2 := ⟨_, rfl⟩
                rw [← hz] at HCK HQ
                clear hz
                cases hlb : (X.1.toList == X2.1.toList) with
                | false =>
                  have HZ := hide (show res = false by rw [HQ.out, hlb]; rfl)
                  go_wp2_with fail
                  go_quiet (fail)
                  go_wp2_with fail
                  go_ret
                  exact ⟨ret_bool HZ.out.symm, below_drewN (HB4.out.trans (hB.out.mono HB4.out.size)) _⟩
                | true =>
                  have HQ1 := hide (show res = (z && zipM (sameF m) (MS.drop (i + 1)) (MS2.drop (i + 1))) by rw [HQ.out, hlb, Bool.true_and])
                  clear HQ
                  go_wp2_with fail
                  refine wp_region_still_tail 26 (by kernel_rfl) (by kernel_rfl) ?_
                  simp only [List.take_succ_cons, List.take_zero, List.drop_succ_cons, List.drop_zero]
                  repeat (first
                    | still_step
                    | (with_reducible refine wpStill_want ?_ (fun K hK => ?_); kernel_rfl; go_simp; refine hK _ ?_; clear hK K))
                  refine wpStill_nil ?_
                  go_wp2_with fail
                  refine (unhide HCK).mono ?_; rintro r w5 ⟨rfl, hB5⟩
                  have HB5 := hide (hB.out.drew.trans (hB5.mono hB.out.drew.size))
                  clear hB5 HCK s0 s1 s2' s3 s4 s5 t0 t1 t2 t3 t4 t5 c0 c1 c2 c3 c4 b0 b1 b2 b3 b4
                  cases z with
                  | true =>
                    have HQ2 := hide (show res = zipM (sameF m) (MS.drop (i + 1)) (MS2.drop (i + 1)) by rw [HQ1.out, Bool.true_and])
                    go_wp2_with fail
                    go_roundw
                    case rel => exact ⟨i + 1, by go_num, by omega, HQ2, HB5⟩
                    case measure => simp [intOf]; omega
                  | false =>
                    have HZ := hide (show res = false by rw [HQ1.out]; rfl)
                    go_wp2_with fail
                    go_ret
                    exact ⟨ret_bool HZ.out.symm, HB4.out.trans (HB5.out.mono HB4.out.size)⟩
              · have HZ := hide (show res = true by rw [hI.out, List.drop_eq_nil_of_le (by rw [← HY.out]; omega)]; rfl)
                clear hI
                go_wp2_with fail
                go_ret
                exact ⟨ret_bool HZ.out.symm, HB4.out.trans (hB.out.mono HB4.out.size)⟩
end Go.Proofs.YtajpgmacabeeeaaDoor

/- cmp.Compare, cmp.Or; Num and Str of the reference. -/
namespace Go.Proofs.YtajpgmacabeeeaaDoor
open Go.RowKit

def cmpI (a b : Int) : Int := if a < b then -1 else if b < a then 1 else 0
def gtB (a b : ByteArray) : Bool := !(Op.bytesLess a.toList b.toList || a.toList == b.toList)
def cmpS (a b : ByteArray) : Int := if Op.bytesLess a.toList b.toList = true then -1 else if gtB a b = true then 1 else 0

theorem cmpInt_run (a b : Int) (w : World) : Calls Tryd.prog 63 #[.int .i64 a, .int .i64 b] w fun e w' => e = .returned (.int .i64 (cmpI a b)) ∧ w' = w := by
  go_enter Tryd.func63, Tryd.ntmps63
  go_wp2
  all_goals
    go_ret
    exact ⟨ret_int (by unfold cmpI; split <;> (try split) <;> (first | rfl | omega)), rfl⟩
theorem cmpInt64_run (a b : Int) (w : World) : Calls Tryd.prog 65 #[.int .i64 a, .int .i64 b] w fun e w' => e = .returned (.int .i64 (cmpI a b)) ∧ w' = w := by
  go_enter Tryd.func65, Tryd.ntmps65
  go_wp2
  all_goals
    go_ret
    exact ⟨ret_int (by unfold cmpI; split <;> (try split) <;> (first | rfl | omega)), rfl⟩
theorem refNum_run (a b : Int) (w : World) : Calls Tryd.prog 69 #[.int .i64 a, .int .i64 b] w fun e w' => e = .returned (.int .i64 (cmpI a b)) ∧ w' = w := by
  go_enter Tryd.func69, Tryd.ntmps69
  go_wp2
  all_goals
    go_ret
    exact ⟨ret_int (by unfold cmpI; split <;> (try split) <;> (first | rfl | omega)), rfl⟩
theorem cmpStr_run (a b : ByteArray) (w : World) : Calls Tryd.prog 61 #[.string a, .string b] w fun e w' => e = .returned (.int .i64 (cmpS a b)) ∧ w' = w := by
  obtain ⟨r, hr⟩ : ∃ r, r = cmpS a b := ⟨_, rfl⟩
  rw [← hr]
  unfold cmpS at hr
  have HR := Lib.hid hr
  clear hr
  go_enter Tryd.func61, Tryd.ntmps61
  cases hl : Op.bytesLess a.toList b.toList with
  | true =>
    go_wp2
    go_ret
    exact ⟨ret_int (by rw [HR.out, hl]; rfl), rfl⟩
  | false =>
    cases he : (a.toList == b.toList) with
    | true =>
      have HZ := hide (show r = 0 by rw [HR.out, hl, gtB, hl, he]; rfl)
      go_wp2
      go_ret
      exact ⟨ret_int HZ.out.symm, rfl⟩
    | false =>
      have HZ := hide (show r = 1 by rw [HR.out, hl, gtB, hl, he]; rfl)
      go_wp2
      go_ret
      exact ⟨ret_int HZ.out.symm, rfl⟩
theorem refStr_run (a b : ByteArray) (w : World) : Calls Tryd.prog 70 #[.string a, .string b] w fun e w' => e = .returned (.int .i64 (cmpS a b)) ∧ w' = w := by
  obtain ⟨r, hr⟩ : ∃ r, r = cmpS a b := ⟨_, rfl⟩
  rw [← hr]
  unfold cmpS at hr
  have HR := Lib.hid hr
  clear hr
  go_enter Tryd.func70, Tryd.ntmps70
  cases hl : Op.bytesLess a.toList b.toList with
  | true =>
    go_wp2
    go_ret
    exact ⟨ret_int (by rw [HR.out, hl]; rfl), rfl⟩
  | false =>
    cases he : (a.toList == b.toList) with
    | true =>
      have HZ := hide (show r = 0 by rw [HR.out, hl, gtB, hl, he]; rfl)
      go_wp2
      go_ret
      exact ⟨ret_int HZ.out.symm, rfl⟩
    | false =>
      have HZ := hide (show r = 1 by rw [HR.out, hl, gtB, hl, he]; rfl)
      go_wp2
      go_ret
      exact ⟨ret_int HZ.out.symm, rfl⟩

def orI (a b : Int) : Int := if a = 0 then b else a
theorem or_run (g : Nat) (a b : Int) (w : World) (h0 : w.cell? ⟨g, 0, none⟩ = some (.int .i64 a)) (h1 : w.cell? ⟨g, 1, none⟩ = some (.int .i64 b)) :
    Calls Tryd.prog 64 #[.slice (some ⟨g, 0, none⟩) 2 2] w fun e w' => e = .returned (.int .i64 (orI a b)) ∧ w' = w := by
  obtain ⟨r, hr⟩ : ∃ r, r = orI a b := ⟨_, rfl⟩
  rw [← hr]
  unfold orI at hr
  have HR := Lib.hid hr
  clear hr
  go_enter Tryd.func64, Tryd.ntmps64
  go_wp2_with fail
  go_loopw [5, 8] (fun _ iv wr => ∃ i : Nat, iv = .int .i64 i ∧ i ≤ 2 ∧ wr = w ∧ (i = 1 → a = 0) ∧ (i = 2 → a = 0 ∧ b = 0)) (fun _ iv _ => 2 - (intOf iv).toNat)
  case atStart => exact ⟨0, rfl, by omega, rfl, by simp, by simp⟩
  case round =>
    obtain ⟨i, rfl, hi, rfl, hi1, hi2⟩ := hrel
    rcases (show i = 0 ∨ i = 1 ∨ i = 2 by omega) with rfl | rfl | rfl
    · by_cases ha : a = 0
      · subst ha
        clear hi1 hi2 hi
        go_wp2_with fail
        go_roundw
        case rel => refine ⟨1, ?_, ?_, ?_, ?_, ?_⟩ <;> simp
        case measure => simp [intOf]
      · have g2 : (a != 0) = true := by simpa using ha
        have HZ := hide (show r = a by rw [HR.out, if_neg ha])
        clear ha hi1 hi2 hi
        go_wp2_with fail
        go_ret
        exact ⟨ret_int HZ.out.symm, rfl⟩
    · obtain rfl := hi1 rfl
      by_cases hb : b = 0
      · subst hb
        clear hi1 hi2 hi
        go_wp2_with fail
        go_roundw
        case rel => refine ⟨2, ?_, ?_, ?_, ?_, ?_⟩ <;> simp
        case measure => simp [intOf]
      · have g2 : (b != 0) = true := by simpa using hb
        have HZ := hide (show r = b by rw [HR.out, if_pos rfl])
        clear hb hi1 hi2 hi
        go_wp2_with fail
        go_ret
        exact ⟨ret_int HZ.out.symm, rfl⟩
    · obtain ⟨rfl, rfl⟩ := hi2 rfl
      have HZ := hide (show r = 0 by rw [HR.out, if_pos rfl])
      clear hi1 hi2 hi
      go_wp2_with fail
      go_ret
      exact ⟨ret_int HZ.out.symm, rfl⟩
end Go.Proofs.YtajpgmacabeeeaaDoor

/- slices.CompareFunc over data and over members. -/
namespace Go.Proofs.YtajpgmacabeeeaaDoor
open Go.RowKit

def cmpL {α : Type} (f : α → α → Int) : List α → List α → Int
  | [], [] => 0
  | [], _ :: _ => -1
  | _ :: _, [] => 1
  | x :: l, y :: k => if f x y = 0 then cmpL f l k else f x y

set_option maxRecDepth 20000 in
set_option maxHeartbeats 1000000 in
theorem cmpFuncD_run (m : Nat) (f : Dt → Dt → Int)
    (hf : ∀ X a q a' q' Y b p b' p' w, Parts w w.heap.size m X a q a' q' → Parts w w.heap.size m Y b p b' p' → Calls Tryd.prog 46 #[datV X a q a' q', datV Y b p b' p'] w fun e w' => e = .returned (.int .i64 (f X Y)) ∧ Below w.heap.size w w')
    (u v : Value) (l k : List Dt) (w : World) (hu : Dats w w.heap.size m u l) (hv : Dats w w.heap.size m v k) :
    Calls Tryd.prog 66 #[u, v, .func (.func 46) #[] #[]] w fun e w' => e = .returned (.int .i64 (cmpL f l k)) ∧ Below w.heap.size w w' := by
  obtain ⟨A, c, rfl, h1, h2, hels⟩ := hu
  obtain ⟨A', c', rfl, h3, h4, hels'⟩ := hv
  have hm := maxLen_le h2; have hm' := maxLen_le h4
  have HE := Lib.hid hels; have HE' := Lib.hid hels'; have HF := hide hf
  obtain ⟨n, hn⟩ : ∃ n, n = l.length := ⟨_, rfl⟩
  obtain ⟨n', hn'⟩ : ∃ n, n = k.length := ⟨_, rfl⟩
  rw [← hn] at h1 ⊢
  rw [← hn'] at h3 ⊢
  obtain ⟨res, hres⟩ : ∃ r, r = cmpL f l k := ⟨_, rfl⟩
  rw [← hres]
  have HN := Lib.hid hn; have HN' := Lib.hid hn'; have HRES := Lib.hid hres
  clear hels hels' hn hn' hres h2 h4 hf
  go_enter Tryd.func66, Tryd.ntmps66
  go_wp2_with fail
  go_loopw [7, 8, 9, 10, 13] (fun _ _ _ _ iv wr => ∃ i : Nat, iv = .int .i64 i ∧ i ≤ n ∧ i ≤ n' ∧ Hid (res = cmpL f (l.drop i) (k.drop i)) ∧ Hid (Below w.heap.size w wr)) (fun _ _ _ _ iv _ => n - (intOf iv).toNat)
  case atStart => exact ⟨0, rfl, Nat.zero_le _, Nat.zero_le _, HRES, hide (Below.refl _ _)⟩
  case round =>
    clear HRES
    obtain ⟨i, rfl, hi, hi', hI, hB⟩ := hrel
    by_cases hlt : i < n
    · have hl1 : i < l.length := by rw [← HN.out]; exact hlt
      obtain ⟨ad, rfl, hb, a, q, a', q', hfive, hpts⟩ := HE.out i _ (List.getElem?_eq_getElem hl1)
      have hq := hI.out
      rw [drop_at hl1] at hq
      obtain ⟨X, hX⟩ : ∃ X, X = l[i] := ⟨_, rfl⟩
      rw [← hX] at hfive hpts hq
      have hbb : (ad.add (i * 5)).block < w.heap.size := by rw [block_of_add]; exact hb
      obtain ⟨s0, s1, s2, s3, s4⟩ := hfive.same hbb (Same.of_below hB.out)
      have HPT := hide hpts
      by_cases hlt' : i < n'
      · have hl2 : i < k.length := by rw [← HN'.out]; exact hlt'
        obtain ⟨ad2, rfl, hb2, b, p, b', p', hfive2, hpts2⟩ := HE'.out i _ (List.getElem?_eq_getElem hl2)
        rw [drop_at hl2, cmpL] at hq
        obtain ⟨Y, hY⟩ : ∃ X, X = k[i] := ⟨_, rfl⟩
        rw [← hY] at hfive2 hpts2 hq
        have hbb2 : (ad2.add (i * 5)).block < w.heap.size := by rw [block_of_add]; exact hb2
        have HPT2 := hide hpts2
        have HFV := hide (show ∀ w', Below w.heap.size w w' → Five w' (ad2.add (i * 5)) Y b p b' p' from fun w' h => hfive2.same hbb2 (Same.of_below h))
        have HQ := Lib.hid hq
        have HCK := hide fun w' (hB' : Below w.heap.size w w') => HF.out X a q a' q' Y b p b' p' w' (hpts.turn (Same.of_below hB') hB'.size) (hpts2.turn (Same.of_below hB') hB'.size)
        unfold datV datCs at HCK
        obtain ⟨z, hz⟩ : ∃ z, z = f X Y := ⟨_, rfl⟩
        rw [← hz] at HCK HQ
        clear hfive hpts hX hl1 hb hbb hfive2 hpts2 hY hl2 hb2 hI hq hz
        go_upto_region 4 with fail
        obtain ⟨wa, g1, e1, e2, hBa, _, _, _, _, _, hRa⟩ := boxD wr (kD X) (nD X) (sD X) (.slice a (iD X).length q) (.slice a' (mD X).length q')
        rw [e1, e2]
        have HBa := hide (hB.out.trans (hBa.mono hB.out.size)); have HRa := hide hRa
        clear e1 e2 hBa hRa s0 s1 s2 s3 s4
        obtain ⟨t0, t1, t2, t3, t4⟩ := HFV.out _ HBa.out
        go_upto_region 7 with fail
        obtain ⟨wb, g2, e1, e2, hBb, _, _, _, _, _, hRb⟩ := boxD wa (kD Y) (nD Y) (sD Y) (.slice b (iD Y).length p) (.slice b' (mD Y).length p')
        rw [e1, e2]
        have HBb := hide (HBa.out.trans (hBb.mono HBa.out.size))
        obtain ⟨a0, a1, a2, a3, a4⟩ := row5 (HRa.out.below hBb)
        obtain ⟨b0, b1, b2, b3, b4⟩ := row5 hRb
        clear e1 e2 hBb hRb t0 t1 t2 t3 t4 HRa HBa HFV
        go_wp2_with fail
        refine (HCK.out _ HBb.out).mono ?_; rintro e w4 ⟨rfl, hB4⟩
        have HB4 := hide (HBb.out.trans (hB4.mono HBb.out.size))
        clear hB4 HCK a0 a1 a2 a3 a4 b0 b1 b2 b3 b4 HBb
        by_cases hz0 : z = 0
        · subst hz0
          have HQ2 := hide (show res = cmpL f (l.drop (i + 1)) (k.drop (i + 1)) by rw [HQ.out, if_pos rfl])
          go_wp2_with fail
          go_roundw
          case rel => exact ⟨i + 1, by go_num, by omega, by omega, HQ2, HB4⟩
          case measure => simp [intOf]; omega
        · have HZ := hide (show res = z by rw [HQ.out, if_neg hz0])
          have g2 : (z != 0) = true := by simpa using hz0
          clear hz0
          go_wp2_with fail
          go_ret
          exact ⟨ret_int HZ.out.symm, HB4.out⟩
      · have hk0 : k.drop i = [] := List.drop_eq_nil_of_le (by rw [← HN'.out]; omega)
        have HZ := hide (show res = 1 by rw [hq, hk0]; rfl)
        have HBA := hide (below_al hB.out (Obj.cells #[.int .i64 (kD X), .int .i64 (nD X), .string (sD X), .slice a (iD X).length q, .slice a' (mD X).length q'] 25))
        clear hfive hpts hX hl1 hb hbb hI hq hk0
        go_wp2_with fail
        go_ret
        exact ⟨ret_int HZ.out.symm, HBA.out⟩
    · obtain rfl : i = n := by omega
      have hz : res = if i < n' then -1 else 0 := by
        rw [hI.out, List.drop_eq_nil_of_le (by rw [← HN.out]; exact Nat.le_refl _)]
        by_cases h : i < n'
        · rw [if_pos h, drop_at (by rw [← HN'.out]; exact h)]; rfl
        · have hk0 : k.drop i = [] := List.drop_eq_nil_of_le (by rw [← HN'.out]; omega)
          rw [if_neg h, hk0]; rfl
      have HZ := Lib.hid hz
      clear hz hI
      by_cases h : i < n'
      · have HZ2 := hide (show res = -1 by rw [HZ.out, if_pos h])
        go_wp2_with fail
        go_ret
        exact ⟨ret_int HZ2.out.symm, hB.out⟩
      · have HZ2 := hide (show res = 0 by rw [HZ.out, if_neg h])
        go_wp2_with fail
        go_ret
        exact ⟨ret_int HZ2.out.symm, hB.out⟩
/-- A member is laid into a new block. -/
def memCs (x : ByteArray × Dt) (A : Option Addr) (c : Nat) (A' : Option Addr) (c' : Nat) : List Value := .string x.1 :: datCs x.2 A c A' c'
def memV (x : ByteArray × Dt) (A : Option Addr) (c : Nat) (A' : Option Addr) (c' : Nat) : Value := .agg (memCs x A c A' c').toArray
theorem boxM (w : World) (x : ByteArray × Dt) (A : Option Addr) (c : Nat) (A' : Option Addr) (c' : Nat) : ∃ w1 g, w.alloc (Obj.cells #[.string x.1, .int .i64 (kD x.2), .int .i64 (nD x.2), .string (sD x.2), .slice A (iD x.2).length c, .slice A' (mD x.2).length c'] 53) = w1 ∧ w.heap.size = g ∧ Below w.heap.size w w1 ∧
    Row w1 g 53 (memCs x A c A' c') := ⟨_, _, rfl, rfl, (Below.refl _ _).alloc (Nat.le_refl _) _, Row.new w _ _⟩
theorem row6 {w : World} {g : Nat} {t : TypeId} {x : ByteArray × Dt} {A : Option Addr} {c : Nat} {A' : Option Addr} {c' : Nat} (h : Row w g t (memCs x A c A' c')) :
    w.cell? ⟨g, 0, none⟩ = some (.string x.1) ∧ w.cell? ⟨g, 1, none⟩ = some (.int .i64 (kD x.2)) ∧ w.cell? ⟨g, 2, none⟩ = some (.int .i64 (nD x.2)) ∧ w.cell? ⟨g, 3, none⟩ = some (.string (sD x.2)) ∧
    w.cell? ⟨g, 4, none⟩ = some (.slice A (iD x.2).length c) ∧ w.cell? ⟨g, 5, none⟩ = some (.slice A' (mD x.2).length c') :=
  ⟨h.cell 0, h.cell 1, h.cell 2, h.cell 3, h.cell 4, h.cell 5⟩

set_option maxRecDepth 20000 in
set_option maxHeartbeats 1000000 in
theorem cmpFuncM_run (m : Nat) (f : ByteArray × Dt → ByteArray × Dt → Int)
    (hf : ∀ X a q a' q' Y b p b' p' w, Parts w w.heap.size m X.2 a q a' q' → Parts w w.heap.size m Y.2 b p b' p' → Calls Tryd.prog 68 #[memV X a q a' q', memV Y b p b' p'] w fun e w' => e = .returned (.int .i64 (f X Y)) ∧ Below w.heap.size w w')
    (u v : Value) (l k : List (ByteArray × Dt)) (w : World) (hu : Mems w w.heap.size m u l) (hv : Mems w w.heap.size m v k) :
    Calls Tryd.prog 67 #[u, v, .func (.func 68) #[] #[]] w fun e w' => e = .returned (.int .i64 (cmpL f l k)) ∧ Below w.heap.size w w' := by
  obtain ⟨A, c, rfl, h1, h2, hels⟩ := hu
  obtain ⟨A', c', rfl, h3, h4, hels'⟩ := hv
  have hm := maxLen_le h2; have hm' := maxLen_le h4
  have HE := Lib.hid hels; have HE' := Lib.hid hels'; have HF := hide hf
  obtain ⟨n, hn⟩ : ∃ n, n = l.length := ⟨_, rfl⟩
  obtain ⟨n', hn'⟩ : ∃ n, n = k.length := ⟨_, rfl⟩
  rw [← hn] at h1 ⊢
  rw [← hn'] at h3 ⊢
  obtain ⟨res, hres⟩ : ∃ r, r = cmpL f l k := ⟨_, rfl⟩
  rw [← hres]
  have HN := Lib.hid hn; have HN' := Lib.hid hn'; have HRES := Lib.hid hres
  clear hels hels' hn hn' hres h2 h4 hf
  go_enter Tryd.func67, Tryd.ntmps67
  go_wp2_with fail
  go_loopw [7, 8, 9, 10, 13] (fun _ _ _ _ iv wr => ∃ i : Nat, iv = .int .i64 i ∧ i ≤ n ∧ i ≤ n' ∧ Hid (res = cmpL f (l.drop i) (k.drop i)) ∧ Hid (Below w.heap.size w wr)) (fun _ _ _ _ iv _ => n - (intOf iv).toNat)
  case atStart => exact ⟨0, rfl, Nat.zero_le _, Nat.zero_le _, HRES, hide (Below.refl _ _)⟩
  case round =>
    clear HRES
    obtain ⟨i, rfl, hi, hi', hI, hB⟩ := hrel
    by_cases hlt : i < n
    · have hl1 : i < l.length := by rw [← HN.out]; exact hlt
      obtain ⟨ad, rfl, hb, hlab, a, q, a', q', hfive, hpts⟩ := HE.out i _ (List.getElem?_eq_getElem hl1)
      have hq := hI.out
      rw [drop_at hl1] at hq
      obtain ⟨X, hX⟩ : ∃ X, X = l[i] := ⟨_, rfl⟩
      rw [← hX] at hfive hpts hq hlab
      have hbb : (ad.add (i * 6)).block < w.heap.size := by rw [block_of_add]; exact hb
      obtain ⟨s0, s1, s2, s3, s4, s5⟩ := six_of ((hB.out.cell (p := ad.add (i * 6)) hbb).trans hlab) (hfive.same (p := ⟨_, _, none⟩) hbb (Same.of_below hB.out))
      have HPT := hide hpts
      by_cases hlt' : i < n'
      · have hl2 : i < k.length := by rw [← HN'.out]; exact hlt'
        obtain ⟨ad2, rfl, hb2, hlab2, b, p, b', p', hfive2, hpts2⟩ := HE'.out i _ (List.getElem?_eq_getElem hl2)
        rw [drop_at hl2, cmpL] at hq
        obtain ⟨Y, hY⟩ : ∃ X, X = k[i] := ⟨_, rfl⟩
        rw [← hY] at hfive2 hpts2 hq hlab2
        have hbb2 : (ad2.add (i * 6)).block < w.heap.size := by rw [block_of_add]; exact hb2
        have HPT2 := hide hpts2
        have HFV := hide fun w' (h : Below w.heap.size w w') => six_of ((h.cell (p := ad2.add (i * 6)) hbb2).trans hlab2) (hfive2.same (p := ⟨_, _, none⟩) hbb2 (Same.of_below h))
        have HQ := Lib.hid hq
        have HCK := hide fun w' (hB' : Below w.heap.size w w') => HF.out X a q a' q' Y b p b' p' w' (hpts.turn (Same.of_below hB') hB'.size) (hpts2.turn (Same.of_below hB') hB'.size)
        unfold memV memCs datCs at HCK
        obtain ⟨z, hz⟩ : ∃ z, z = f X Y := ⟨_, rfl⟩
        rw [← hz] at HCK HQ
        clear hfive hpts hX hl1 hb hbb hfive2 hpts2 hY hl2 hb2 hI hq hz hlab hlab2
        go_upto_region 4 with fail
        obtain ⟨wa, g1, e1, e2, hBa, hRa⟩ := boxM wr X a q a' q'
        rw [e1, e2]
        have HBa := hide (hB.out.trans (hBa.mono hB.out.size)); have HRa := hide hRa
        clear e1 e2 hBa hRa s0 s1 s2 s3 s4 s5
        obtain ⟨t0, t1, t2, t3, t4, t5⟩ := HFV.out _ HBa.out
        go_upto_region 7 with fail
        obtain ⟨wb, g2, e1, e2, hBb, hRb⟩ := boxM wa Y b p b' p'
        rw [e1, e2]
        have HBb := hide (HBa.out.trans (hBb.mono HBa.out.size))
        obtain ⟨a0, a1, a2, a3, a4, a5⟩ := row6 (HRa.out.below hBb)
        obtain ⟨b0, b1, b2, b3, b4, b5⟩ := row6 hRb
        clear e1 e2 hBb hRb t0 t1 t2 t3 t4 t5 HRa HBa HFV
        go_wp2_with fail
        refine (HCK.out _ HBb.out).mono ?_; rintro e w4 ⟨rfl, hB4⟩
        have HB4 := hide (HBb.out.trans (hB4.mono HBb.out.size))
        clear hB4 HCK a0 a1 a2 a3 a4 a5 b0 b1 b2 b3 b4 b5 HBb
        by_cases hz0 : z = 0
        · subst hz0
          have HQ2 := hide (show res = cmpL f (l.drop (i + 1)) (k.drop (i + 1)) by rw [HQ.out, if_pos rfl])
          go_wp2_with fail
          go_roundw
          case rel => exact ⟨i + 1, by go_num, by omega, by omega, HQ2, HB4⟩
          case measure => simp [intOf]; omega
        · have HZ := hide (show res = z by rw [HQ.out, if_neg hz0])
          have g2 : (z != 0) = true := by simpa using hz0
          clear hz0
          go_wp2_with fail
          go_ret
          exact ⟨ret_int HZ.out.symm, HB4.out⟩
      · have hk0 : k.drop i = [] := List.drop_eq_nil_of_le (by rw [← HN'.out]; omega)
        have HZ := hide (show res = 1 by rw [hq, hk0]; rfl)
        have HBA := hide (below_al hB.out (Obj.cells #[.string X.1, .int .i64 (kD X.2), .int .i64 (nD X.2), .string (sD X.2), .slice a (iD X.2).length q, .slice a' (mD X.2).length q'] 53))
        clear hfive hpts hX hl1 hb hbb hI hq hk0 hlab
        go_wp2_with fail
        go_ret
        exact ⟨ret_int HZ.out.symm, HBA.out⟩
    · obtain rfl : i = n := by omega
      have hz : res = if i < n' then -1 else 0 := by
        rw [hI.out, List.drop_eq_nil_of_le (by rw [← HN.out]; exact Nat.le_refl _)]
        by_cases h : i < n'
        · rw [if_pos h, drop_at (by rw [← HN'.out]; exact h)]; rfl
        · have hk0 : k.drop i = [] := List.drop_eq_nil_of_le (by rw [← HN'.out]; omega)
          rw [if_neg h, hk0]; rfl
      have HZ := Lib.hid hz
      clear hz hI
      by_cases h : i < n'
      · have HZ2 := hide (show res = -1 by rw [HZ.out, if_pos h])
        go_wp2_with fail
        go_ret
        exact ⟨ret_int HZ2.out.symm, hB.out⟩
      · have HZ2 := hide (show res = 0 by rw [HZ.out, if_neg h])
        go_wp2_with fail
        go_ret
        exact ⟨ret_int HZ2.out.symm, hB.out⟩
end Go.Proofs.YtajpgmacabeeeaaDoor

/- compare: the closure over members, and compare itself. -/
namespace Go.Proofs.YtajpgmacabeeeaaDoor
open Go.RowKit

def compM (f : Dt → Dt → Int) (x y : ByteArray × Dt) : Int := orI (cmpS x.1 y.1) (f x.2 y.2)

set_option maxRecDepth 20000 in
set_option maxHeartbeats 1000000 in
theorem compMem_run (m : Nat) (f : Dt → Dt → Int)
    (hf : ∀ X a q a' q' Y b p b' p' w, Parts w w.heap.size m X a q a' q' → Parts w w.heap.size m Y b p b' p' → Calls Tryd.prog 46 #[datV X a q a' q', datV Y b p b' p'] w fun e w' => e = .returned (.int .i64 (f X Y)) ∧ Below w.heap.size w w')
    (X : ByteArray × Dt) (a : Option Addr) (q : Nat) (a' : Option Addr) (q' : Nat) (Y : ByteArray × Dt) (b : Option Addr) (p : Nat) (b' : Option Addr) (p' : Nat) (w : World)
    (hX : Parts w w.heap.size m X.2 a q a' q') (hY : Parts w w.heap.size m Y.2 b p b' p') :
    Calls Tryd.prog 68 #[memV X a q a' q', memV Y b p b' p'] w fun e w' => e = .returned (.int .i64 (compM f X Y)) ∧ Below w.heap.size w w' := by
  have HCK := hide fun w' (hB' : Below w.heap.size w w') => hf X.2 a q a' q' Y.2 b p b' p' w' (hX.turn (Same.of_below hB') hB'.size) (hY.turn (Same.of_below hB') hB'.size)
  unfold datV datCs at HCK
  unfold memV memCs datCs compM
  obtain ⟨r1, hr1⟩ : ∃ r, r = cmpS X.1 Y.1 := ⟨_, rfl⟩
  obtain ⟨r2, hr2⟩ : ∃ r, r = f X.2 Y.2 := ⟨_, rfl⟩
  rw [← hr2] at HCK
  rw [← hr1, ← hr2]
  have HST := hide fun w => cmpStr_run X.1 Y.1 w
  rw [← hr1] at HST
  obtain ⟨res, hres⟩ : ∃ r, r = orI r1 r2 := ⟨_, rfl⟩
  rw [← hres]
  have HOR := hide fun g w => or_run g r1 r2 w
  rw [← hres] at HOR
  clear hX hY hf hr1 hr2 hres
  go_enter Tryd.func68, Tryd.ntmps68
  go_upto_region 1 with fail
  obtain ⟨w1, g1, e1, e2, hB1, hR1⟩ := boxM w X a q a' q'
  obtain ⟨w2, g2, e3, e4, hB2, hR2⟩ := boxM w1 Y b p b' p'
  have e5 : g1 + 1 = g2 := by rw [← e4, ← e1, ← e2]; simp
  rw [e1, e2, e3, e5]
  have HBL := hide (hB1.trans (hB2.mono hB1.size))
  have HS := hide fun W (h : Below w2.heap.size w2 W) => And.intro (row6 ((hR1.below hB2).below h)) (row6 (hR2.below h))
  have HBB := hide fun W (h : Below w2.heap.size w2 W) => HBL.out.trans (h.mono HBL.out.size)
  clear e1 e2 e3 e4 e5 hB1 hB2 hR1 hR2
  have hS := HS.out _ (Below.refl _ _)
  obtain ⟨⟨s0, s1, s2, s3, s4, s5⟩, t0, t1, t2, t3, t4, t5⟩ := hS
  go_region_held_law (fun W => (W.cell? ⟨g1, 0, none⟩ = some (.string X.1) ∧ W.cell? ⟨g1, 1, none⟩ = some (.int .i64 (kD X.2)) ∧ W.cell? ⟨g1, 2, none⟩ = some (.int .i64 (nD X.2)) ∧ W.cell? ⟨g1, 3, none⟩ = some (.string (sD X.2)) ∧
    W.cell? ⟨g1, 4, none⟩ = some (.slice a (iD X.2).length q) ∧ W.cell? ⟨g1, 5, none⟩ = some (.slice a' (mD X.2).length q')) ∧ (W.cell? ⟨g2, 0, none⟩ = some (.string Y.1) ∧ W.cell? ⟨g2, 1, none⟩ = some (.int .i64 (kD Y.2)) ∧ W.cell? ⟨g2, 2, none⟩ = some (.int .i64 (nD Y.2)) ∧ W.cell? ⟨g2, 3, none⟩ = some (.string (sD Y.2)) ∧
    W.cell? ⟨g2, 4, none⟩ = some (.slice b (iD Y.2).length p) ∧ W.cell? ⟨g2, 5, none⟩ = some (.slice b' (mD Y.2).length p')))
    (first
      | exact HS.out _ (below_al ((Below.refl _ _).drew.trans hB4) _)
      | exact HS.out _ ((Below.refl _ _).drew.trans hB4)
      | exact HS.out _ (Below.refl _ _).drew)
    (first
      | (go_at_call 61; refine (HST.out _).mono ?_; rintro e w3 ⟨rfl, rfl⟩)
      | (go_at_call 46; refine (HCK.out _ (HBB.out _ (Below.refl _ _).drew)).mono ?_; rintro e w4 ⟨rfl, hB4⟩)
      | (go_at_call 64; refine (HOR.out _ _ (by simp) (by simp)).mono ?_; rintro e w5 ⟨rfl, rfl⟩))
  all_goals
    have HBZ := hide (below_al (HBB.out _ ((Below.refl _ _).drew.trans hB4)) (Obj.cells #[.int .i64 r1, .int .i64 r2] 3))
    go_wp2_with fail
    go_ret
    exact ⟨rfl, HBZ.out⟩

def compF : Nat → Dt → Dt → Int
  | 0, _, _ => 0
  | m + 1, d, e => if kD d = kD e then (if orI (cmpI (nD d) (nD e)) (cmpS (sD d) (sD e)) = 0 then orI (cmpL (compF m) (iD d) (iD e)) (cmpL (compM (compF m)) (mD d) (mD e)) else orI (cmpI (nD d) (nD e)) (cmpS (sD d) (sD e))) else cmpI (kD d) (kD e)

set_option maxRecDepth 20000 in
set_option maxHeartbeats 2000000 in
theorem comp_run : ∀ (m : Nat) (d : Dt) (A : Option Addr) (c : Nat) (A' : Option Addr) (c' : Nat) (e : Dt) (E : Option Addr) (f : Nat) (E' : Option Addr) (f' : Nat) (w : World), Parts w w.heap.size m d A c A' c' → Parts w w.heap.size m e E f E' f' →
    Calls Tryd.prog 46 #[datV d A c A' c', datV e E f E' f'] w fun r w' => r = .returned (.int .i64 (compF m d e)) ∧ Below w.heap.size w w' := by
  intro m
  induction m with
  | zero => intro d A c A' c' e E f E' f' w hp _; exact hp.elim
  | succ m ih =>
    intro d A c A' c' e E f E' f' w hp hp'
    have HCD := hide fun w' (hB : Below w.heap.size w w') => cmpFuncD_run m (compF m) (fun X a q a' q' Y b p b' p' w => ih X a q a' q' Y b p b' p' w) (.slice A (iD d).length c) (.slice E (iD e).length f) (iD d) (iD e) w'
      ⟨A, c, rfl, hp.lens.1, hp.lens.2.1, hp.2.1.turn (Same.of_below hB) hB.size fun _ _ _ _ _ => Parts.turn (Same.of_below hB) hB.size⟩ ⟨E, f, rfl, hp'.lens.1, hp'.lens.2.1, hp'.2.1.turn (Same.of_below hB) hB.size fun _ _ _ _ _ => Parts.turn (Same.of_below hB) hB.size⟩
    have HCM := hide fun w' (hB : Below w.heap.size w w') => cmpFuncM_run m (compM (compF m)) (fun X a q a' q' Y b p b' p' w hX hY => compMem_run m (compF m) (fun X a q a' q' Y b p b' p' w => ih X a q a' q' Y b p b' p' w) X a q a' q' Y b p b' p' w hX hY) (.slice A' (mD d).length c') (.slice E' (mD e).length f') (mD d) (mD e) w'
      ⟨A', c', rfl, hp.lens.2.2.1, hp.lens.2.2.2, hp.2.2.turn (Same.of_below hB) hB.size fun _ _ _ _ _ => Parts.turn (Same.of_below hB) hB.size⟩ ⟨E', f', rfl, hp'.lens.2.2.1, hp'.lens.2.2.2, hp'.2.2.turn (Same.of_below hB) hB.size fun _ _ _ _ _ => Parts.turn (Same.of_below hB) hB.size⟩
    obtain ⟨res, hres⟩ : ∃ k, k = compF (m + 1) d e := ⟨_, rfl⟩
    rw [← hres]
    unfold compF at hres
    unfold datV datCs
    obtain ⟨r1, hr1⟩ : ∃ r, r = cmpL (compF m) (iD d) (iD e) := ⟨_, rfl⟩
    obtain ⟨r2, hr2⟩ : ∃ r, r = cmpL (compM (compF m)) (mD d) (mD e) := ⟨_, rfl⟩
    rw [← hr1] at HCD hres
    rw [← hr2] at HCM hres
    obtain ⟨h1, h2, h3, h4⟩ := hp.lens
    obtain ⟨h5, h6, h7, h8⟩ := hp'.lens
    have hm1 := maxLen_le h2; have hm2 := maxLen_le h4; have hm3 := maxLen_le h6; have hm4 := maxLen_le h8
    obtain ⟨k, hk⟩ : ∃ k, k = kD d := ⟨_, rfl⟩
    obtain ⟨n, hn⟩ : ∃ k, k = nD d := ⟨_, rfl⟩
    obtain ⟨s, hs⟩ : ∃ k, k = sD d := ⟨_, rfl⟩
    obtain ⟨x, hx⟩ : ∃ k, k = (iD d).length := ⟨_, rfl⟩
    obtain ⟨y, hy⟩ : ∃ k, k = (mD d).length := ⟨_, rfl⟩
    obtain ⟨k2, hk2⟩ : ∃ k, k = kD e := ⟨_, rfl⟩
    obtain ⟨n2, hn2⟩ : ∃ k, k = nD e := ⟨_, rfl⟩
    obtain ⟨s2, hs2⟩ : ∃ k, k = sD e := ⟨_, rfl⟩
    obtain ⟨x2, hx2⟩ : ∃ k, k = (iD e).length := ⟨_, rfl⟩
    obtain ⟨y2, hy2⟩ : ∃ k, k = (mD e).length := ⟨_, rfl⟩
    rw [← hk, ← hn, ← hs, ← hk2, ← hn2, ← hs2] at hres
    rw [← hk, ← hn, ← hs, ← hx, ← hy, ← hk2, ← hn2, ← hs2, ← hx2, ← hy2]
    rw [← hx, ← hx2] at HCD
    rw [← hy, ← hy2] at HCM
    have HI := hide fun w => cmpInt_run k k2 w
    have HJ := hide fun w => cmpInt64_run n n2 w
    have HT := hide fun w => cmpStr_run s s2 w
    obtain ⟨q1, hq1⟩ : ∃ r, r = cmpI n n2 := ⟨_, rfl⟩
    obtain ⟨q2, hq2⟩ : ∃ r, r = cmpS s s2 := ⟨_, rfl⟩
    obtain ⟨q3, hq3⟩ : ∃ r, r = cmpI k k2 := ⟨_, rfl⟩
    rw [← hq1] at HJ hres
    rw [← hq2] at HT hres
    rw [← hq3] at HI hres
    obtain ⟨q, hq⟩ : ∃ r, r = orI q1 q2 := ⟨_, rfl⟩
    obtain ⟨r, hr⟩ : ∃ r, r = orI r1 r2 := ⟨_, rfl⟩
    have HO1 := hide fun g w => or_run g q1 q2 w
    have HO2 := hide fun g w => or_run g r1 r2 w
    rw [← hq] at HO1 hres
    rw [← hr] at HO2 hres
    have HRES := Lib.hid hres
    clear hr1 hr2 hk hn hs hx hy hk2 hn2 hs2 hx2 hy2 hq1 hq2 hq3 hq hr hres h1 h2 h3 h4 h5 h6 h7 h8 hp hp'
    go_enter Tryd.func46, Tryd.ntmps46
    go_upto_region 1 with fail
    obtain ⟨w1, g, e1, e2, hB1, _, _, _, _, _, hR1⟩ := boxD w k n s (.slice A x c) (.slice A' y c')
    obtain ⟨w2, g2, e3, e4, hB2, _, _, _, _, _, hR2⟩ := boxD w1 k2 n2 s2 (.slice E x2 f) (.slice E' y2 f')
    have e5 : g + 1 = g2 := by rw [← e4, ← e1, ← e2]; simp
    rw [e1, e2, e3, e5]
    have HBL := hide (hB1.trans (hB2.mono hB1.size))
    have HS := hide fun W (h : Below w2.heap.size w2 W) => And.intro (row5 ((hR1.below hB2).below h)) (row5 (hR2.below h))
    have HBB := hide fun W (h : Below w2.heap.size w2 W) => HBL.out.trans (h.mono HBL.out.size)
    clear e1 e2 e3 e4 e5 hB1 hB2 hR1 hR2
    rename_i z0 z1 z2 z3 z4 z5 z6 z7 z8 z9
    clear z0 z1 z2 z3 z4 z5 z6 z7 z8 z9
    have hS := HS.out _ (Below.refl _ _)
    obtain ⟨⟨s0, s1, s2', s3, s4⟩, t0, t1, t2, t3, t4⟩ := hS
    by_cases hkk : k = k2
    · subst hkk
      have HZ := hide (show res = if q = 0 then r else q by rw [HRES.out, if_pos rfl])
      have gk : (k != k) = false := by simp
      clear HRES
      go_wp2_with fail
      go_region_held_law (fun W => (W.cell? ⟨g, 0, none⟩ = some (.int .i64 k) ∧ W.cell? ⟨g, 1, none⟩ = some (.int .i64 n) ∧ W.cell? ⟨g, 2, none⟩ = some (.string s) ∧ W.cell? ⟨g, 3, none⟩ = some (.slice A x c) ∧ W.cell? ⟨g, 4, none⟩ = some (.slice A' y c')) ∧
        (W.cell? ⟨g2, 0, none⟩ = some (.int .i64 k) ∧ W.cell? ⟨g2, 1, none⟩ = some (.int .i64 n2) ∧ W.cell? ⟨g2, 2, none⟩ = some (.string s2) ∧ W.cell? ⟨g2, 3, none⟩ = some (.slice E x2 f) ∧ W.cell? ⟨g2, 4, none⟩ = some (.slice E' y2 f')))
        (first
          | exact HS.out _ (below_al (Below.refl _ _).drew _)
          | exact HS.out _ (Below.refl _ _).drew)
        (first
          | (go_at_call 61; refine (HT.out _).mono ?_; rintro e w3 ⟨rfl, rfl⟩)
          | (go_at_call 65; refine (HJ.out _).mono ?_; rintro e w3 ⟨rfl, rfl⟩)
          | (go_at_call 64; refine (HO1.out _ _ (by simp) (by simp)).mono ?_; rintro e w5 ⟨rfl, rfl⟩))
      all_goals
        have HB5 := hide (below_al (Below.refl w2.heap.size w2) (Obj.cells #[.int .i64 q1, .int .i64 q2] 3)).drew
        obtain ⟨w5, hw5⟩ : ∃ w5, w5 = (w2.alloc (Obj.cells #[.int .i64 q1, .int .i64 q2] 3)).drew := ⟨_, rfl⟩
        rw [← hw5] at HB5 ⊢
        clear hw5 s0 s1 s2' s3 s4 t0 t1 t2 t3 t4
        by_cases hq : q = 0
        · subst hq
          have HZ2 := hide (show res = r by rw [HZ.out, if_pos rfl])
          have hS := HS.out _ HB5.out
          obtain ⟨⟨s0, s1, s2', s3, s4⟩, t0, t1, t2, t3, t4⟩ := hS
          clear HZ
          go_wp2_with fail
          go_region_held_law (fun W => (W.cell? ⟨g, 0, none⟩ = some (.int .i64 k) ∧ W.cell? ⟨g, 1, none⟩ = some (.int .i64 n) ∧ W.cell? ⟨g, 2, none⟩ = some (.string s) ∧ W.cell? ⟨g, 3, none⟩ = some (.slice A x c) ∧ W.cell? ⟨g, 4, none⟩ = some (.slice A' y c')) ∧
        (W.cell? ⟨g2, 0, none⟩ = some (.int .i64 k) ∧ W.cell? ⟨g2, 1, none⟩ = some (.int .i64 n2) ∧ W.cell? ⟨g2, 2, none⟩ = some (.string s2) ∧ W.cell? ⟨g2, 3, none⟩ = some (.slice E x2 f) ∧ W.cell? ⟨g2, 4, none⟩ = some (.slice E' y2 f')))
            (first
              | exact HS.out _ (HB5.out.trans ((below_al (((Below.refl _ _).drew.trans hB6).trans (hB7.mono hB6.size)) _).mono HB5.out.size))
              | exact HS.out _ (HB5.out.trans ((((Below.refl _ _).drew.trans hB6).trans (hB7.mono hB6.size)).mono HB5.out.size))
              | exact HS.out _ (HB5.out.trans (((Below.refl _ _).drew.trans hB6).mono HB5.out.size))
              | exact HS.out _ HB5.out.drew)
            (first
              | (go_at_call 66; refine (HCD.out _ (HBB.out _ (HB5.out.trans (((Below.refl _ _).drew.trans hB6).mono HB5.out.size)))).mono ?_; rintro e w7 ⟨rfl, hB7⟩)
              | (go_at_call 66; refine (HCD.out _ (HBB.out _ HB5.out.drew)).mono ?_; rintro e w6 ⟨rfl, hB6⟩)
              | (go_at_call 67; refine (HCM.out _ (HBB.out _ (HB5.out.trans (((Below.refl _ _).drew.trans hB6).mono HB5.out.size)))).mono ?_; rintro e w7 ⟨rfl, hB7⟩)
              | (go_at_call 67; refine (HCM.out _ (HBB.out _ HB5.out.drew)).mono ?_; rintro e w6 ⟨rfl, hB6⟩)
              | (go_at_call 64; refine (HO2.out _ _ (by simp) (by simp)).mono ?_; rintro e w8 ⟨rfl, rfl⟩))
          all_goals
            have HB9 := hide (below_al (HBB.out _ (HB5.out.trans ((((Below.refl _ _).drew.trans hB6).trans (hB7.mono hB6.size)).mono HB5.out.size))) (Obj.cells #[.int .i64 r1, .int .i64 r2] 3))
            go_wp2_with fail
            go_ret
            exact ⟨ret_int HZ2.out.symm, HB9.out⟩
        · have HZ2 := hide (show res = q by rw [HZ.out, if_neg hq])
          have gq : (q != 0) = true := by simpa using hq
          clear hq
          go_wp2_with fail
          go_ret
          exact ⟨ret_int HZ2.out.symm, HBB.out _ HB5.out⟩
    · have HZ := hide (show res = q3 by rw [HRES.out, if_neg hkk])
      have gk : (k != k2) = true := by simpa using hkk
      clear hkk
      go_wp2_with fail
      refine (HI.out _).mono ?_; rintro e w3 ⟨rfl, rfl⟩
      go_wp2_with fail
      go_ret
      exact ⟨ret_int HZ.out.symm, HBL.out⟩
end Go.Proofs.YtajpgmacabeeeaaDoor

/- Compare and Equal. -/
namespace Go.Proofs.YtajpgmacabeeeaaDoor
open Go.RowKit

def compareD (m : Nat) (d e : Dt) : Int := if checkD d = 0 then (if checkD e = 0 then compF m d e else 0) else 0
def equalD (m : Nat) (d e : Dt) : Bool := (checkD d == 0) && ((checkD e == 0) && (compF m d e == 0))

set_option maxRecDepth 20000 in
set_option maxHeartbeats 1000000 in
theorem Compare_run (m : Nat) (d : Dt) (A : Option Addr) (c : Nat) (A' : Option Addr) (c' : Nat) (e : Dt) (E : Option Addr) (f : Nat) (E' : Option Addr) (f' : Nat) (w : World) (hp : Parts w w.heap.size m d A c A' c') (hp' : Parts w w.heap.size m e E f E' f') (hf : FitD 16 d) (hf' : FitD 16 e) :
    Calls Tryd.prog 24 #[datV d A c A' c', datV e E f E' f'] w fun r w' => r = .returned (.int .i64 (compareD m d e)) ∧ Below w.heap.size w w' := by
  have HC1 := hide fun w' (hB : Below w.heap.size w w') => Check_run m d A c A' c' w' (hp.turn (Same.of_below hB) hB.size) hf
  have HC2 := hide fun w' (hB : Below w.heap.size w w') => Check_run m e E f E' f' w' (hp'.turn (Same.of_below hB) hB.size) hf'
  have HCC := hide fun w' (hB : Below w.heap.size w w') => comp_run m d A c A' c' e E f E' f' w' (hp.turn (Same.of_below hB) hB.size) (hp'.turn (Same.of_below hB) hB.size)
  obtain ⟨res, hres⟩ : ∃ k, k = compareD m d e := ⟨_, rfl⟩
  rw [← hres]
  unfold datV datCs at HC1 HC2 HCC
  unfold datV datCs
  obtain ⟨z, hz⟩ : ∃ z, z = checkD d := ⟨_, rfl⟩
  obtain ⟨v, hv⟩ : ∃ z, z = checkD e := ⟨_, rfl⟩
  obtain ⟨cc, hcc⟩ : ∃ z, z = compF m d e := ⟨_, rfl⟩
  rw [← hz] at HC1
  rw [← hv] at HC2
  rw [← hcc] at HCC
  unfold compareD at hres
  rw [← hz, ← hv, ← hcc] at hres
  clear hz hv hcc
  have HRES := Lib.hid hres
  obtain ⟨k, hk⟩ : ∃ k, k = kD d := ⟨_, rfl⟩
  obtain ⟨n, hn⟩ : ∃ k, k = nD d := ⟨_, rfl⟩
  obtain ⟨s, hs⟩ : ∃ k, k = sD d := ⟨_, rfl⟩
  obtain ⟨x, hx⟩ : ∃ k, k = (iD d).length := ⟨_, rfl⟩
  obtain ⟨y, hy⟩ : ∃ k, k = (mD d).length := ⟨_, rfl⟩
  rw [← hk, ← hn, ← hs, ← hx, ← hy] at HC1 HCC ⊢
  obtain ⟨k2, hk2⟩ : ∃ k, k = kD e := ⟨_, rfl⟩
  obtain ⟨n2, hn2⟩ : ∃ k, k = nD e := ⟨_, rfl⟩
  obtain ⟨s2, hs2⟩ : ∃ k, k = sD e := ⟨_, rfl⟩
  obtain ⟨x2, hx2⟩ : ∃ k, k = (iD e).length := ⟨_, rfl⟩
  obtain ⟨y2, hy2⟩ : ∃ k, k = (mD e).length := ⟨_, rfl⟩
  rw [← hk2, ← hn2, ← hs2, ← hx2, ← hy2] at HC2 HCC ⊢
  clear hp hp' hres hk hn hs hx hy hk2 hn2 hs2 hx2 hy2
  go_enter Tryd.func24, Tryd.ntmps24
  go_upto_region 1 with fail
  obtain ⟨w1, g, e1, e2, hB1, _, _, _, _, _, hR1⟩ := boxD w k n s (.slice A x c) (.slice A' y c')
  obtain ⟨w2, g2, e3, e4, hB2, _, _, _, _, _, hR2⟩ := boxD w1 k2 n2 s2 (.slice E x2 f) (.slice E' y2 f')
  have e5 : g + 1 = g2 := by rw [← e4, ← e1, ← e2]; simp
  rw [e1, e2, e3, e5]
  have HBL := hide (hB1.trans (hB2.mono hB1.size))
  have HS := hide fun W (h : Below w2.heap.size w2 W) => And.intro (row5 ((hR1.below hB2).below h)) (row5 (hR2.below h))
  have HBB := hide fun W (h : Below w2.heap.size w2 W) => HBL.out.trans (h.mono HBL.out.size)
  clear e1 e2 e3 e4 e5 hB1 hB2 hR1 hR2
  rename_i z0 z1 z2 z3 z4 z5 z6 z7 z8 z9
  clear z0 z1 z2 z3 z4 z5 z6 z7 z8 z9
  obtain ⟨⟨s0, s1, s2', s3, s4⟩, t0, t1, t2, t3, t4⟩ := HS.out _ (Below.refl _ _)
  go_wp2_with fail
  refine (HC1.out _ HBL.out).mono ?_; rintro r w3 ⟨rfl, hB3⟩
  have HB3 := hide hB3
  clear s0 s1 s2' s3 s4 t0 t1 t2 t3 t4 hB3 HC1
  obtain ⟨⟨s0, s1, s2', s3, s4⟩, t0, t1, t2, t3, t4⟩ := HS.out _ HB3.out
  by_cases hz : z = 0
  · subst hz
    go_wp2_with fail
    refine (HC2.out _ (HBB.out _ HB3.out)).mono ?_; rintro r w4 ⟨rfl, hB4⟩
    have HB4 := hide (HB3.out.trans (hB4.mono HB3.out.size))
    clear s0 s1 s2' s3 s4 t0 t1 t2 t3 t4 hB4 HC2
    obtain ⟨⟨s0, s1, s2', s3, s4⟩, t0, t1, t2, t3, t4⟩ := HS.out _ HB4.out
    by_cases hv : v = 0
    · subst hv
      have HZ := hide (show res = cc by rw [HRES.out]; simp)
      go_wp2_with fail
      refine (HCC.out _ (HBB.out _ HB4.out)).mono ?_; rintro r w5 ⟨rfl, hB5⟩
      have HB5 := hide (HB4.out.trans (hB5.mono HB4.out.size))
      clear hB5 HCC
      go_wp2_with fail
      go_ret
      exact ⟨ret_int HZ.out.symm, HBB.out _ HB5.out⟩
    · have gv : (v != 0) = true := by simpa using hv
      have HZ := hide (show res = 0 by rw [HRES.out]; simp [hv])
      clear hv
      go_wp2_with fail
      go_ret
      exact ⟨ret_int HZ.out.symm, HBB.out _ HB4.out⟩
  · have gz : (z != 0) = true := by simpa using hz
    have HZ := hide (show res = 0 by rw [HRES.out, if_neg hz])
    clear hz
    go_wp2_with fail
    go_ret
    exact ⟨ret_int HZ.out.symm, HBB.out _ HB3.out⟩

set_option maxRecDepth 20000 in
set_option maxHeartbeats 1000000 in
theorem Equal_run (m : Nat) (d : Dt) (A : Option Addr) (c : Nat) (A' : Option Addr) (c' : Nat) (e : Dt) (E : Option Addr) (f : Nat) (E' : Option Addr) (f' : Nat) (w : World) (hp : Parts w w.heap.size m d A c A' c') (hp' : Parts w w.heap.size m e E f E' f') (hf : FitD 16 d) (hf' : FitD 16 e) :
    Calls Tryd.prog 26 #[datV d A c A' c', datV e E f E' f'] w fun r w' => r = .returned (.bool (equalD m d e)) ∧ Below w.heap.size w w' := by
  have HC1 := hide fun w' (hB : Below w.heap.size w w') => Check_run m d A c A' c' w' (hp.turn (Same.of_below hB) hB.size) hf
  have HC2 := hide fun w' (hB : Below w.heap.size w w') => Check_run m e E f E' f' w' (hp'.turn (Same.of_below hB) hB.size) hf'
  have HCC := hide fun w' (hB : Below w.heap.size w w') => comp_run m d A c A' c' e E f E' f' w' (hp.turn (Same.of_below hB) hB.size) (hp'.turn (Same.of_below hB) hB.size)
  obtain ⟨res, hres⟩ : ∃ k, k = equalD m d e := ⟨_, rfl⟩
  rw [← hres]
  unfold datV datCs at HC1 HC2 HCC
  unfold datV datCs
  obtain ⟨z, hz⟩ : ∃ z, z = checkD d := ⟨_, rfl⟩
  obtain ⟨v, hv⟩ : ∃ z, z = checkD e := ⟨_, rfl⟩
  obtain ⟨cc, hcc⟩ : ∃ z, z = compF m d e := ⟨_, rfl⟩
  rw [← hz] at HC1
  rw [← hv] at HC2
  rw [← hcc] at HCC
  unfold equalD at hres
  rw [← hz, ← hv, ← hcc] at hres
  clear hz hv hcc
  have HRES := Lib.hid hres
  obtain ⟨k, hk⟩ : ∃ k, k = kD d := ⟨_, rfl⟩
  obtain ⟨n, hn⟩ : ∃ k, k = nD d := ⟨_, rfl⟩
  obtain ⟨s, hs⟩ : ∃ k, k = sD d := ⟨_, rfl⟩
  obtain ⟨x, hx⟩ : ∃ k, k = (iD d).length := ⟨_, rfl⟩
  obtain ⟨y, hy⟩ : ∃ k, k = (mD d).length := ⟨_, rfl⟩
  rw [← hk, ← hn, ← hs, ← hx, ← hy] at HC1 HCC ⊢
  obtain ⟨k2, hk2⟩ : ∃ k, k = kD e := ⟨_, rfl⟩
  obtain ⟨n2, hn2⟩ : ∃ k, k = nD e := ⟨_, rfl⟩
  obtain ⟨s2, hs2⟩ : ∃ k, k = sD e := ⟨_, rfl⟩
  obtain ⟨x2, hx2⟩ : ∃ k, k = (iD e).length := ⟨_, rfl⟩
  obtain ⟨y2, hy2⟩ : ∃ k, k = (mD e).length := ⟨_, rfl⟩
  rw [← hk2, ← hn2, ← hs2, ← hx2, ← hy2] at HC2 HCC ⊢
  clear hp hp' hres hk hn hs hx hy hk2 hn2 hs2 hx2 hy2
  go_enter Tryd.func26, Tryd.ntmps26
  go_upto_region 1 with fail
  obtain ⟨w1, g, e1, e2, hB1, _, _, _, _, _, hR1⟩ := boxD w k n s (.slice A x c) (.slice A' y c')
  obtain ⟨w2, g2, e3, e4, hB2, _, _, _, _, _, hR2⟩ := boxD w1 k2 n2 s2 (.slice E x2 f) (.slice E' y2 f')
  have e5 : g + 1 = g2 := by rw [← e4, ← e1, ← e2]; simp
  rw [e1, e2, e3, e5]
  have HBL := hide (hB1.trans (hB2.mono hB1.size))
  have HS := hide fun W (h : Below w2.heap.size w2 W) => And.intro (row5 ((hR1.below hB2).below h)) (row5 (hR2.below h))
  have HBB := hide fun W (h : Below w2.heap.size w2 W) => HBL.out.trans (h.mono HBL.out.size)
  clear e1 e2 e3 e4 e5 hB1 hB2 hR1 hR2
  rename_i z0 z1 z2 z3 z4 z5 z6 z7 z8 z9
  clear z0 z1 z2 z3 z4 z5 z6 z7 z8 z9
  obtain ⟨⟨s0, s1, s2', s3, s4⟩, t0, t1, t2, t3, t4⟩ := HS.out _ (Below.refl _ _)
  go_wp2_with fail
  refine (HC1.out _ HBL.out).mono ?_; rintro r w3 ⟨rfl, hB3⟩
  have HB3 := hide hB3
  clear s0 s1 s2' s3 s4 t0 t1 t2 t3 t4 hB3 HC1
  obtain ⟨⟨s0, s1, s2', s3, s4⟩, t0, t1, t2, t3, t4⟩ := HS.out _ HB3.out
  by_cases hz : z = 0
  · subst hz
    go_wp2_with fail
    refine (HC2.out _ (HBB.out _ HB3.out)).mono ?_; rintro r w4 ⟨rfl, hB4⟩
    have HB4 := hide (HB3.out.trans (hB4.mono HB3.out.size))
    clear s0 s1 s2' s3 s4 t0 t1 t2 t3 t4 hB4 HC2
    obtain ⟨⟨s0, s1, s2', s3, s4⟩, t0, t1, t2, t3, t4⟩ := HS.out _ HB4.out
    by_cases hv : v = 0
    · subst hv
      have HZ := hide (show res = (cc == 0) by rw [HRES.out]; rfl)
      go_wp2_with fail
      refine (HCC.out _ (HBB.out _ HB4.out)).mono ?_; rintro r w5 ⟨rfl, hB5⟩
      have HB5 := hide (HB4.out.trans (hB5.mono HB4.out.size))
      clear hB5 HCC
      go_wp2_with fail
      go_ret
      exact ⟨ret_bool HZ.out.symm, HBB.out _ HB5.out⟩
    · have gv : (v == 0) = false := by simpa using hv
      have HZ := hide (show res = false by rw [HRES.out, gv]; rfl)
      clear hv
      go_wp2_with fail
      go_ret
      exact ⟨ret_bool HZ.out.symm, HBB.out _ HB4.out⟩
  · have gz : (z == 0) = false := by simpa using hz
    have HZ := hide (show res = false by rw [HRES.out, gz]; rfl)
    clear hz
    go_wp2_with fail
    go_ret
    exact ⟨ret_bool HZ.out.symm, HBB.out _ HB3.out⟩
end Go.Proofs.YtajpgmacabeeeaaDoor
