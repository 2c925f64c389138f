/- check and Check; check and Check of the reference; size, short and Small of the reference; short and Small of the reference; measure, Depth and Size; depth, Depth and Size of the reference; depth, Depth and Size of the reference. -/
import Derived.Test.YtajpgmacabeeeaaDoorGA

/- check and Check. -/
namespace Go.Proofs.YtajpgmacabeeeaaDoor
open Go.RowKit

/-- The first error that f finds. -/
def firstE (f : Dt → Int) : List Dt → Int
  | [] => 0
  | x :: l => if f x = 0 then firstE f l else f x
/-- The first error of data of which so many levels are left. -/
def checkF : Nat → Dt → Int
  | 0, _ => 9
  | r + 1, d => if ownD d = 0 then firstE (checkF r) (kids d) else ownD d
def checkD (d : Dt) : Int := checkF 16 d
/-- No part has too many parts of its own, so many levels down. -/
def FitD : Nat → Dt → Prop
  | 0, _ => True
  | r + 1, d => (kids d).length ≤ 1000000000 ∧ ∀ x ∈ kids d, FitD r x

set_option maxRecDepth 20000 in
set_option maxHeartbeats 1000000 in
theorem check_run : ∀ (r m : Nat) (d : Dt) (A : Option Addr) (c : Nat) (A' : Option Addr) (c' : Nat) (lv : Int) (w : World), lv = 17 - r → r ≤ 16 → Parts w w.heap.size m d A c A' c' → FitD r d →
    Calls Tryd.prog 39 #[datV d A c A' c', .int .i64 lv] w fun e w' => e = .returned (.int .i64 (checkF r d)) ∧ Below w.heap.size w w' := by
  intro r
  induction r with
  | zero =>
    intro m d A c A' c' lv w hlv _ hp _
    have hl := hp.lens
    obtain ⟨h1, h2, h3, h4⟩ := hl
    have hm := maxLen_le h2; have hm' := maxLen_le h4
    obtain rfl : lv = 17 := by simpa using hlv
    unfold datV datCs checkF
    clear hp h2 h4 hlv
    go_enter Tryd.func39, Tryd.ntmps39
    go_wp2_with fail
    go_ret
    exact ⟨rfl, below_al (Below.refl _ _) _⟩
  | succ r ih =>
    intro m d A c A' c' lv w hlv hr hp hfit
    obtain _ | m := m
    · exact hp.elim
    obtain ⟨hfl, hfk⟩ := hfit
    have hlen : (iD d).length + (mD d).length ≤ 1000000000 := by
      unfold kids at hfl
      rw [List.length_append, List.length_map] at hfl
      exact hfl
    obtain ⟨h1, h2, h3, h4⟩ := hp.lens
    have hm := maxLen_le h2; have hm' := maxLen_le h4
    have HOWN := hide fun w' (hB : Below w.heap.size w w') => own_run d A c A' c' w' (Parts w w.heap.size m) hp.lens (hp.2.2.turn (Same.of_below hB) hB.size fun _ _ _ _ _ h => h)
    have HCH := hide fun w' (hB : Below w.heap.size w w') => children_run d A c A' c' m w' (hp.turn (Same.of_below hB) hB.size) hlen
    have g1 : decide (lv > 16) = false := by simp; omega
    have HFK := Lib.hid hfk
    have wlv : IntKind.i64.wrap (lv + 1) = lv + 1 := IntWalk.i64_in _ (by omega)
    have hlv' : lv + 1 = 17 - (r : Int) := by omega
    have HLV := Lib.hid hlv'
    obtain ⟨res, hres⟩ : ∃ k, k = checkF (r + 1) d := ⟨_, rfl⟩
    rw [← hres]
    unfold checkF at hres
    unfold datV datCs at HOWN HCH
    unfold datV datCs
    obtain ⟨o, ho⟩ : ∃ k, k = ownD d := ⟨_, rfl⟩
    rw [← ho] at HOWN hres
    obtain ⟨L, hL⟩ : ∃ k, k = kids d := ⟨_, rfl⟩
    rw [← hL] at HCH hres HFK hfl
    obtain ⟨k, hk⟩ : ∃ k, k = kD d := ⟨_, rfl⟩
    obtain ⟨n, hn'⟩ : ∃ k, k = nD d := ⟨_, rfl⟩
    obtain ⟨s, hs⟩ : ∃ k, k = sD d := ⟨_, rfl⟩
    obtain ⟨x, hx⟩ : ∃ k, k = (iD d).length := ⟨_, rfl⟩
    obtain ⟨y, hy⟩ : ∃ k, k = (mD d).length := ⟨_, rfl⟩
    rw [← hk, ← hn', ← hs, ← hx, ← hy] at HOWN HCH
    rw [← hk, ← hn', ← hs, ← hx, ← hy]
    rw [← hx] at h1
    rw [← hy] at h3
    have HRES := Lib.hid hres
    clear hk hn' hs hx hy ho hL hres h2 h4 hp hlen hfk hlv hlv'
    go_enter Tryd.func39, Tryd.ntmps39
    go_upto_region 1 with fail
    obtain ⟨w1, g, e1, e2, hBL, c0, c1, c2, c3, c4, hROW⟩ := boxD w k n s (.slice A x c) (.slice A' y c')
    rw [e1, e2]
    have HBL := hide hBL; have HROW := hide hROW
    clear e1 e2 hBL hROW
    go_wp2_with fail
    refine (HOWN.out _ HBL.out).mono ?_; rintro e w2 ⟨rfl, hB2⟩
    have HROW2 := hide (HROW.out.below hB2)
    obtain ⟨c0', c1', c2', c3', c4'⟩ := row5 HROW2.out
    have HB2 := hide (HBL.out.trans (hB2.mono HBL.out.size))
    clear c0 c1 c2 c3 c4 HOWN hB2 HROW HBL
    by_cases ho : o = 0
    · subst ho
      have hz : res = firstE (checkF r) L := by rw [HRES.out, if_pos rfl]
      have HZ := Lib.hid hz
      clear hz HRES
      go_wp2_with fail
      refine (HCH.out _ HB2.out).mono ?_; rintro e w3 ⟨u, rfl, hB3, hD3⟩
      have HB3 := hide (HB2.out.trans (hB3.mono HB2.out.size))
      obtain ⟨Au, cu, rfl, hu1, hu2, hels⟩ := hD3
      have hmu := maxLen_le hu2
      obtain ⟨N, hN⟩ : ∃ N, N = L.length := ⟨_, rfl⟩
      rw [← hN] at hu1 hfl ⊢
      have HN := Lib.hid hN; have HEL := Lib.hid hels
      clear hB3 hu2 hN hels c0' c1' c2' c3' c4' HCH HB2 HROW2
      go_wp2_with fail
      go_loopw [7, 8, 19] (fun _ _ iv wr => ∃ i : Nat, iv = .int .i64 i ∧ i ≤ N ∧ Hid (res = firstE (checkF r) (L.drop i)) ∧ Hid (Below w3.heap.size w3 wr)) (fun _ _ iv _ => N - (intOf iv).toNat)
      case atStart => exact ⟨0, rfl, Nat.zero_le _, HZ, hide (Below.refl _ _)⟩
      case round =>
        clear HZ
        obtain ⟨i, rfl, hi, hI, hB⟩ := hrel
        by_cases hlt : i < N
        · have hlt' : i < L.length := by rw [← HN.out]; exact hlt
          obtain ⟨ad, rfl, hb, a, q, a', q', hfive, hpts⟩ := HEL.out i _ (List.getElem?_eq_getElem hlt')
          have hq := hI.out
          rw [drop_at hlt', firstE] at hq
          have hfx := HFK.out _ (List.getElem_mem hlt')
          obtain ⟨X, hX⟩ : ∃ X, X = L[i] := ⟨_, rfl⟩
          rw [← hX] at hfive hpts hq hfx
          have hbb : (ad.add (i * 5)).block < w3.heap.size := by rw [block_of_add]; exact hb
          obtain ⟨s0, s1, s2, s3, s4⟩ := hfive.same hbb (Same.of_below hB.out)
          have HPT := hide hpts
          have HCK := hide fun w' (hB' : Below w3.heap.size w3 w') => ih m X a q a' q' (lv + 1) w' HLV.out (by omega) (hpts.turn (Same.of_below hB') hB'.size) hfx
          have HQ := Lib.hid hq
          clear hfive hpts hX hlt' hb hbb hI hq hfx
          unfold datV datCs at HCK
          obtain ⟨z, hz⟩ : ∃ z, z = checkF r X := ⟨_, rfl⟩
          rw [← hz] at HCK HQ
          clear hz
          go_wp2_with fail
          refine (HCK.out _ (below_al hB.out _)).mono ?_; rintro e w4 ⟨rfl, hB4⟩
          have HB4 := hide ((below_al hB.out _).trans (hB4.mono (Nat.le_trans hB.out.size (by simp))))
          clear hB4 HCK s0 s1 s2 s3 s4
          by_cases hz0 : z = 0
          · subst hz0
            have HQ2 := hide (show res = firstE (checkF r) (L.drop (i + 1)) by rw [HQ.out, if_pos rfl])
            go_wp2_with fail
            go_roundw
            case rel => exact ⟨i + 1, by go_num, by omega, HQ2, HB4⟩
            case measure => simp [intOf]; omega
          · have hzz : res = z := by rw [HQ.out, if_neg hz0]
            have HZ := Lib.hid hzz
            have g2 : (z != 0) = true := by simpa using hz0
            clear hzz hz0
            go_wp2_with fail
            go_ret
            exact ⟨ret_int HZ.out.symm, HB3.out.trans (HB4.out.mono HB3.out.size)⟩
        · obtain rfl : i = N := by omega
          have hz : res = 0 := by rw [hI.out, List.drop_eq_nil_of_le (by rw [HN.out]; exact Nat.le_refl _)]; rfl
          have HZ := Lib.hid hz
          clear hz hI
          go_wp2_with fail
          go_ret
          exact ⟨ret_int HZ.out.symm, HB3.out.trans (hB.out.mono HB3.out.size)⟩
    · have hz : res = o := by rw [HRES.out, if_neg ho]
      have HZ := Lib.hid hz
      have g2 : (o != 0) = true := by simpa using ho
      clear hz ho
      go_wp2_with fail
      go_ret
      exact ⟨ret_int HZ.out.symm, HB2.out⟩

set_option maxRecDepth 20000 in
theorem Check_run (m : Nat) (d : Dt) (A : Option Addr) (c : Nat) (A' : Option Addr) (c' : Nat) (w : World) (hp : Parts w w.heap.size m d A c A' c') (hf : FitD 16 d) :
    Calls Tryd.prog 15 #[datV d A c A' c'] w fun e w' => e = .returned (.int .i64 (checkD d)) ∧ Below w.heap.size w w' := by
  have HC := hide fun w' (hB : Below w.heap.size w w') => check_run 16 m d A c A' c' 1 w' rfl (by omega) (hp.turn (Same.of_below hB) hB.size) hf
  unfold checkD
  unfold datV datCs at HC
  unfold datV datCs
  clear hp
  go_enter Tryd.func15, Tryd.ntmps15
  go_wp2_with fail
  have hB0 := below_al (Below.refl w.heap.size w) (Obj.cells #[Value.int IntKind.i64 (kD d), Value.int IntKind.i64 (nD d), Value.string (sD d), Value.slice A (iD d).length c, Value.slice A' (mD d).length c'] 25)
  refine (HC.out _ hB0).mono ?_; rintro e w1 ⟨rfl, hB⟩
  go_wp2_with fail
  go_ret
  exact ⟨rfl, hB0.trans (hB.mono hB0.size)⟩
end Go.Proofs.YtajpgmacabeeeaaDoor

/- check and Check of the reference. -/
namespace Go.Proofs.YtajpgmacabeeeaaDoor
open Go.RowKit

set_option maxRecDepth 20000 in
set_option maxHeartbeats 2000000 in
theorem refcheck_run : ∀ (r m : Nat) (d : Dt) (A : Option Addr) (c : Nat) (A' : Option Addr) (c' : Nat) (lv : Int) (w : World), lv = 17 - r → r ≤ 16 → Parts w w.heap.size m d A c A' c' →
    Calls Tryd.prog 40 #[datV d A c A' c', .int .i64 lv] w fun e w' => e = .returned (.int .i64 (checkF r d)) ∧ Below w.heap.size w w' := by
  intro r
  induction r with
  | zero =>
    intro m d A c A' c' lv w hlv _ hp
    have hl := hp.lens
    obtain ⟨h1, h2, h3, h4⟩ := hl
    have hm := maxLen_le h2; have hm' := maxLen_le h4
    obtain rfl : lv = 17 := by simpa using hlv
    unfold datV datCs checkF
    clear hp h2 h4 hlv
    go_enter Tryd.func40, Tryd.ntmps40
    go_wp2_with fail
    go_ret
    exact ⟨rfl, below_al (Below.refl _ _) _⟩
  | succ r ih =>
    intro m d A c A' c' lv w hlv hr hp
    obtain _ | m := m
    · exact hp.elim
    obtain ⟨h1, h2, h3, h4⟩ := hp.lens
    have hm := maxLen_le h2; have hm' := maxLen_le h4
    have HO := hide fun w' => plain_run d A c A' c' w' hp.lens
    have HI := Lib.hid hp.2.1; have HM := Lib.hid hp.2.2
    have g1 : decide (lv > 16) = false := by simp; omega
    have wlv : IntKind.i64.wrap (lv + 1) = lv + 1 := IntWalk.i64_in _ (by omega)
    have HLV := Lib.hid (show lv + 1 = 17 - (r : Int) by omega)
    obtain ⟨res, hres⟩ : ∃ k, k = checkF (r + 1) d := ⟨_, rfl⟩
    rw [← hres]
    unfold checkF ownD rangeB kids at hres
    unfold datV datCs at HO
    unfold datV datCs
    obtain ⟨b, hb⟩ : ∃ b, b = plainB d := ⟨_, rfl⟩
    obtain ⟨k, hk⟩ : ∃ k, k = kD d := ⟨_, rfl⟩
    obtain ⟨n, hn⟩ : ∃ k, k = nD d := ⟨_, rfl⟩
    obtain ⟨s, hs⟩ : ∃ k, k = sD d := ⟨_, rfl⟩
    obtain ⟨IS, hIS⟩ : ∃ k, k = iD d := ⟨_, rfl⟩
    obtain ⟨MS, hMS⟩ : ∃ k, k = mD d := ⟨_, rfl⟩
    rw [← hk, ← hn, ← hb, ← hIS, ← hMS] at hres
    rw [← hk, ← hn, ← hs, ← hb, ← hIS, ← hMS] at HO
    rw [← hk, ← hn, ← hs, ← hIS, ← hMS]
    rw [← hIS] at h1 HI
    rw [← hMS] at h3 HM
    obtain ⟨x, hx⟩ : ∃ k, k = IS.length := ⟨_, rfl⟩
    obtain ⟨y, hy⟩ : ∃ k, k = MS.length := ⟨_, rfl⟩
    rw [← hx, ← hy] at HO ⊢
    rw [← hx] at h1
    rw [← hy] at h3
    obtain ⟨v, hv⟩ : ∃ b, b = validB n := ⟨_, rfl⟩
    have HV := hide fun w => refValid_run n w
    rw [← hv] at hres HV
    have HRES := Lib.hid hres; have HX := Lib.hid hx; have HY := Lib.hid hy
    clear hk hn hs hx hy hb hv hIS hMS h2 h4 hres hp hlv
    go_enter Tryd.func40, Tryd.ntmps40
    go_upto_region 1 with fail
    obtain ⟨w1, g, e1, e2, hBL, c0, c1, c2, c3, c4, hROW⟩ := boxD w k n s (.slice A x c) (.slice A' y c')
    rw [e1, e2]
    have HBL := hide hBL; have HROW := hide hROW
    clear e1 e2 hBL hROW
    go_wp2_with fail
    refine (HO.out _).mono ?_; rintro e w2 ⟨rfl, hB2⟩
    have HROW2 := hide (HROW.out.below hB2)
    obtain ⟨c0', c1', c2', c3', c4'⟩ := row5 HROW2.out
    have HB2 := hide (HBL.out.trans (hB2.mono HBL.out.size))
    have HGL := hide (show g < w2.heap.size from HROW2.out.lt)
    clear c0 c1 c2 c3 c4 HO hB2 HROW HBL
    cases b with
    | false =>
      have hz : res = 11 := by rw [HRES.out]; simp
      have HZ := Lib.hid hz
      clear hz
      go_wp2_with fail
      go_ret
      exact ⟨ret_int HZ.out.symm, HB2.out⟩
    | true =>
      obtain ⟨q, hq⟩ : ∃ q, q = ((k == 2 && n != 0 && n != 1) || (k == 3 && !v)) := ⟨_, rfl⟩
      have hr2 := HRES.out
      rw [← hq] at hr2
      have HR2 := Lib.hid hr2; have HQ := Lib.hid hq
      clear HRES hr2 hq
      go_upto_region 5 with fail
      go_cut [38] from 15 to 37 (fun a wc => a = .bool q ∧ wc = w2)
      case first =>
        cases v with
        | true =>
          go_wp2_with (first | (go_at_call 58; refine (HV.out _).mono ?_; rintro e w3 ⟨rfl, rfl⟩) | fail)
          all_goals
            subst_vars
            go_meet
            case rel =>
              refine ⟨?_, rfl⟩
              simp_all
        | false =>
          go_wp2_with (first | (go_at_call 58; refine (HV.out _).mono ?_; rintro e w3 ⟨rfl, rfl⟩) | fail)
          all_goals
            subst_vars
            go_meet
            case rel =>
              refine ⟨?_, rfl⟩
              simp_all
      case rest =>
        obtain ⟨rfl, rfl⟩ := hcut
        obtain ⟨w2, rfl⟩ : ∃ we, we = wc := ⟨_, rfl⟩
        cases q with
        | true =>
          have hz : res = 1 := by rw [HR2.out]; simp
          have HZ := Lib.hid hz
          clear hz
          go_wp2_with fail
          go_ret
          exact ⟨ret_int HZ.out.symm, HB2.out⟩
        | false =>
          have HA := hide (show ascB MS = false → res = 6 from fun h => by rw [HR2.out, h]; simp)
          have HOK := hide (show ascB MS = true → res = firstE (checkF r) (IS ++ MS.map Prod.snd) from fun h => by rw [HR2.out, h]; simp)
          clear HR2 HQ HV
          go_wp2_with fail
          go_loopw [5] (fun iv wr => ∃ i m : Nat, iv = .int .i64 i ∧ wr = w2.drewN m ∧ 1 ≤ i ∧ (i ≤ y ∨ i = 1) ∧ Hid (∀ h : i - 1 < MS.length, ascB MS = ascL (MS[i - 1]).1 (MS.drop i))) (fun iv _ => y + 1 - (intOf iv).toNat)
          case atStart => exact ⟨1, 0, rfl, rfl, by omega, .inr rfl, hide fun h => asc_start h⟩
          case round =>
            obtain ⟨i, m0, rfl, rfl, h1i, hiy, hI⟩ := hrel
            by_cases hlt : i < y
            · have hlt' : i < MS.length := by rw [← HY.out]; exact hlt
              obtain ⟨j, hj⟩ : ∃ j, i = j + 1 := ⟨i - 1, by omega⟩
              have hjl : j < MS.length := by omega
              have hjy : j < y := by omega
              obtain ⟨ad, rfl, hb, hc, hF1⟩ := HM.out i _ (List.getElem?_eq_getElem hlt')
              obtain ⟨ad', e', hb', hc', hF2⟩ := HM.out j _ (List.getElem?_eq_getElem hjl)
              obtain rfl : ad = ad' := Option.some.inj e'
              have hq := hI.out (by omega)
              have hij : MS[i - 1]'(by omega) = MS[j] := by congr 1; omega
              rw [hij, drop_at hlt', ascL] at hq
              obtain ⟨La, hLa⟩ : ∃ l, l = (MS[j]).1 := ⟨_, rfl⟩
              obtain ⟨Lb, hLb⟩ : ∃ l, l = (MS[i]).1 := ⟨_, rfl⟩
              have HLB := Lib.hid hLb
              rw [← hLb] at hc hq
              rw [← hLa] at hc' hq
              have hca := (HB2.out.cell (p := ad.add (j * 6)) (by rw [block_of_add]; exact hb)).trans hc'
              have hcb := (HB2.out.cell (p := ad.add (i * 6)) (by rw [block_of_add]; exact hb)).trans hc
              have wj : IntKind.i64.wrap ((i : Int) - 1) = (j : Int) := by rw [IntWalk.i64_in _ (by omega)]; omega
              unfold ltB at hq
              have HQQ := Lib.hid hq
              clear hLa hLb hij hq hc hc' hb' e' hI hj hF1 hF2 hjl
              cases hlab : Op.bytesLess La.toList Lb.toList with
              | false =>
                have HZ := hide (show res = 6 from HA.out (by rw [HQQ.out, hlab]; simp))
                go_wp2_with fail
                go_quiet (fail)
                go_wp2_with fail
                go_ret
                exact ⟨ret_int HZ.out.symm, by first | exact below_drewN (below_drewN HB2.out _) _ | exact below_drewN HB2.out _⟩
              | true =>
                have HZ := hide (show ascB MS = ascL Lb (MS.drop (i + 1)) by rw [HQQ.out, hlab]; simp)
                go_wp2_with fail
                go_quiet (fail)
                go_wp2_with fail
                go_roundw
                case rel => exact ⟨i + 1, _, by go_num, by first | exact (drew2 _ _ _).choose_spec | rfl, by omega, .inl hlt, hide fun h => by rw [HZ.out, HLB.out]; rfl⟩
                case measure => simp [intOf]; omega
            · have hasc : ascB MS = true := by
                rcases Nat.eq_zero_or_pos y with h | h
                · have : MS = [] := List.eq_nil_of_length_eq_zero (by rw [← HY.out]; exact h)
                  rw [this]; rfl
                · have hY := HY.out
                  have hq := hI.out (by omega)
                  rw [hq, List.drop_eq_nil_of_le (by omega)]; rfl
              have HZ := Lib.hid (HOK.out hasc)
              have HB3 := hide (below_drewN HB2.out m0)
              have HROW3 := hide (HROW2.out.drewN m0)
              obtain ⟨w3, hw3⟩ : ∃ w3, w3 = w2.drewN m0 := ⟨_, rfl⟩
              rw [← hw3] at HB3 HROW3 ⊢
              clear hasc hI HA HOK hw3 hiy h1i HROW2 HB2
              obtain ⟨c0, c1, c2, c3, c4⟩ := row5 HROW3.out
              clear c0' c1' c2' c3' c4'
              go_wp2_with fail
              clear c0 c1 c2 c3 c4
              go_loopw [6, 7] (fun iv _ wr => ∃ i : Nat, iv = .int .i64 i ∧ i ≤ x ∧ Hid (res = firstE (checkF r) (IS.drop i ++ MS.map Prod.snd)) ∧ Hid (Below w3.heap.size w3 wr)) (fun iv _ _ => x - (intOf iv).toNat)
              case atStart => exact ⟨0, rfl, Nat.zero_le _, HZ, hide (Below.refl _ _)⟩
              case round =>
                clear HZ
                obtain ⟨i, rfl, hi, hI, hB⟩ := hrel
                obtain ⟨c0, c1, c2, c3, c4⟩ := row5 (HROW3.out.below hB.out)
                by_cases hlt : i < x
                · have hlt' : i < IS.length := by rw [← HX.out]; exact hlt
                  obtain ⟨ad, rfl, hb, a, q, a', q', hfive, hpts⟩ := HI.out i _ (List.getElem?_eq_getElem hlt')
                  have hq := hI.out
                  rw [drop_at hlt', List.cons_append, firstE] at hq
                  obtain ⟨X, hX⟩ : ∃ X, X = IS[i] := ⟨_, rfl⟩
                  rw [← hX] at hfive hpts hq
                  have hbb : (ad.add (i * 5)).block < w.heap.size := by rw [block_of_add]; exact hb
                  have hBB := HB3.out.trans (hB.out.mono HB3.out.size)
                  obtain ⟨s0, s1, s2, s3, s4⟩ := hfive.same hbb (Same.of_below hBB)
                  have HCK := hide (ih m X a q a' q' (lv + 1) wr HLV.out (by omega) (hpts.turn (Same.of_below hBB) hBB.size))
                  have HQ := Lib.hid hq
                  clear hfive hpts hX hlt' hb hbb hI hq hBB
                  unfold datV datCs at HCK
                  obtain ⟨z, hz⟩ : ∃ z, z = checkF r X := ⟨_, rfl⟩
                  rw [← hz] at HCK HQ
                  clear hz
                  go_wp2_with fail
                  refine (unhide HCK).mono ?_; rintro e w4 ⟨rfl, hB4⟩
                  have HB4 := hide (hB.out.trans (hB4.mono hB.out.size))
                  clear hB4 HCK s0 s1 s2 s3 s4 c0 c1 c2 c3 c4
                  by_cases hz0 : z = 0
                  · subst hz0
                    have HQ2 := hide (show res = firstE (checkF r) (IS.drop (i + 1) ++ MS.map Prod.snd) by rw [HQ.out, if_pos rfl])
                    go_wp2_with fail
                    go_roundw
                    case rel => exact ⟨i + 1, by go_num, by omega, HQ2, HB4⟩
                    case measure => simp [intOf]; omega
                  · have hzz : res = z := by rw [HQ.out, if_neg hz0]
                    have HZ := Lib.hid hzz
                    have g2 : (z != 0) = true := by simpa using hz0
                    clear hzz hz0
                    go_wp2_with fail
                    go_ret
                    exact ⟨ret_int HZ.out.symm, HB3.out.trans (HB4.out.mono HB3.out.size)⟩
                · have HZ := hide (show res = firstE (checkF r) ((MS.drop 0).map Prod.snd) by rw [hI.out, List.drop_eq_nil_of_le (by rw [← HX.out]; omega)]; rfl)
                  have HB4 := hide (HB3.out.trans (hB.out.mono HB3.out.size))
                  have HROW4 := hide (HROW3.out.below hB.out)
                  clear hI HROW3 HB3 hB
                  obtain ⟨w4, rfl⟩ : ∃ w4, w4 = wr := ⟨_, rfl⟩
                  go_wp2_with fail
                  clear c0 c1 c2 c3 c4
                  go_loopw [8, 9] (fun iv _ wr => ∃ i : Nat, iv = .int .i64 i ∧ i ≤ y ∧ Hid (res = firstE (checkF r) ((MS.drop i).map Prod.snd)) ∧ Hid (Below w4.heap.size w4 wr)) (fun iv _ _ => y - (intOf iv).toNat)
                  case atStart => exact ⟨0, rfl, Nat.zero_le _, HZ, hide (Below.refl _ _)⟩
                  case round =>
                    clear HZ
                    obtain ⟨i, rfl, hi, hI, hB⟩ := hrel
                    obtain ⟨c0, c1, c2, c3, c4⟩ := row5 (HROW4.out.below hB.out)
                    by_cases hlt : i < y
                    · have hlt' : i < MS.length := by rw [← HY.out]; exact hlt
                      obtain ⟨ad, rfl, hb, hlab, a, q, a', q', hfive, hpts⟩ := HM.out i _ (List.getElem?_eq_getElem hlt')
                      have hq := hI.out
                      rw [drop_at hlt', List.map_cons, firstE] at hq
                      obtain ⟨X, hX⟩ : ∃ X, X = MS[i] := ⟨_, rfl⟩
                      rw [← hX] at hfive hpts hq hlab
                      have hbb : (ad.add (i * 6)).block < w.heap.size := by rw [block_of_add]; exact hb
                      have hBB := HB4.out.trans (hB.out.mono HB4.out.size)
                      obtain ⟨s0, s1, s2, s3, s4, s5⟩ := six_of ((hBB.cell (p := ad.add (i * 6)) hbb).trans hlab) (hfive.same (p := ⟨_, _, none⟩) hbb (Same.of_below hBB))
                      have HCK := hide (ih m X.2 a q a' q' (lv + 1) wr HLV.out (by omega) (hpts.turn (Same.of_below hBB) hBB.size))
                      have HQ := Lib.hid hq
                      clear hfive hpts hX hlt' hb hbb hI hq hBB hlab
                      unfold datV datCs at HCK
                      obtain ⟨z, hz⟩ : ∃ z, z = checkF r X.2 := ⟨_, rfl⟩
                      rw [← hz] at HCK HQ
                      clear hz
                      go_wp2_with fail
                      refine (unhide HCK).mono ?_; rintro e w5 ⟨rfl, hB5⟩
                      have HB5 := hide (hB.out.trans (hB5.mono hB.out.size))
                      clear hB5 HCK s0 s1 s2 s3 s4 s5 c0 c1 c2 c3 c4
                      by_cases hz0 : z = 0
                      · subst hz0
                        have HQ2 := hide (show res = firstE (checkF r) ((MS.drop (i + 1)).map Prod.snd) by rw [HQ.out, if_pos rfl])
                        go_wp2_with fail
                        go_roundw
                        case rel => exact ⟨i + 1, by go_num, by omega, HQ2, HB5⟩
                        case measure => simp [intOf]; omega
                      · have hzz : res = z := by rw [HQ.out, if_neg hz0]
                        have HZ := Lib.hid hzz
                        have g2 : (z != 0) = true := by simpa using hz0
                        clear hzz hz0
                        go_wp2_with fail
                        go_ret
                        exact ⟨ret_int HZ.out.symm, HB4.out.trans (HB5.out.mono HB4.out.size)⟩
                    · have HZ := hide (show res = 0 by rw [hI.out, List.drop_eq_nil_of_le (by rw [← HY.out]; omega)]; rfl)
                      clear hI
                      go_wp2_with fail
                      go_ret
                      exact ⟨ret_int HZ.out.symm, HB4.out.trans (hB.out.mono HB4.out.size)⟩

set_option maxRecDepth 20000 in
theorem refCheck_run (m : Nat) (d : Dt) (A : Option Addr) (c : Nat) (A' : Option Addr) (c' : Nat) (w : World) (hp : Parts w w.heap.size m d A c A' c') :
    Calls Tryd.prog 16 #[datV d A c A' c'] w fun e w' => e = .returned (.int .i64 (checkD d)) ∧ Below w.heap.size w w' := by
  have HC := hide fun w' (hB : Below w.heap.size w w') => refcheck_run 16 m d A c A' c' 1 w' rfl (by omega) (hp.turn (Same.of_below hB) hB.size)
  unfold checkD
  unfold datV datCs at HC
  unfold datV datCs
  clear hp
  go_enter Tryd.func16, Tryd.ntmps16
  go_wp2_with fail
  have hB0 := below_al (Below.refl w.heap.size w) (Obj.cells #[Value.int IntKind.i64 (kD d), Value.int IntKind.i64 (nD d), Value.string (sD d), Value.slice A (iD d).length c, Value.slice A' (mD d).length c'] 25)
  refine (HC.out _ hB0).mono ?_; rintro e w1 ⟨rfl, hB⟩
  go_wp2_with fail
  go_ret
  exact ⟨rfl, hB0.trans (hB.mono hB0.size)⟩
set_option maxRecDepth 20000 in
theorem refValidD_run (m : Nat) (d : Dt) (A : Option Addr) (c : Nat) (A' : Option Addr) (c' : Nat) (w : World) (hp : Parts w w.heap.size m d A c A' c') :
    Calls Tryd.prog 44 #[datV d A c A' c'] w fun e w' => e = .returned (.bool (checkD d == 0)) ∧ Below w.heap.size w w' := by
  have HC := hide fun w' (hB : Below w.heap.size w w') => refCheck_run m d A c A' c' w' (hp.turn (Same.of_below hB) hB.size)
  unfold datV datCs at HC
  unfold datV datCs
  obtain ⟨v, hv⟩ : ∃ v, v = checkD d := ⟨_, rfl⟩
  rw [← hv] at HC ⊢
  clear hp hv
  go_enter Tryd.func44, Tryd.ntmps44
  go_wp2_with fail
  have hB0 := below_al (Below.refl w.heap.size w) (Obj.cells #[Value.int IntKind.i64 (kD d), Value.int IntKind.i64 (nD d), Value.string (sD d), Value.slice A (iD d).length c, Value.slice A' (mD d).length c'] 25)
  refine (HC.out _ hB0).mono ?_; rintro e w1 ⟨rfl, hB⟩
  go_wp2_with fail
  go_ret
  exact ⟨rfl, hB0.trans (hB.mono hB0.size)⟩
end Go.Proofs.YtajpgmacabeeeaaDoor

/- size, short and Small of the reference. -/
namespace Go.Proofs.YtajpgmacabeeeaaDoor
open Go.RowKit

/-- The loop of size. -/
def loopS (f : Dt → Int → Int) (most : Int) : List Dt → Int → Int
  | [], n => n
  | x :: l, n => if n ≤ most then loopS f most l (n + f x (most - n)) else n
def sizeF : Nat → Dt → Int → Int
  | 0, _, _ => 0
  | m + 1, d, most => loopS (sizeF m) most (kids d) 1
theorem loopS_le (f : Dt → Int → Int) (hf : ∀ x b, 0 ≤ b → 0 ≤ f x b ∧ f x b ≤ b + 1) (most : Int) : ∀ (l : List Dt) (n : Int), 1 ≤ n → n ≤ most + 1 → 1 ≤ loopS f most l n ∧ loopS f most l n ≤ most + 1
  | [], n, h1, h2 => ⟨h1, h2⟩
  | x :: l, n, h1, h2 => by
    unfold loopS
    split
    · have := hf x (most - n) (by omega)
      exact loopS_le f hf most l _ (by omega) (by omega)
    · exact ⟨h1, h2⟩
theorem sizeF_le : ∀ (m : Nat) (d : Dt) (most : Int), 0 ≤ most → 0 ≤ sizeF m d most ∧ sizeF m d most ≤ most + 1
  | 0, _, most, h => by simp [sizeF]; omega
  | m + 1, d, most, h => by
    have := loopS_le (sizeF m) (fun x b hb => sizeF_le m x b hb) most (kids d) 1 (by omega) (by omega)
    unfold sizeF; omega
theorem loopS_append (f : Dt → Int → Int) (most : Int) : ∀ (a b : List Dt) (n : Int), loopS f most (a ++ b) n = loopS f most b (loopS f most a n)
  | [], b, n => rfl
  | x :: a, b, n => by
    by_cases h : n ≤ most
    · rw [List.cons_append, loopS, if_pos h, loopS, if_pos h]; exact loopS_append f most a b _
    · rw [List.cons_append, loopS, if_neg h, loopS, if_neg h]
      cases b with
      | nil => rfl
      | cons y b => rw [loopS, if_neg h]

set_option maxRecDepth 20000 in
set_option maxHeartbeats 1000000 in
theorem size_run : ∀ (m : Nat) (d : Dt) (A : Option Addr) (c : Nat) (A' : Option Addr) (c' : Nat) (most : Int) (w : World), 0 ≤ most → most ≤ 2000000000 → Parts w w.heap.size m d A c A' c' →
    Calls Tryd.prog 36 #[datV d A c A' c', .int .i64 most] w fun e w' => e = .returned (.int .i64 (sizeF m d most)) ∧ Below w.heap.size w w' := by
  intro m
  induction m with
  | zero => intro d  A  c  A'  c'  most  w  _  _  hp; exact hp.elim
  | succ m ih =>
    intro d  A  c  A'  c'  most  w  hm0  hm1  hp
    obtain ⟨h1, h2, h3, h4⟩ := hp.lens
    have hm := maxLen_le h2; have hm' := maxLen_le h4
    have HI := Lib.hid hp.2.1; have HM := Lib.hid hp.2.2
    obtain ⟨res, hres⟩ : ∃ k, k = sizeF (m + 1) d most := ⟨_, rfl⟩
    rw [← hres]
    unfold sizeF kids at hres
    unfold datV datCs
    obtain ⟨k, hk⟩ : ∃ k, k = kD d := ⟨_, rfl⟩
    obtain ⟨n, hn⟩ : ∃ k, k = nD d := ⟨_, rfl⟩
    obtain ⟨s, hs⟩ : ∃ k, k = sD d := ⟨_, rfl⟩
    obtain ⟨IS, hIS⟩ : ∃ k, k = iD d := ⟨_, rfl⟩
    obtain ⟨MS, hMS⟩ : ∃ k, k = mD d := ⟨_, rfl⟩
    rw [← hIS, ← hMS] at hres
    rw [← hk, ← hn, ← hs, ← hIS, ← hMS]
    rw [← hIS] at h1 HI
    rw [← hMS] at h3 HM
    obtain ⟨x, hx⟩ : ∃ k, k = IS.length := ⟨_, rfl⟩
    obtain ⟨y, hy⟩ : ∃ k, k = MS.length := ⟨_, rfl⟩
    rw [← hx, ← hy]
    rw [← hx] at h1
    rw [← hy] at h3
    have HRES := Lib.hid hres; have HX := Lib.hid hx; have HY := Lib.hid hy
    clear hk hn hs hx hy hIS hMS h2 h4 hres hp
    go_enter Tryd.func36, Tryd.ntmps36
    go_upto_region 1 with fail
    obtain ⟨w1, g, e1, e2, hBL, c0, c1, c2, c3, c4, hROW⟩ := boxD w k n s (.slice A x c) (.slice A' y c')
    rw [e1, e2]
    have HBL := hide hBL; have HROW := hide hROW
    clear e1 e2 hBL hROW
    go_wp2_with fail
    clear c0 c1 c2 c3 c4
    go_loopw [5, 6] (fun nv iv wr => ∃ (i : Nat) (N : Int), iv = .int .i64 i ∧ nv = .int .i64 N ∧ i ≤ x ∧ 1 ≤ N ∧ N ≤ most + 1 ∧ Hid (res = loopS (sizeF m) most (IS.drop i ++ MS.map Prod.snd) N) ∧ Hid (Below w1.heap.size w1 wr)) (fun _ iv _ => x - (intOf iv).toNat)
    case atStart => exact ⟨0, 1, rfl, rfl, Nat.zero_le _, by omega, by omega, HRES, hide (Below.refl _ _)⟩
    case round =>
      clear HRES
      obtain ⟨i, N, rfl, rfl, hi, hN1, hN2, hI, hB⟩ := hrel
      obtain ⟨c0, c1, c2, c3, c4⟩ := row5 (HROW.out.below hB.out)
      by_cases hlt : i < x ∧ N ≤ most
      · obtain ⟨hlt, hNm⟩ := hlt
        have hlt' : i < IS.length := by rw [← HX.out]; exact hlt
        obtain ⟨ad, rfl, hb, a, q, a', q', hfive, hpts⟩ := HI.out i _ (List.getElem?_eq_getElem hlt')
        have hq := hI.out
        rw [drop_at hlt', List.cons_append, loopS, if_pos hNm] at hq
        obtain ⟨X, hX⟩ : ∃ X, X = IS[i] := ⟨_, rfl⟩
        rw [← hX] at hfive hpts hq
        have hbb : (ad.add (i * 5)).block < w.heap.size := by rw [block_of_add]; exact hb
        have hBB := HBL.out.trans (hB.out.mono HBL.out.size)
        obtain ⟨s0, s1, s2, s3, s4⟩ := hfive.same hbb (Same.of_below hBB)
        have HCK := hide (ih X a q a' q' (most - N) wr (by omega) (by omega) (hpts.turn (Same.of_below hBB) hBB.size))
        have hz1 := sizeF_le m X (most - N) (by omega)
        have HQ := Lib.hid hq
        clear hfive hpts hX hlt' hb hbb hI hq hBB
        unfold datV datCs at HCK
        obtain ⟨z, hz⟩ : ∃ z, z = sizeF m X (most - N) := ⟨_, rfl⟩
        rw [← hz] at HCK HQ hz1
        have g1 : decide (N ≤ most) = true := by simpa using hNm
        have w1' : IntKind.i64.wrap (most - N) = most - N := IntWalk.i64_in _ (by omega)
        have w2' : IntKind.i64.wrap (N + z) = N + z := IntWalk.i64_in _ (by omega)
        clear hz
        go_wp2_with fail
        refine (unhide HCK).mono ?_; rintro e w4 ⟨rfl, hB4⟩
        have HB4 := hide (hB.out.trans (hB4.mono hB.out.size))
        clear hB4 HCK s0 s1 s2 s3 s4 c0 c1 c2 c3 c4
        go_wp2_with fail
        go_roundw
        case rel => exact ⟨i + 1, N + z, by go_num, rfl, by omega, by omega, by omega, HQ, HB4⟩
        case measure => simp [intOf]; omega
      · have hst : res = loopS (sizeF m) most ((MS.drop 0).map Prod.snd) N := by
          rw [hI.out]
          by_cases h : i < x
          · have hNm : ¬ N ≤ most := fun h' => hlt ⟨h, h'⟩
            rw [loopS_append]
            congr 1
            have hlt' : i < IS.length := by rw [← HX.out]; exact h
            rw [drop_at hlt', loopS, if_neg hNm]
          · rw [List.drop_eq_nil_of_le (by rw [← HX.out]; omega)]; rfl
        have HZ := Lib.hid hst
        have g1 : (¬ i < x ∧ True) ∨ (i < x ∧ decide (N ≤ most) = false) := by
          by_cases h : i < x
          · exact .inr ⟨h, by simpa using fun h' => hlt ⟨h, h'⟩⟩
          · exact .inl ⟨h, trivial⟩
        have HB4 := hide (HBL.out.trans (hB.out.mono HBL.out.size))
        have HROW4 := hide (HROW.out.below hB.out)
        clear hst hI HROW HBL hB hlt
        obtain ⟨w4, rfl⟩ : ∃ w4, w4 = wr := ⟨_, rfl⟩
        rcases g1 with ⟨g1, g2⟩ | ⟨g1, g2⟩
        all_goals
          go_wp2_with fail
          clear c0 c1 c2 c3 c4
          go_loopw [5, 7] (fun nv iv wr => ∃ (i : Nat) (N : Int), iv = .int .i64 i ∧ nv = .int .i64 N ∧ i ≤ y ∧ 1 ≤ N ∧ N ≤ most + 1 ∧ Hid (res = loopS (sizeF m) most ((MS.drop i).map Prod.snd) N) ∧ Hid (Below w4.heap.size w4 wr)) (fun _ iv _ => y - (intOf iv).toNat)
          case atStart => exact ⟨0, N, rfl, rfl, Nat.zero_le _, hN1, hN2, HZ, hide (Below.refl _ _)⟩
          case round =>
            clear HZ
            obtain ⟨i, N, rfl, rfl, hi, hN1, hN2, hI, hB⟩ := hrel
            obtain ⟨c0, c1, c2, c3, c4⟩ := row5 (HROW4.out.below hB.out)
            by_cases hlt : i < y
            · have hlt' : i < MS.length := by rw [← HY.out]; exact hlt
              by_cases hNm : N ≤ most
              · obtain ⟨ad, rfl, hb, hlab, a, q, a', q', hfive, hpts⟩ := HM.out i _ (List.getElem?_eq_getElem hlt')
                have hq := hI.out
                rw [drop_at hlt', List.map_cons, loopS, if_pos hNm] at hq
                obtain ⟨X, hX⟩ : ∃ X, X = MS[i] := ⟨_, rfl⟩
                rw [← hX] at hfive hpts hq hlab
                have hbb : (ad.add (i * 6)).block < w.heap.size := by rw [block_of_add]; exact hb
                have hBB := HB4.out.trans (hB.out.mono HB4.out.size)
                obtain ⟨s0, s1, s2, s3, s4, s5⟩ := six_of ((hBB.cell (p := ad.add (i * 6)) hbb).trans hlab) (hfive.same (p := ⟨_, _, none⟩) hbb (Same.of_below hBB))
                have HCK := hide (ih X.2 a q a' q' (most - N) wr (by omega) (by omega) (hpts.turn (Same.of_below hBB) hBB.size))
                have hz1 := sizeF_le m X.2 (most - N) (by omega)
                have HQ := Lib.hid hq
                clear hfive hpts hX hlt' hb hbb hI hq hBB hlab
                unfold datV datCs at HCK
                obtain ⟨z, hz⟩ : ∃ z, z = sizeF m X.2 (most - N) := ⟨_, rfl⟩
                rw [← hz] at HCK HQ hz1
                have g3 : decide (N ≤ most) = true := by simpa using hNm
                have w1' : IntKind.i64.wrap (most - N) = most - N := IntWalk.i64_in _ (by omega)
                have w2' : IntKind.i64.wrap (N + z) = N + z := IntWalk.i64_in _ (by omega)
                clear hz
                go_wp2_with fail
                refine (unhide HCK).mono ?_; rintro e w5 ⟨rfl, hB5⟩
                have HB5 := hide (hB.out.trans (hB5.mono hB.out.size))
                clear hB5 HCK s0 s1 s2 s3 s4 s5 c0 c1 c2 c3 c4
                go_wp2_with fail
                go_roundw
                case rel => exact ⟨i + 1, N + z, by go_num, rfl, by omega, by omega, by omega, HQ, HB5⟩
                case measure => simp [intOf]; omega
              · have hst : res = N := by rw [hI.out, drop_at hlt', List.map_cons, loopS, if_neg hNm]
                have HST := Lib.hid hst
                have g3 : decide (N ≤ most) = false := by simpa using hNm
                clear hst hI hNm hlt'
                go_wp2_with fail
                go_ret
                exact ⟨ret_int HST.out.symm, HB4.out.trans (hB.out.mono HB4.out.size)⟩
            · have hst : res = N := by rw [hI.out, List.drop_eq_nil_of_le (by rw [← HY.out]; omega)]; rfl
              have HST := Lib.hid hst
              clear hst hI
              go_wp2_with fail
              go_ret
              exact ⟨ret_int HST.out.symm, HB4.out.trans (hB.out.mono HB4.out.size)⟩
end Go.Proofs.YtajpgmacabeeeaaDoor

/- short and Small of the reference. -/
namespace Go.Proofs.YtajpgmacabeeeaaDoor
open Go.RowKit

def shortM (f : Dt → Bool) (x : ByteArray × Dt) : Bool := decide (x.1.size ≤ 80) && f x.2
def shortF : Nat → Dt → Bool
  | 0, _ => true
  | m + 1, d => decide ((sD d).size ≤ 80) && ((iD d).all (shortF m) && (mD d).all (shortM (shortF m)))

set_option maxRecDepth 20000 in
set_option maxHeartbeats 1000000 in
theorem short_run : ∀ (m : Nat) (d : Dt) (A : Option Addr) (c : Nat) (A' : Option Addr) (c' : Nat) (w : World), Parts w w.heap.size m d A c A' c' →
    Calls Tryd.prog 37 #[datV d A c A' c'] w fun e w' => e = .returned (.bool (shortF m d)) ∧ Below w.heap.size w w' := by
  intro m
  induction m with
  | zero => intro d  A  c  A'  c'  w  hp; exact hp.elim
  | succ m ih =>
    intro d  A  c  A'  c'  w  hp
    obtain ⟨h1, h2, h3, h4⟩ := hp.lens
    have hm := maxLen_le h2; have hm' := maxLen_le h4
    have HI := Lib.hid hp.2.1; have HM := Lib.hid hp.2.2
    obtain ⟨res, hres⟩ : ∃ k, k = shortF (m + 1) d := ⟨_, rfl⟩
    rw [← hres]
    unfold shortF at hres
    unfold datV datCs
    obtain ⟨k, hk⟩ : ∃ k, k = kD d := ⟨_, rfl⟩
    obtain ⟨n, hn⟩ : ∃ k, k = nD d := ⟨_, rfl⟩
    obtain ⟨s, hs⟩ : ∃ k, k = sD d := ⟨_, rfl⟩
    obtain ⟨IS, hIS⟩ : ∃ k, k = iD d := ⟨_, rfl⟩
    obtain ⟨MS, hMS⟩ : ∃ k, k = mD d := ⟨_, rfl⟩
    rw [← hIS, ← hMS] at hres
    rw [← hk, ← hn, ← hs, ← hIS, ← hMS]
    rw [← hIS] at h1 HI
    rw [← hMS] at h3 HM
    obtain ⟨x, hx⟩ : ∃ k, k = IS.length := ⟨_, rfl⟩
    obtain ⟨y, hy⟩ : ∃ k, k = MS.length := ⟨_, rfl⟩
    rw [← hx, ← hy]
    rw [← hx] at h1
    rw [← hy] at h3
    rw [← hs] at hres
    have HRES := Lib.hid hres; have HX := Lib.hid hx; have HY := Lib.hid hy
    clear hk hn hs hx hy hIS hMS h2 h4 hres hp
    go_enter Tryd.func37, Tryd.ntmps37
    go_upto_region 1 with fail
    obtain ⟨w1, g, e1, e2, hBL, c0, c1, c2, c3, c4, hROW⟩ := boxD w k n s (.slice A x c) (.slice A' y c')
    rw [e1, e2]
    have HBL := hide hBL; have HROW := hide hROW
    clear e1 e2 hBL hROW
    by_cases hs : 80 < s.size
    · have hz : res = false := by rw [HRES.out, decide_eq_false (by omega)]; rfl
      have HZ := Lib.hid hz
      have g1 : decide ((s.size : Int) > 80) = true := by simp; omega
      clear hz
      go_wp2_with fail
      go_ret
      exact ⟨ret_bool HZ.out.symm, HBL.out⟩
    · have hz : res = (IS.all (shortF m) && MS.all (shortM (shortF m))) := by rw [HRES.out, decide_eq_true (by omega)]; rfl
      have HZ := Lib.hid hz
      have g1 : decide ((s.size : Int) > 80) = false := by simp; omega
      clear hz HRES hs
      go_wp2_with fail
      clear c0 c1 c2 c3 c4
      go_loopw [3] (fun iv wr => ∃ i : Nat, iv = .int .i64 i ∧ i ≤ x ∧ Hid (res = ((IS.drop i).all (shortF m) && MS.all (shortM (shortF m)))) ∧ Hid (Below w1.heap.size w1 wr)) (fun iv _ => x - (intOf iv).toNat)
      case atStart => exact ⟨0, rfl, Nat.zero_le _, HZ, hide (Below.refl _ _)⟩
      case round =>
        clear HZ
        obtain ⟨i, rfl, hi, hI, hB⟩ := hrel
        obtain ⟨c0, c1, c2, c3, c4⟩ := row5 (HROW.out.below hB.out)
        by_cases hlt : i < x
        · have hlt' : i < IS.length := by rw [← HX.out]; exact hlt
          have hq := hI.out
          rw [drop_at hlt', List.all_cons] at hq
          obtain ⟨ad, rfl, hb, a, q, a', q', hfive, hpts⟩ := HI.out i _ (List.getElem?_eq_getElem hlt')
          obtain ⟨X, hX⟩ : ∃ X, X = IS[i] := ⟨_, rfl⟩
          rw [← hX] at hfive hpts hq
          have hbb : (ad.add (i * 5)).block < w.heap.size := by rw [block_of_add]; exact hb
          have hBB := HBL.out.trans (hB.out.mono HBL.out.size)
          obtain ⟨s0, s1, s2, s3, s4⟩ := hfive.same hbb (Same.of_below hBB)
          have HCK := hide (ih X a q a' q' wr (hpts.turn (Same.of_below hBB) hBB.size))
          have HQ := Lib.hid hq
          clear hfive hpts hX hlt' hb hbb hI hq hBB
          unfold datV datCs at HCK
          obtain ⟨z, hz⟩ : ∃ z, z = shortF m X := ⟨_, rfl⟩
          rw [← hz] at HCK HQ
          clear hz
          go_wp2_with fail
          refine (unhide HCK).mono ?_; rintro e w4 ⟨rfl, hB4⟩
          have HB4 := hide (hB.out.trans (hB4.mono hB.out.size))
          clear hB4 HCK s0 s1 s2 s3 s4 c0 c1 c2 c3 c4
          cases z with
          | true =>
            have HQ2 := hide (show res = ((IS.drop (i + 1)).all (shortF m) && MS.all (shortM (shortF m))) by rw [HQ.out, Bool.true_and])
            go_wp2_with fail
            go_roundw
            case rel => exact ⟨i + 1, by go_num, by omega, HQ2, HB4⟩
            case measure => simp [intOf]; omega
          | false =>
            have hzz : res = false := by rw [HQ.out]; rfl
            have HZ := Lib.hid hzz
            clear hzz
            go_wp2_with fail
            go_ret
            exact ⟨ret_bool HZ.out.symm, HBL.out.trans (HB4.out.mono HBL.out.size)⟩
        · have HZ := hide (show res = (MS.drop 0).all (shortM (shortF m)) by rw [hI.out, List.drop_eq_nil_of_le (by rw [← HX.out]; omega)]; rfl)
          have HB4 := hide (HBL.out.trans (hB.out.mono HBL.out.size))
          have HROW4 := hide (HROW.out.below hB.out)
          clear hI HROW HBL hB
          obtain ⟨w4, rfl⟩ : ∃ w4, w4 = wr := ⟨_, rfl⟩
          go_wp2_with fail
          clear c0 c1 c2 c3 c4
          go_loopw [4] (fun iv wr => ∃ i : Nat, iv = .int .i64 i ∧ i ≤ y ∧ Hid (res = (MS.drop i).all (shortM (shortF m))) ∧ Hid (Below w4.heap.size w4 wr)) (fun iv _ => y - (intOf iv).toNat)
          case atStart => exact ⟨0, rfl, Nat.zero_le _, HZ, hide (Below.refl _ _)⟩
          case round =>
            clear HZ
            obtain ⟨i, rfl, hi, hI, hB⟩ := hrel
            obtain ⟨c0, c1, c2, c3, c4⟩ := row5 (HROW4.out.below hB.out)
            by_cases hlt : i < y
            · have hlt' : i < MS.length := by rw [← HY.out]; exact hlt
              have hq := hI.out
              rw [drop_at hlt', List.all_cons, shortM] at hq
              obtain ⟨ad, rfl, hb, hlab, a, q, a', q', hfive, hpts⟩ := HM.out i _ (List.getElem?_eq_getElem hlt')
              obtain ⟨X, hX⟩ : ∃ X, X = MS[i] := ⟨_, rfl⟩
              rw [← hX] at hfive hpts hq hlab
              have hbb : (ad.add (i * 6)).block < w.heap.size := by rw [block_of_add]; exact hb
              have hBB := HB4.out.trans (hB.out.mono HB4.out.size)
              obtain ⟨s0, s1, s2, s3, s4, s5⟩ := six_of ((hBB.cell (p := ad.add (i * 6)) hbb).trans hlab) (hfive.same (p := ⟨_, _, none⟩) hbb (Same.of_below hBB))
              have HCK := hide (ih X.2 a q a' q' wr (hpts.turn (Same.of_below hBB) hBB.size))
              have HQ := Lib.hid hq
              clear hfive hpts hX hlt' hb hbb hI hq hBB hlab
              unfold datV datCs at HCK
              obtain ⟨z, hz⟩ : ∃ z, z = shortF m X.2 := ⟨_, rfl⟩
              rw [← hz] at HCK HQ
              clear hz
              by_cases hs : 80 < X.1.size
              · have hzz : res = false := by rw [HQ.out, decide_eq_false (by omega)]; rfl
                have HZ := Lib.hid hzz
                have g3 : decide ((X.1.size : Int) > 80) = true := by simp; omega
                clear hzz hs
                go_wp2_with fail
                go_ret
                exact ⟨ret_bool HZ.out.symm, HB4.out.trans (hB.out.mono HB4.out.size)⟩
              · have hzz : res = (z && (MS.drop (i + 1)).all (shortM (shortF m))) := by rw [HQ.out, decide_eq_true (by omega), Bool.true_and]
                have HZ := Lib.hid hzz
                have g3 : decide ((X.1.size : Int) > 80) = false := by simp; omega
                clear hzz hs HQ
                go_wp2_with fail
                refine (unhide HCK).mono ?_; rintro e w5 ⟨rfl, hB5⟩
                have HB5 := hide (hB.out.trans (hB5.mono hB.out.size))
                clear hB5 HCK s0 s1 s2 s3 s4 s5 c0 c1 c2 c3 c4
                cases z with
                | true =>
                  have HQ2 := hide (show res = (MS.drop (i + 1)).all (shortM (shortF m)) by rw [HZ.out, Bool.true_and])
                  go_wp2_with fail
                  go_roundw
                  case rel => exact ⟨i + 1, by go_num, by omega, HQ2, HB5⟩
                  case measure => simp [intOf]; omega
                | false =>
                  have hz2 : res = false := by rw [HZ.out]; rfl
                  have HZ2 := Lib.hid hz2
                  clear hz2
                  go_wp2_with fail
                  go_ret
                  exact ⟨ret_bool HZ2.out.symm, HB4.out.trans (HB5.out.mono HB4.out.size)⟩
            · have hst : res = true := by rw [hI.out, List.drop_eq_nil_of_le (by rw [← HY.out]; omega)]; rfl
              have HST := Lib.hid hst
              clear hst hI
              go_wp2_with fail
              go_ret
              exact ⟨ret_bool HST.out.symm, HB4.out.trans (hB.out.mono HB4.out.size)⟩

def smallF (m : Nat) (d : Dt) : Bool := decide (sizeF m d 40 ≤ 40) && shortF m d
set_option maxRecDepth 20000 in
theorem Small_run (m : Nat) (d : Dt) (A : Option Addr) (c : Nat) (A' : Option Addr) (c' : Nat) (w : World) (hp : Parts w w.heap.size m d A c A' c') :
    Calls Tryd.prog 13 #[datV d A c A' c'] w fun e w' => e = .returned (.bool (smallF m d)) ∧ Below w.heap.size w w' := by
  have HC := hide fun w' (hB : Below w.heap.size w w') => size_run m d A c A' c' 40 w' (by omega) (by omega) (hp.turn (Same.of_below hB) hB.size)
  have HC2 := hide fun w' (hB : Below w.heap.size w w') => short_run m d A c A' c' w' (hp.turn (Same.of_below hB) hB.size)
  unfold smallF
  obtain ⟨z, hz⟩ : ∃ z, z = sizeF m d 40 := ⟨_, rfl⟩
  rw [← hz] at HC ⊢
  obtain ⟨v, hv⟩ : ∃ z, z = shortF m d := ⟨_, rfl⟩
  rw [← hv] at HC2 ⊢
  obtain ⟨res, hres⟩ : ∃ r, r = (decide (z ≤ 40) && v) := ⟨_, rfl⟩
  rw [← hres]
  have HRES := Lib.hid hres
  clear hres
  unfold datV datCs at HC HC2
  unfold datV datCs
  obtain ⟨k, hk⟩ : ∃ k, k = kD d := ⟨_, rfl⟩
  obtain ⟨n, hn⟩ : ∃ k, k = nD d := ⟨_, rfl⟩
  obtain ⟨s, hs⟩ : ∃ k, k = sD d := ⟨_, rfl⟩
  obtain ⟨x, hx⟩ : ∃ k, k = (iD d).length := ⟨_, rfl⟩
  obtain ⟨y, hy⟩ : ∃ k, k = (mD d).length := ⟨_, rfl⟩
  rw [← hk, ← hn, ← hs, ← hx, ← hy] at HC HC2 ⊢
  clear hp hz hv hk hn hs hx hy
  go_enter Tryd.func13, Tryd.ntmps13
  go_upto_region 1 with fail
  obtain ⟨w1, g, e1, e2, hBL, c0, c1, c2, c3, c4, hROW⟩ := boxD w k n s (.slice A x c) (.slice A' y c')
  rw [e1, e2]
  have HBL := hide hBL; have HROW := hide hROW
  clear e1 e2 hBL hROW
  go_wp2_with fail
  refine (HC.out _ HBL.out).mono ?_; rintro e w2 ⟨rfl, hB2⟩
  have HB2 := hide (HBL.out.trans (hB2.mono HBL.out.size))
  obtain ⟨c0', c1', c2', c3', c4'⟩ := row5 (HROW.out.below hB2)
  clear c0 c1 c2 c3 c4 hB2 HROW HC HBL
  by_cases hz : z ≤ 40
  · have g1 : decide (z ≤ 40) = true := by simpa using hz
    have HZ := hide (show res = v by rw [HRES.out, g1]; rfl)
    go_wp2_with fail
    refine (HC2.out _ HB2.out).mono ?_; rintro e w3 ⟨rfl, hB3⟩
    have HB3 := hide (HB2.out.trans (hB3.mono HB2.out.size))
    clear hB3
    go_wp2_with fail
    go_ret
    exact ⟨ret_bool HZ.out.symm, HB3.out⟩
  · have g1 : decide (z ≤ 40) = false := by simpa using hz
    have HZ := hide (show res = false by rw [HRES.out, g1]; rfl)
    go_wp2_with fail
    go_ret
    exact ⟨ret_bool HZ.out.symm, HB2.out⟩
end Go.Proofs.YtajpgmacabeeeaaDoor

/- measure, Depth and Size; depth, Depth and Size of the reference. -/
namespace Go.Proofs.YtajpgmacabeeeaaDoor
open Go.RowKit

def maxL (f : Dt → Int) : List Dt → Int → Int
  | [], a => a
  | x :: l, a => maxL f l (max a (f x))
def sumL (f : Dt → Int) : List Dt → Int
  | [] => 0
  | x :: l => f x + sumL f l
/-- The levels, and the number of parts. -/
def heightF : Nat → Dt → Int
  | 0, _ => 0
  | m + 1, d => maxL (heightF m) (kids d) 0 + 1
def partsF : Nat → Dt → Int
  | 0, _ => 0
  | m + 1, d => 1 + sumL (partsF m) (kids d)
theorem sumL_nonneg (f : Dt → Int) (hf : ∀ x, 0 ≤ f x) : ∀ l : List Dt, 0 ≤ sumL f l
  | [] => by simp [sumL]
  | x :: l => by have := hf x; have := sumL_nonneg f hf l; unfold sumL; omega
theorem partsF_nonneg : ∀ (m : Nat) (d : Dt), 0 ≤ partsF m d
  | 0, _ => by simp [partsF]
  | m + 1, d => by have := sumL_nonneg (partsF m) (partsF_nonneg m) (kids d); unfold partsF; omega
theorem maxL_le (f g : Dt → Int) (hfg : ∀ x, f x ≤ g x) (hg : ∀ x, 0 ≤ g x) : ∀ (l : List Dt) (a : Int), 0 ≤ a → a ≤ maxL f l a ∧ maxL f l a ≤ a + sumL g l
  | [], a, h => by simp [maxL, sumL]
  | x :: l, a, h => by
    have h1 := hfg x; have h2 := hg x
    have h3 := maxL_le f g hfg hg l (max a (f x)) (by omega)
    unfold maxL sumL; omega
theorem heightF_le : ∀ (m : Nat) (d : Dt), 0 ≤ heightF m d ∧ heightF m d ≤ partsF m d
  | 0, _ => by simp [heightF, partsF]
  | m + 1, d => by
    have := maxL_le (heightF m) (partsF m) (fun x => (heightF_le m x).2) (partsF_nonneg m) (kids d) 0 (by omega)
    unfold heightF partsF; omega
theorem sumL_mem {f : Dt → Int} (hf : ∀ x, 0 ≤ f x) : ∀ {l : List Dt} {x : Dt}, x ∈ l → f x ≤ sumL f l
  | y :: l, x, h => by
    have h1 := hf y; have h2 := sumL_nonneg f hf l
    unfold sumL
    rcases List.mem_cons.1 h with rfl | h
    · omega
    · have := sumL_mem hf h; omega
theorem partsF_pos {w : World} {B : Nat} : ∀ {m : Nat} {d : Dt} {A c A' c'}, Parts w B m d A c A' c' → 1 ≤ partsF m d
  | 0, _, _, _, _, _, h => h.elim
  | m + 1, d, _, _, _, _, _ => by have := sumL_nonneg (partsF m) (partsF_nonneg m) (kids d); unfold partsF; omega
/-- What the parts of data read as. -/
theorem parts_kid {w : World} {B m : Nat} {d : Dt} {A c A' c'} (h : Parts w B (m + 1) d A c A' c') {x : Dt} (hx : x ∈ kids d) : ∃ a q a' q', Parts w B m x a q a' q' := by
  rcases List.mem_append.1 hx with hx | hx
  · obtain ⟨i, hi⟩ := List.getElem?_of_mem hx
    obtain ⟨ad, _, _, a, q, a', q', _, hp⟩ := h.2.1 i x hi
    exact ⟨a, q, a', q', hp⟩
  · obtain ⟨y, hy, rfl⟩ := List.mem_map.1 hx
    obtain ⟨i, hi⟩ := List.getElem?_of_mem hy
    obtain ⟨ad, _, _, _, a, q, a', q', _, hp⟩ := h.2.2 i y hi
    exact ⟨a, q, a', q', hp⟩
theorem length_le_sumL {f : Dt → Int} (l : List Dt) (hf : ∀ x ∈ l, 1 ≤ f x) : (l.length : Int) ≤ sumL f l := by
  induction l with
  | nil => simp [sumL]
  | cons x l ih =>
    have h1 := hf x (List.mem_cons_self ..)
    have h2 := ih fun y hy => hf y (List.mem_cons_of_mem _ hy)
    unfold sumL; rw [List.length_cons]; omega
theorem kids_le {w : World} {B m : Nat} {d : Dt} {A c A' c'} (h : Parts w B (m + 1) d A c A' c') : ((kids d).length : Int) + 1 ≤ partsF (m + 1) d := by
  have := length_le_sumL (f := partsF m) (kids d) fun x hx => by
    obtain ⟨a, q, a', q', hp⟩ := parts_kid h hx
    exact partsF_pos hp
  unfold partsF; omega
theorem parts_kid_le {m : Nat} {d x : Dt} (hx : x ∈ kids d) : partsF m x ≤ partsF (m + 1) d := by
  have := sumL_mem (partsF_nonneg m) hx
  show partsF m x ≤ 1 + sumL (partsF m) (kids d)
  omega
theorem fit_of_parts {w : World} {B : Nat} : ∀ (m : Nat) {d : Dt} {A c A' c'} (r : Nat), Parts w B m d A c A' c' → partsF m d ≤ 1000000000 → FitD r d
  | _, d, _, _, _, _, 0, _, _ => trivial
  | 0, d, _, _, _, _, r + 1, h, _ => h.elim
  | m + 1, d, A, c, A', c', r + 1, h, hle => by
    refine ⟨by have := kids_le h; omega, fun x hx => ?_⟩
    obtain ⟨a, q, a', q', hp⟩ := parts_kid h hx
    exact fit_of_parts m r hp (by have := parts_kid_le (m := m) hx; omega)

set_option maxRecDepth 20000 in
set_option maxHeartbeats 1000000 in
theorem measure_run : ∀ (m : Nat) (d : Dt) (A : Option Addr) (c : Nat) (A' : Option Addr) (c' : Nat) (w : World), Parts w w.heap.size m d A c A' c' → partsF m d ≤ 1000000000 →
    Calls Tryd.prog 43 #[datV d A c A' c'] w fun e w' => e = .returned (.tuple #[.int .i64 (heightF m d), .int .i64 (partsF m d)]) ∧ Below w.heap.size w w' := by
  intro m
  induction m with
  | zero => intro d  A  c  A'  c'  w  hp  _; exact hp.elim
  | succ m ih =>
    intro d  A  c  A'  c'  w  hp  hle
    have hkl := kids_le hp
    have HCH := hide fun w' (hB : Below w.heap.size w w') => children_run d A c A' c' m w' (hp.turn (Same.of_below hB) hB.size) (by unfold kids at hkl; rw [List.length_append, List.length_map] at hkl; omega)
    have HLE := hide fun x (hx : x ∈ kids d) => parts_kid_le (m := m) hx
    obtain ⟨P, hP⟩ : ∃ k, k = partsF (m + 1) d := ⟨_, rfl⟩
    have hH := heightF_le (m + 1) d
    obtain ⟨H, hHH⟩ : ∃ k, k = heightF (m + 1) d := ⟨_, rfl⟩
    rw [← hP, ← hHH] at hH
    rw [← hP] at hle hkl HLE
    rw [← hP, ← hHH]
    have hP2 := hP; have hH2 := hHH
    unfold partsF at hP2
    unfold heightF at hH2
    obtain ⟨h1, h2, h3, h4⟩ := hp.lens
    have hm := maxLen_le h2; have hm' := maxLen_le h4
    unfold datV datCs at HCH
    unfold datV datCs
    obtain ⟨L, hL⟩ : ∃ k, k = kids d := ⟨_, rfl⟩
    rw [← hL] at HCH HLE hP2 hH2 hkl
    obtain ⟨k, hk⟩ : ∃ k, k = kD d := ⟨_, rfl⟩
    obtain ⟨n, hn'⟩ : ∃ k, k = nD d := ⟨_, rfl⟩
    obtain ⟨s, hs⟩ : ∃ k, k = sD d := ⟨_, rfl⟩
    obtain ⟨x, hx⟩ : ∃ k, k = (iD d).length := ⟨_, rfl⟩
    obtain ⟨y, hy⟩ : ∃ k, k = (mD d).length := ⟨_, rfl⟩
    rw [← hk, ← hn', ← hs, ← hx, ← hy] at HCH
    rw [← hk, ← hn', ← hs, ← hx, ← hy]
    rw [← hx] at h1
    rw [← hy] at h3
    have HP := Lib.hid hP2; have HH := Lib.hid hH2
    clear hk hn' hs hx hy hL hP hHH hP2 hH2 h2 h4 hp
    go_enter Tryd.func43, Tryd.ntmps43
    go_upto_region 1 with fail
    obtain ⟨w1, g, e1, e2, hBL, c0, c1, c2, c3, c4, hROW⟩ := boxD w k n s (.slice A x c) (.slice A' y c')
    rw [e1, e2]
    have HBL := hide hBL; have HROW := hide hROW
    clear e1 e2 hBL hROW
    go_wp2_with fail
    refine (HCH.out _ HBL.out).mono ?_; rintro e w3 ⟨u, rfl, hB3, hD3⟩
    have HB3 := hide (HBL.out.trans (hB3.mono HBL.out.size))
    obtain ⟨Au, cu, rfl, hu1, hu2, hels⟩ := hD3
    have hmu := maxLen_le hu2
    obtain ⟨N, hN⟩ : ∃ N, N = L.length := ⟨_, rfl⟩
    rw [← hN] at hu1 hkl ⊢
    have HN := Lib.hid hN; have HEL := Lib.hid hels
    clear hB3 hu2 hN hels c0 c1 c2 c3 c4 HCH HBL HROW
    go_wp2_with fail
    go_loopw [4, 5, 7, 8, 9, 13] (fun dv sv _ _ _ iv wr => ∃ (i : Nat) (D S : Int), iv = .int .i64 i ∧ dv = .int .i64 D ∧ sv = .int .i64 S ∧ i ≤ N ∧ 0 ≤ D ∧ 1 ≤ S ∧ Hid (P = S + sumL (partsF m) (L.drop i)) ∧ Hid (H = maxL (heightF m) (L.drop i) D + 1) ∧ Hid (Below w3.heap.size w3 wr)) (fun _ _ _ _ _ iv _ => N - (intOf iv).toNat)
    case atStart => exact ⟨0, 0, 1, rfl, rfl, rfl, Nat.zero_le _, by omega, by omega, HP, HH, hide (Below.refl _ _)⟩
    case round =>
      clear HP HH
      obtain ⟨i, D, S, rfl, rfl, rfl, hi, hD0, hS0, hIP, hIH, hB⟩ := hrel
      by_cases hlt : i < N
      · have hlt' : i < L.length := by rw [← HN.out]; exact hlt
        obtain ⟨ad, rfl, hb, a, q, a', q', hfive, hpts⟩ := HEL.out i _ (List.getElem?_eq_getElem hlt')
        have hq := hIP.out; have hq2 := hIH.out
        rw [drop_at hlt', sumL] at hq
        rw [drop_at hlt', maxL] at hq2
        have hxl := HLE.out _ (List.getElem_mem hlt')
        obtain ⟨X, hX⟩ : ∃ X, X = L[i] := ⟨_, rfl⟩
        rw [← hX] at hfive hpts hq hq2 hxl
        have hbb : (ad.add (i * 5)).block < w3.heap.size := by rw [block_of_add]; exact hb
        obtain ⟨s0, s1, s2, s3, s4⟩ := hfive.same hbb (Same.of_below hB.out)
        have HCK := hide fun w' (hB' : Below w3.heap.size w3 w') => ih X a q a' q' w' (hpts.turn (Same.of_below hB') hB'.size) (by omega)
        have hx0 := partsF_nonneg m X; have hx1 := heightF_le m X
        have hs0 := sumL_nonneg (partsF m) (partsF_nonneg m) (L.drop (i + 1))
        unfold datV datCs at HCK
        obtain ⟨z, hz⟩ : ∃ z, z = partsF m X := ⟨_, rfl⟩
        obtain ⟨v, hv⟩ : ∃ z, z = heightF m X := ⟨_, rfl⟩
        rw [← hz, ← hv] at HCK
        rw [← hz] at hq hx0 hxl
        rw [← hz, ← hv] at hx1
        rw [← hv] at hq2
        have hS2 : S + z ≤ P := by omega
        have HQ := hide (show P = S + z + sumL (partsF m) (L.drop (i + 1)) by omega); have HQ2 := Lib.hid hq2
        have w1' : IntKind.i64.wrap (S + z) = S + z := IntWalk.i64_in _ (by omega)
        obtain ⟨M, hM⟩ : ∃ M, M = max D v := ⟨_, rfl⟩
        have hMx : (if D < v then v else D) = M := by split <;> omega
        have hMy : (if v < D then D else v) = M := by split <;> omega
        rw [← hM] at HQ2
        have hM0 : 0 ≤ M := by omega
        clear hfive hpts hX hlt' hb hbb hIP hIH hq hq2 hz hv hM hs0
        go_wp2_with fail
        refine (HCK.out _ (below_al hB.out _)).mono ?_; rintro e w4 ⟨rfl, hB4⟩
        have HB4 := hide ((below_al hB.out _).trans (hB4.mono (Nat.le_trans hB.out.size (by simp))))
        clear hB4 HCK s0 s1 s2 s3 s4
        go_wp2_with fail
        go_roundw
        case rel => exact ⟨i + 1, M, S + z, by go_num, rfl, rfl, by omega, hM0, by omega, HQ, HQ2, HB4⟩
        case measure => simp [intOf]; omega
      · have hzP : P = S := by rw [hIP.out, List.drop_eq_nil_of_le (by rw [← HN.out]; omega), sumL]; omega
        have hzH : H = D + 1 := by rw [hIH.out, List.drop_eq_nil_of_le (by rw [← HN.out]; omega), maxL]
        have HZP := Lib.hid hzP; have HZH := Lib.hid hzH
        have w1' : IntKind.i64.wrap (D + 1) = D + 1 := IntWalk.i64_in _ (by omega)
        clear hIP hIH hzP hzH
        go_wp2_with fail
        go_ret2
        exact ⟨by rw [HZP.out, HZH.out]; rfl, HB3.out.trans (hB.out.mono HB3.out.size)⟩

set_option maxRecDepth 20000 in
theorem Depth_run (m : Nat) (d : Dt) (A : Option Addr) (c : Nat) (A' : Option Addr) (c' : Nat) (w : World) (hp : Parts w w.heap.size m d A c A' c') (hle : partsF m d ≤ 1000000000) :
    Calls Tryd.prog 20 #[datV d A c A' c'] w fun e w' => e = .returned (.int .i64 (if checkD d = 0 then heightF m d else 0)) ∧ Below w.heap.size w w' := by
  have HC := hide fun w' (hB : Below w.heap.size w w') => Check_run m d A c A' c' w' (hp.turn (Same.of_below hB) hB.size) (fit_of_parts m 16 hp hle)
  have HM := hide fun w' (hB : Below w.heap.size w w') => measure_run m d A c A' c' w' (hp.turn (Same.of_below hB) hB.size) hle
  obtain ⟨res, hres⟩ : ∃ k, k = (if checkD d = 0 then heightF m d else 0) := ⟨_, rfl⟩
  rw [← hres]
  obtain ⟨z, hz⟩ : ∃ z, z = checkD d := ⟨_, rfl⟩
  rw [← hz] at HC hres
  have HRES := Lib.hid hres
  unfold datV datCs at HC HM
  unfold datV datCs
  obtain ⟨k, hk⟩ : ∃ k, k = kD d := ⟨_, rfl⟩
  obtain ⟨n, hn⟩ : ∃ k, k = nD d := ⟨_, rfl⟩
  obtain ⟨s, hs⟩ : ∃ k, k = sD d := ⟨_, rfl⟩
  obtain ⟨x, hx⟩ : ∃ k, k = (iD d).length := ⟨_, rfl⟩
  obtain ⟨y, hy⟩ : ∃ k, k = (mD d).length := ⟨_, rfl⟩
  rw [← hk, ← hn, ← hs, ← hx, ← hy] at HC HM ⊢
  clear hp hz hres hk hn hs hx hy hle
  go_enter Tryd.func20, Tryd.ntmps20
  go_upto_region 1 with fail
  obtain ⟨w1, g, e1, e2, hBL, c0, c1, c2, c3, c4, hROW⟩ := boxD w k n s (.slice A x c) (.slice A' y c')
  rw [e1, e2]
  have HBL := hide hBL; have HROW := hide hROW
  clear e1 e2 hBL hROW
  go_wp2_with fail
  refine (HC.out _ HBL.out).mono ?_; rintro e w2 ⟨rfl, hB2⟩
  have HB2 := hide (HBL.out.trans (hB2.mono HBL.out.size))
  obtain ⟨c0', c1', c2', c3', c4'⟩ := row5 (HROW.out.below hB2)
  clear c0 c1 c2 c3 c4 hB2 HROW HC HBL
  by_cases hz : z = 0
  · subst hz
    have HZ := hide (show res = heightF m d by rw [HRES.out, if_pos rfl])
    go_wp2_with fail
    refine (HM.out _ HB2.out).mono ?_; rintro e w3 ⟨rfl, hB3⟩
    have HB3 := hide (HB2.out.trans (hB3.mono HB2.out.size))
    clear hB3
    go_wp2_with fail
    go_ret
    exact ⟨ret_int HZ.out.symm, HB3.out⟩
  · have HZ := hide (show res = 0 by rw [HRES.out, if_neg hz])
    have g2 : (z != 0) = true := by simpa using hz
    go_wp2_with fail
    go_ret
    exact ⟨ret_int HZ.out.symm, HB2.out⟩

set_option maxRecDepth 20000 in
theorem Size_run (m : Nat) (d : Dt) (A : Option Addr) (c : Nat) (A' : Option Addr) (c' : Nat) (w : World) (hp : Parts w w.heap.size m d A c A' c') (hle : partsF m d ≤ 1000000000) :
    Calls Tryd.prog 22 #[datV d A c A' c'] w fun e w' => e = .returned (.int .i64 (if checkD d = 0 then partsF m d else 0)) ∧ Below w.heap.size w w' := by
  have HC := hide fun w' (hB : Below w.heap.size w w') => Check_run m d A c A' c' w' (hp.turn (Same.of_below hB) hB.size) (fit_of_parts m 16 hp hle)
  have HM := hide fun w' (hB : Below w.heap.size w w') => measure_run m d A c A' c' w' (hp.turn (Same.of_below hB) hB.size) hle
  obtain ⟨res, hres⟩ : ∃ k, k = (if checkD d = 0 then partsF m d else 0) := ⟨_, rfl⟩
  rw [← hres]
  obtain ⟨z, hz⟩ : ∃ z, z = checkD d := ⟨_, rfl⟩
  rw [← hz] at HC hres
  have HRES := Lib.hid hres
  unfold datV datCs at HC HM
  unfold datV datCs
  obtain ⟨k, hk⟩ : ∃ k, k = kD d := ⟨_, rfl⟩
  obtain ⟨n, hn⟩ : ∃ k, k = nD d := ⟨_, rfl⟩
  obtain ⟨s, hs⟩ : ∃ k, k = sD d := ⟨_, rfl⟩
  obtain ⟨x, hx⟩ : ∃ k, k = (iD d).length := ⟨_, rfl⟩
  obtain ⟨y, hy⟩ : ∃ k, k = (mD d).length := ⟨_, rfl⟩
  rw [← hk, ← hn, ← hs, ← hx, ← hy] at HC HM ⊢
  clear hp hz hres hk hn hs hx hy hle
  go_enter Tryd.func22, Tryd.ntmps22
  go_upto_region 1 with fail
  obtain ⟨w1, g, e1, e2, hBL, c0, c1, c2, c3, c4, hROW⟩ := boxD w k n s (.slice A x c) (.slice A' y c')
  rw [e1, e2]
  have HBL := hide hBL; have HROW := hide hROW
  clear e1 e2 hBL hROW
  go_wp2_with fail
  refine (HC.out _ HBL.out).mono ?_; rintro e w2 ⟨rfl, hB2⟩
  have HB2 := hide (HBL.out.trans (hB2.mono HBL.out.size))
  obtain ⟨c0', c1', c2', c3', c4'⟩ := row5 (HROW.out.below hB2)
  clear c0 c1 c2 c3 c4 hB2 HROW HC HBL
  by_cases hz : z = 0
  · subst hz
    have HZ := hide (show res = partsF m d by rw [HRES.out, if_pos rfl])
    go_wp2_with fail
    refine (HM.out _ HB2.out).mono ?_; rintro e w3 ⟨rfl, hB3⟩
    have HB3 := hide (HB2.out.trans (hB3.mono HB2.out.size))
    clear hB3
    go_wp2_with fail
    go_ret
    exact ⟨ret_int HZ.out.symm, HB3.out⟩
  · have HZ := hide (show res = 0 by rw [HRES.out, if_neg hz])
    have g2 : (z != 0) = true := by simpa using hz
    go_wp2_with fail
    go_ret
    exact ⟨ret_int HZ.out.symm, HB2.out⟩
end Go.Proofs.YtajpgmacabeeeaaDoor

/- depth, Depth and Size of the reference. -/
namespace Go.Proofs.YtajpgmacabeeeaaDoor
open Go.RowKit

set_option maxRecDepth 20000 in
set_option maxHeartbeats 1000000 in
theorem refdepth_run : ∀ (m : Nat) (d : Dt) (A : Option Addr) (c : Nat) (A' : Option Addr) (c' : Nat) (w : World), Parts w w.heap.size m d A c A' c' → partsF m d ≤ 1000000000 →
    Calls Tryd.prog 45 #[datV d A c A' c'] w fun e w' => e = .returned (.int .i64 (heightF m d)) ∧ Below w.heap.size w w' := by
  intro m
  induction m with
  | zero => intro d  A  c  A'  c'  w  hp  _; exact hp.elim
  | succ m ih =>
    intro d  A  c  A'  c'  w  hp  hle
    have HLE := hide fun x (hx : x ∈ kids d) => Int.le_trans (parts_kid_le (m := m) hx) hle
    have hH := heightF_le (m + 1) d
    obtain ⟨h1, h2, h3, h4⟩ := hp.lens
    have hm := maxLen_le h2; have hm' := maxLen_le h4
    have HI := Lib.hid hp.2.1; have HM := Lib.hid hp.2.2
    obtain ⟨res, hres⟩ : ∃ k, k = heightF (m + 1) d := ⟨_, rfl⟩
    rw [← hres]
    unfold heightF kids at hres
    unfold datV datCs
    obtain ⟨k, hk⟩ : ∃ k, k = kD d := ⟨_, rfl⟩
    obtain ⟨n, hn⟩ : ∃ k, k = nD d := ⟨_, rfl⟩
    obtain ⟨s, hs⟩ : ∃ k, k = sD d := ⟨_, rfl⟩
    obtain ⟨IS, hIS⟩ : ∃ k, k = iD d := ⟨_, rfl⟩
    obtain ⟨MS, hMS⟩ : ∃ k, k = mD d := ⟨_, rfl⟩
    rw [← hIS, ← hMS] at hres
    rw [← hk, ← hn, ← hs, ← hIS, ← hMS]
    rw [← hIS] at h1 HI
    rw [← hMS] at h3 HM
    obtain ⟨x, hx⟩ : ∃ k, k = IS.length := ⟨_, rfl⟩
    obtain ⟨y, hy⟩ : ∃ k, k = MS.length := ⟨_, rfl⟩
    rw [← hx, ← hy]
    rw [← hx] at h1
    rw [← hy] at h3
    unfold kids at HLE
    rw [← hIS, ← hMS] at HLE
    rw [show heightF (m + 1) d = res by rw [hres, hIS, hMS]; rfl] at hH
    have HRES := Lib.hid hres; have HX := Lib.hid hx; have HY := Lib.hid hy
    have hrl : res ≤ 1000000000 := by omega
    clear hk hn hs hx hy hIS hMS h2 h4 hres hp hle hH
    go_enter Tryd.func45, Tryd.ntmps45
    go_upto_region 1 with fail
    obtain ⟨w1, g, e1, e2, hBL, c0, c1, c2, c3, c4, hROW⟩ := boxD w k n s (.slice A x c) (.slice A' y c')
    rw [e1, e2]
    have HBL := hide hBL; have HROW := hide hROW
    clear e1 e2 hBL hROW
    go_wp2_with fail
    clear c0 c1 c2 c3 c4
    go_loopw [3, 4] (fun nv iv wr => ∃ (i : Nat) (N : Int), iv = .int .i64 i ∧ nv = .int .i64 N ∧ i ≤ x ∧ 0 ≤ N ∧ Hid (res = maxL (heightF m) (IS.drop i ++ MS.map Prod.snd) N + 1) ∧ Hid (Below w1.heap.size w1 wr)) (fun _ iv _ => x - (intOf iv).toNat)
    case atStart => exact ⟨0, 0, rfl, rfl, Nat.zero_le _, by omega, HRES, hide (Below.refl _ _)⟩
    case round =>
      clear HRES
      obtain ⟨i, N, rfl, rfl, hi, hN0, hI, hB⟩ := hrel
      obtain ⟨c0, c1, c2, c3, c4⟩ := row5 (HROW.out.below hB.out)
      by_cases hlt : i < x
      · have hlt' : i < IS.length := by rw [← HX.out]; exact hlt
        have hq := hI.out
        have hxl := HLE.out _ (List.mem_append.2 (.inl (List.getElem_mem hlt')))
        rw [drop_at hlt', List.cons_append, maxL] at hq
        obtain ⟨ad, rfl, hb, a, q, a', q', hfive, hpts⟩ := HI.out i _ (List.getElem?_eq_getElem hlt')
        obtain ⟨X, hX⟩ : ∃ X, X = IS[i] := ⟨_, rfl⟩
        rw [← hX] at hfive hpts hq hxl
        have hbb : (ad.add (i * 5)).block < w.heap.size := by rw [block_of_add]; exact hb
        have hBB := HBL.out.trans (hB.out.mono HBL.out.size)
        obtain ⟨s0, s1, s2, s3, s4⟩ := hfive.same hbb (Same.of_below hBB)
        have HCK := hide (ih X a q a' q' wr (hpts.turn (Same.of_below hBB) hBB.size) hxl)
        have HQ := Lib.hid hq
        clear hfive hpts hX hlt' hb hbb hI hq hBB
        unfold datV datCs at HCK
        have hx1 := (heightF_le m X).1
        obtain ⟨v, hv⟩ : ∃ z, z = heightF m X := ⟨_, rfl⟩
        rw [← hv] at HCK HQ hx1
        obtain ⟨M, hM⟩ : ∃ M, M = max N v := ⟨_, rfl⟩
        have hMx : (if N < v then v else N) = M := by split <;> omega
        have hMy : (if v < N then N else v) = M := by split <;> omega
        rw [← hM] at HQ
        have hM0 : 0 ≤ M := by omega
        clear hv hM hxl
        go_wp2_with fail
        refine (unhide HCK).mono ?_; rintro e w4 ⟨rfl, hB4⟩
        have HB4 := hide (hB.out.trans (hB4.mono hB.out.size))
        clear hB4 HCK s0 s1 s2 s3 s4 c0 c1 c2 c3 c4
        go_wp2_with fail
        go_roundw
        case rel => exact ⟨i + 1, M, by go_num, rfl, by omega, hM0, HQ, HB4⟩
        case measure => simp [intOf]; omega
      · have HZ := hide (show res = maxL (heightF m) ((MS.drop 0).map Prod.snd) N + 1 by rw [hI.out, List.drop_eq_nil_of_le (by rw [← HX.out]; omega)]; rfl)
        have HB4 := hide (HBL.out.trans (hB.out.mono HBL.out.size))
        have HROW4 := hide (HROW.out.below hB.out)
        clear hI HROW HBL hB
        obtain ⟨w4, rfl⟩ : ∃ w4, w4 = wr := ⟨_, rfl⟩
        go_wp2_with fail
        clear c0 c1 c2 c3 c4
        go_loopw [3, 5] (fun nv iv wr => ∃ (i : Nat) (N : Int), iv = .int .i64 i ∧ nv = .int .i64 N ∧ i ≤ y ∧ 0 ≤ N ∧ Hid (res = maxL (heightF m) ((MS.drop i).map Prod.snd) N + 1) ∧ Hid (Below w4.heap.size w4 wr)) (fun _ iv _ => y - (intOf iv).toNat)
        case atStart => exact ⟨0, N, rfl, rfl, Nat.zero_le _, hN0, HZ, hide (Below.refl _ _)⟩
        case round =>
          clear HZ
          obtain ⟨i, N, rfl, rfl, hi, hN0, hI, hB⟩ := hrel
          obtain ⟨c0, c1, c2, c3, c4⟩ := row5 (HROW4.out.below hB.out)
          by_cases hlt : i < y
          · have hlt' : i < MS.length := by rw [← HY.out]; exact hlt
            have hq := hI.out
            have hxl := HLE.out _ (List.mem_append.2 (.inr (List.mem_map.2 ⟨_, List.getElem_mem hlt', rfl⟩)))
            rw [drop_at hlt', List.map_cons, maxL] at hq
            obtain ⟨ad, rfl, hb, hlab, a, q, a', q', hfive, hpts⟩ := HM.out i _ (List.getElem?_eq_getElem hlt')
            obtain ⟨X, hX⟩ : ∃ X, X = MS[i] := ⟨_, rfl⟩
            rw [← hX] at hfive hpts hq hlab hxl
            have hbb : (ad.add (i * 6)).block < w.heap.size := by rw [block_of_add]; exact hb
            have hBB := HB4.out.trans (hB.out.mono HB4.out.size)
            obtain ⟨s0, s1, s2, s3, s4, s5⟩ := six_of ((hBB.cell (p := ad.add (i * 6)) hbb).trans hlab) (hfive.same (p := ⟨_, _, none⟩) hbb (Same.of_below hBB))
            have HCK := hide (ih X.2 a q a' q' wr (hpts.turn (Same.of_below hBB) hBB.size) hxl)
            have HQ := Lib.hid hq
            clear hfive hpts hX hlt' hb hbb hI hq hBB hlab
            unfold datV datCs at HCK
            have hx1 := (heightF_le m X.2).1
            obtain ⟨v, hv⟩ : ∃ z, z = heightF m X.2 := ⟨_, rfl⟩
            rw [← hv] at HCK HQ hx1
            obtain ⟨M, hM⟩ : ∃ M, M = max N v := ⟨_, rfl⟩
            have hMx : (if N < v then v else N) = M := by split <;> omega
            have hMy : (if v < N then N else v) = M := by split <;> omega
            rw [← hM] at HQ
            have hM0 : 0 ≤ M := by omega
            clear hv hM hxl
            go_wp2_with fail
            refine (unhide HCK).mono ?_; rintro e w5 ⟨rfl, hB5⟩
            have HB5 := hide (hB.out.trans (hB5.mono hB.out.size))
            clear hB5 HCK s0 s1 s2 s3 s4 s5 c0 c1 c2 c3 c4
            go_wp2_with fail
            go_roundw
            case rel => exact ⟨i + 1, M, by go_num, rfl, by omega, hM0, HQ, HB5⟩
            case measure => simp [intOf]; omega
          · have hst : res = N + 1 := by rw [hI.out, List.drop_eq_nil_of_le (by rw [← HY.out]; omega)]; rfl
            have w1' : IntKind.i64.wrap (N + 1) = N + 1 := IntWalk.i64_in _ (by omega)
            have HST := Lib.hid hst
            clear hst hI
            go_wp2_with fail
            go_ret
            exact ⟨ret_int HST.out.symm, HB4.out.trans (hB.out.mono HB4.out.size)⟩

set_option maxRecDepth 20000 in
theorem refDepth_run (m : Nat) (d : Dt) (A : Option Addr) (c : Nat) (A' : Option Addr) (c' : Nat) (w : World) (hp : Parts w w.heap.size m d A c A' c') (hle : partsF m d ≤ 1000000000) :
    Calls Tryd.prog 21 #[datV d A c A' c'] w fun e w' => e = .returned (.int .i64 (if checkD d = 0 then heightF m d else 0)) ∧ Below w.heap.size w w' := by
  have HC := hide fun w' (hB : Below w.heap.size w w') => refValidD_run m d A c A' c' w' (hp.turn (Same.of_below hB) hB.size)
  have HM := hide fun w' (hB : Below w.heap.size w w') => refdepth_run m d A c A' c' w' (hp.turn (Same.of_below hB) hB.size) hle
  obtain ⟨res, hres⟩ : ∃ k, k = (if checkD d = 0 then heightF m d else 0) := ⟨_, rfl⟩
  rw [← hres]
  obtain ⟨z, hz⟩ : ∃ z, z = (checkD d == 0) := ⟨_, rfl⟩
  rw [← hz] at HC
  have HRES := Lib.hid hres; have HZZ := Lib.hid hz
  unfold datV datCs at HC HM
  unfold datV datCs
  obtain ⟨k, hk⟩ : ∃ k, k = kD d := ⟨_, rfl⟩
  obtain ⟨n, hn⟩ : ∃ k, k = nD d := ⟨_, rfl⟩
  obtain ⟨s, hs⟩ : ∃ k, k = sD d := ⟨_, rfl⟩
  obtain ⟨x, hx⟩ : ∃ k, k = (iD d).length := ⟨_, rfl⟩
  obtain ⟨y, hy⟩ : ∃ k, k = (mD d).length := ⟨_, rfl⟩
  rw [← hk, ← hn, ← hs, ← hx, ← hy] at HC HM ⊢
  clear hp hz hres hk hn hs hx hy
  go_enter Tryd.func21, Tryd.ntmps21
  go_upto_region 1 with fail
  obtain ⟨w1, g, e1, e2, hBL, c0, c1, c2, c3, c4, hROW⟩ := boxD w k n s (.slice A x c) (.slice A' y c')
  rw [e1, e2]
  have HBL := hide hBL; have HROW := hide hROW
  clear e1 e2 hBL hROW
  go_wp2_with fail
  refine (HC.out _ HBL.out).mono ?_; rintro e w2 ⟨rfl, hB2⟩
  have HB2 := hide (HBL.out.trans (hB2.mono HBL.out.size))
  obtain ⟨c0', c1', c2', c3', c4'⟩ := row5 (HROW.out.below hB2)
  clear c0 c1 c2 c3 c4 hB2 HROW HC HBL
  cases z with
  | true =>
    have HZ := hide (show res = heightF m d by rw [HRES.out, if_pos (by simpa using HZZ.out.symm)])
    go_wp2_with fail
    refine (HM.out _ HB2.out).mono ?_; rintro e w3 ⟨rfl, hB3⟩
    have HB3 := hide (HB2.out.trans (hB3.mono HB2.out.size))
    clear hB3
    go_wp2_with fail
    go_ret
    exact ⟨ret_int HZ.out.symm, HB3.out⟩
  | false =>
    have HZ := hide (show res = 0 by rw [HRES.out, if_neg (by simpa using HZZ.out.symm)])
    go_wp2_with fail
    go_ret
    exact ⟨ret_int HZ.out.symm, HB2.out⟩

set_option maxRecDepth 20000 in
theorem refSize_run (m : Nat) (d : Dt) (A : Option Addr) (c : Nat) (A' : Option Addr) (c' : Nat) (w : World) (hp : Parts w w.heap.size m d A c A' c') :
    Calls Tryd.prog 23 #[datV d A c A' c'] w fun e w' => e = .returned (.int .i64 (if checkD d = 0 then sizeF m d 1073741824 else 0)) ∧ Below w.heap.size w w' := by
  have HC := hide fun w' (hB : Below w.heap.size w w') => refValidD_run m d A c A' c' w' (hp.turn (Same.of_below hB) hB.size)
  have HM := hide fun w' (hB : Below w.heap.size w w') => size_run m d A c A' c' 1073741824 w' (by omega) (by omega) (hp.turn (Same.of_below hB) hB.size)
  obtain ⟨res, hres⟩ : ∃ k, k = (if checkD d = 0 then sizeF m d 1073741824 else 0) := ⟨_, rfl⟩
  rw [← hres]
  obtain ⟨z, hz⟩ : ∃ z, z = (checkD d == 0) := ⟨_, rfl⟩
  rw [← hz] at HC
  have HRES := Lib.hid hres; have HZZ := Lib.hid hz
  unfold datV datCs at HC HM
  unfold datV datCs
  obtain ⟨k, hk⟩ : ∃ k, k = kD d := ⟨_, rfl⟩
  obtain ⟨n, hn⟩ : ∃ k, k = nD d := ⟨_, rfl⟩
  obtain ⟨s, hs⟩ : ∃ k, k = sD d := ⟨_, rfl⟩
  obtain ⟨x, hx⟩ : ∃ k, k = (iD d).length := ⟨_, rfl⟩
  obtain ⟨y, hy⟩ : ∃ k, k = (mD d).length := ⟨_, rfl⟩
  rw [← hk, ← hn, ← hs, ← hx, ← hy] at HC HM ⊢
  clear hp hz hres hk hn hs hx hy
  go_enter Tryd.func23, Tryd.ntmps23
  go_upto_region 1 with fail
  obtain ⟨w1, g, e1, e2, hBL, c0, c1, c2, c3, c4, hROW⟩ := boxD w k n s (.slice A x c) (.slice A' y c')
  rw [e1, e2]
  have HBL := hide hBL; have HROW := hide hROW
  clear e1 e2 hBL hROW
  go_wp2_with fail
  refine (HC.out _ HBL.out).mono ?_; rintro e w2 ⟨rfl, hB2⟩
  have HB2 := hide (HBL.out.trans (hB2.mono HBL.out.size))
  obtain ⟨c0', c1', c2', c3', c4'⟩ := row5 (HROW.out.below hB2)
  clear c0 c1 c2 c3 c4 hB2 HROW HC HBL
  cases z with
  | true =>
    have HZ := hide (show res = sizeF m d 1073741824 by rw [HRES.out, if_pos (by simpa using HZZ.out.symm)])
    go_wp2_with fail
    refine (HM.out _ HB2.out).mono ?_; rintro e w3 ⟨rfl, hB3⟩
    have HB3 := hide (HB2.out.trans (hB3.mono HB2.out.size))
    clear hB3
    go_wp2_with fail
    go_ret
    exact ⟨ret_int HZ.out.symm, HB3.out⟩
  | false =>
    have HZ := hide (show res = 0 by rw [HRES.out, if_neg (by simpa using HZZ.out.symm)])
    go_wp2_with fail
    go_ret
    exact ⟨ret_int HZ.out.symm, HB2.out⟩

/-- size counts all parts where these are few enough. -/
theorem loopS_sum (f : Dt → Int → Int) (g : Dt → Int) (most : Int) : ∀ (l : List Dt) (n : Int), (∀ x ∈ l, 0 ≤ g x ∧ ∀ b, 0 ≤ b → (f x b ≤ b → f x b = g x) ∧ (g x ≤ b → f x b = g x) ∧ (b < f x b ∨ f x b = g x)) → loopS f most l n ≤ most → loopS f most l n = n + sumL g l
  | [], n, _, _ => by simp [loopS, sumL]
  | x :: l, n, h, hle => by
    unfold loopS at hle ⊢
    obtain ⟨h0, hx⟩ := h x (List.mem_cons_self ..)
    split at hle
    · rename_i hn
      rw [if_pos hn]
      rcases (hx (most - n) (by omega)).2.2 with h1 | h1
      · exfalso
        have : ¬ n + f x (most - n) ≤ most := by omega
        cases l with
        | nil => simp [loopS] at hle; omega
        | cons y l => rw [loopS, if_neg this] at hle; exact this hle
      · have := loopS_sum f g most l (n + f x (most - n)) (fun y hy => h y (List.mem_cons_of_mem _ hy)) hle
        rw [this, h1, sumL]; omega
    · rename_i hn; exact absurd hle hn
theorem loopS_all (f : Dt → Int → Int) (g : Dt → Int) (most : Int) : ∀ (l : List Dt) (n : Int), (∀ x ∈ l, 1 ≤ g x ∧ ∀ b, 0 ≤ b → g x ≤ b + 1 → f x b = g x) → n + sumL g l ≤ most + 1 → loopS f most l n = n + sumL g l
  | [], n, _, _ => by simp [loopS, sumL]
  | x :: l, n, h, hle => by
    obtain ⟨h0, hx⟩ := h x (List.mem_cons_self ..)
    have hs : 0 ≤ sumL g l := by
      have := length_le_sumL (f := g) l fun y hy => (h y (List.mem_cons_of_mem _ hy)).1
      omega
    unfold sumL at hle ⊢
    unfold loopS
    rw [if_pos (by omega), hx (most - n) (by omega) (by omega), loopS_all f g most l _ (fun y hy => h y (List.mem_cons_of_mem _ hy)) (by omega)]
    omega
theorem sizeF_all {w : World} {B : Nat} : ∀ (m : Nat) {d : Dt} {A c A' c'} (b : Int), Parts w B m d A c A' c' → 0 ≤ b → partsF m d ≤ b + 1 → sizeF m d b = partsF m d
  | 0, _, _, _, _, _, _, h, _, _ => h.elim
  | m + 1, d, _, _, _, _, b, h, hb, hle => by
    unfold partsF at hle ⊢
    unfold sizeF
    exact loopS_all (sizeF m) (partsF m) b (kids d) 1 (fun x hx => by
      obtain ⟨a, q, a', q', hp⟩ := parts_kid h hx
      exact ⟨partsF_pos hp, fun b hb hle => sizeF_all m b hp hb hle⟩) hle
theorem parts_of_size {w : World} {B : Nat} : ∀ (m : Nat) {d : Dt} {A c A' c'} (b : Int), Parts w B m d A c A' c' → 0 ≤ b → (b < sizeF m d b ∨ sizeF m d b = partsF m d)
  | 0, _, _, _, _, _, _, h, _ => h.elim
  | m + 1, d, _, _, _, _, b, h, hb => by
    by_cases h1 : b < sizeF (m + 1) d b
    · exact .inl h1
    · right
      have h1 : sizeF (m + 1) d b ≤ b := by omega
      have := loopS_sum (sizeF m) (partsF m) b (kids d) 1 (fun x hx => by
        obtain ⟨a, q, a', q', hp⟩ := parts_kid h hx
        refine ⟨partsF_nonneg m x, fun b' hb' => ⟨fun hle => ?_, fun hle => sizeF_all m b' hp hb' (by omega), parts_of_size m b' hp hb'⟩⟩
        rcases parts_of_size m b' hp hb' with h2 | h2
        · omega
        · exact h2) h1
      exact this
theorem small_parts {w : World} {B m : Nat} {d : Dt} {A c A' c'} (h : Parts w B m d A c A' c') (hs : smallF m d = true) : partsF m d ≤ 40 := by
  have h1 : sizeF m d 40 ≤ 40 := by
    unfold smallF at hs
    have := (Bool.and_eq_true _ _ ▸ hs).1
    simpa using this
  rcases parts_of_size m 40 h (by omega) with h2 | h2 <;> omega
end Go.Proofs.YtajpgmacabeeeaaDoor
