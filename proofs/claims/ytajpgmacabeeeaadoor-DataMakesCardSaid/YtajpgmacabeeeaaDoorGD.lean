/- items and members of the reference; compare, Compare and Equal of the reference; Compare and Equal of the reference, and that they are the program's; Results that lie in a block; step. -/
import Derived.Test.YtajpgmacabeeeaaDoorGC
import Derived.Test.YtajpgmacabeeeaaDoorGB
import Derived.Laws.ResultCell
import Derived.Laws.Rows

/- items and members of the reference. -/
namespace Go.Proofs.YtajpgmacabeeeaaDoor
open Go.RowKit

set_option maxRecDepth 20000 in
set_option maxHeartbeats 1000000 in
theorem refItems_run (m : Nat) (f : Dt → Dt → Int)
    (hf : ∀ X a q a' q' Y b p b' p' w, Parts w w.heap.size m X a q a' q' → Parts w w.heap.size m Y b p b' p' → Calls Tryd.prog 47 #[datV X a q a' q', datV Y b p b' p'] w fun e w' => e = .returned (.int .i64 (f X Y)) ∧ Below w.heap.size w w')
    (u v : Value) (l k : List (Dt)) (w : World) (hu : Dats w w.heap.size m u l) (hv : Dats w w.heap.size m v k) :
    Calls Tryd.prog 71 #[u, v] w fun e w' => e = .returned (.int .i64 (cmpL f l k)) ∧ Below w.heap.size w w' := by
  obtain ⟨A, c, rfl, h1, h2, hels⟩ := hu
  obtain ⟨A', c', rfl, h3, h4, hels'⟩ := hv
  have hm := maxLen_le h2; have hm' := maxLen_le h4
  have HE := Lib.hid hels; have HE' := Lib.hid hels'; have HF := hide hf
  obtain ⟨n, hn⟩ : ∃ n, n = l.length := ⟨_, rfl⟩
  obtain ⟨n', hn'⟩ : ∃ n, n = k.length := ⟨_, rfl⟩
  rw [← hn] at h1 ⊢
  rw [← hn'] at h3 ⊢
  obtain ⟨res, hres⟩ : ∃ r, r = cmpL f l k := ⟨_, rfl⟩
  rw [← hres]
  have HN := Lib.hid hn; have HN' := Lib.hid hn'; have HRES := Lib.hid hres
  clear hels hels' hn hn' hres h2 h4 hf
  go_enter Tryd.func71, Tryd.ntmps71
  go_wp2_with fail
  go_loopw [5, 6] (fun iv _ wr => ∃ i : Nat, iv = .int .i64 i ∧ i ≤ n ∧ i ≤ n' ∧ Hid (res = cmpL f (l.drop i) (k.drop i)) ∧ Hid (Below w.heap.size w wr)) (fun iv _ _ => n - (intOf iv).toNat)
  case atStart => exact ⟨0, rfl, Nat.zero_le _, Nat.zero_le _, HRES, hide (Below.refl _ _)⟩
  case round =>
    clear HRES
    obtain ⟨i, rfl, hi, hi', hI, hB⟩ := hrel
    by_cases hlt : i < n
    · by_cases hlt' : i < n'
      · have hl1 : i < l.length := by rw [← HN.out]; exact hlt
        have hl2 : i < k.length := by rw [← HN'.out]; exact hlt'
        obtain ⟨ad, rfl, hb, a, q, a', q', hfive, hpts⟩ := HE.out i _ (List.getElem?_eq_getElem hl1)
        obtain ⟨ad2, rfl, hb2, b, p, b', p', hfive2, hpts2⟩ := HE'.out i _ (List.getElem?_eq_getElem hl2)
        have hq := hI.out
        rw [drop_at hl1, drop_at hl2, cmpL] at hq
        obtain ⟨X, hX⟩ : ∃ X, X = l[i] := ⟨_, rfl⟩
        obtain ⟨Y, hY⟩ : ∃ X, X = k[i] := ⟨_, rfl⟩
        rw [← hX] at hfive hpts hq
        rw [← hY] at hfive2 hpts2 hq
        have hbb : (ad.add (i * 5)).block < w.heap.size := by rw [block_of_add]; exact hb
        have hbb2 : (ad2.add (i * 5)).block < w.heap.size := by rw [block_of_add]; exact hb2
        obtain ⟨s0, s1, s2, s3, s4⟩ := hfive.same hbb (Same.of_below hB.out)
        obtain ⟨t0, t1, t2, t3, t4⟩ := hfive2.same hbb2 (Same.of_below hB.out)
        have HQ := Lib.hid hq
        have HCK := hide fun w' (hB' : Below w.heap.size w w') => HF.out X a q a' q' Y b p b' p' w' (hpts.turn (Same.of_below hB') hB'.size) (hpts2.turn (Same.of_below hB') hB'.size)
        unfold datV datCs at HCK
        obtain ⟨z, hz⟩ : ∃ z, z = f X Y := ⟨_, rfl⟩
        rw [← hz] at HCK
        rw [← hz] at HQ
        clear hfive hpts hX hl1 hb hbb hfive2 hpts2 hY hl2 hb2 hbb2 hI hq hz
        go_wp2_with fail
        refine wp_region_still_tail 8 (by kernel_rfl) (by kernel_rfl) ?_
        simp only [List.take_succ_cons, List.take_zero, List.drop_succ_cons, List.drop_zero]
        repeat still_step
        refine wpStill_nil ?_
        go_wp2_with fail
        refine (HCK.out _ hB.out.drew).mono ?_; rintro e w4 ⟨rfl, hB4⟩
        have HB4 := hide (hB.out.drew.trans (hB4.mono hB.out.drew.size))
        clear hB4 HCK s0 s1 s2 s3 s4 t0 t1 t2 t3 t4
        by_cases hz0 : z = 0
        · subst hz0
          have HQ2 := hide (show res = cmpL f (l.drop (i + 1)) (k.drop (i + 1)) by rw [HQ.out, if_pos rfl])
          go_wp2_with fail
          go_roundw
          case rel => exact ⟨i + 1, by go_num, by omega, by omega, HQ2, HB4⟩
          case measure => simp [intOf]; omega
        · have HZ := hide (show res = z by rw [HQ.out, if_neg hz0])
          have g2 : (z != 0) = true := by simpa using hz0
          clear hz0
          go_wp2_with fail
          go_ret
          exact ⟨ret_int HZ.out.symm, HB4.out⟩
      · have hk0 : k.drop i = [] := List.drop_eq_nil_of_le (by rw [← HN'.out]; omega)
        have HZ := hide (show res = 1 by rw [hI.out, drop_at (by rw [← HN.out]; exact hlt), hk0]; rfl)
        have HNUM := hide fun w => refNum_run n n' w
        rw [show cmpI n n' = 1 by unfold cmpI; rw [if_neg (by omega), if_pos (by omega)]] at HNUM
        clear hI hk0
        go_wp2_with fail
        refine (HNUM.out _).mono ?_; rintro e w4 ⟨rfl, rfl⟩
        go_wp2_with fail
        go_ret
        exact ⟨ret_int HZ.out.symm, hB.out⟩
    · obtain rfl : i = n := by omega
      have hl0 : l.drop i = [] := List.drop_eq_nil_of_le (by rw [← HN.out]; omega)
      have hz : res = cmpI i n' := by
        rw [hI.out, hl0]
        by_cases h : i < n'
        · rw [drop_at (by rw [← HN'.out]; exact h), cmpI, if_pos (by omega)]; rfl
        · have hk0 : k.drop i = [] := List.drop_eq_nil_of_le (by rw [← HN'.out]; omega)
          rw [hk0, cmpI, if_neg (by omega), if_neg (by omega)]; rfl
      have HNUM := hide fun w => refNum_run i n' w
      rw [← hz] at HNUM
      clear hz hI hl0
      go_wp2_with fail
      refine (HNUM.out _).mono ?_; rintro e w4 ⟨rfl, rfl⟩
      go_wp2_with fail
      go_ret
      exact ⟨rfl, hB.out⟩

set_option maxRecDepth 20000 in
set_option maxHeartbeats 1000000 in
theorem refMembers_run (m : Nat) (f : Dt → Dt → Int)
    (hf : ∀ X a q a' q' Y b p b' p' w, Parts w w.heap.size m X a q a' q' → Parts w w.heap.size m Y b p b' p' → Calls Tryd.prog 47 #[datV X a q a' q', datV Y b p b' p'] w fun e w' => e = .returned (.int .i64 (f X Y)) ∧ Below w.heap.size w w')
    (u v : Value) (l k : List (ByteArray × Dt)) (w : World) (hu : Mems w w.heap.size m u l) (hv : Mems w w.heap.size m v k) :
    Calls Tryd.prog 72 #[u, v] w fun e w' => e = .returned (.int .i64 (cmpL (compM f) l k)) ∧ Below w.heap.size w w' := by
  obtain ⟨A, c, rfl, h1, h2, hels⟩ := hu
  obtain ⟨A', c', rfl, h3, h4, hels'⟩ := hv
  have hm := maxLen_le h2; have hm' := maxLen_le h4
  have HE := Lib.hid hels; have HE' := Lib.hid hels'; have HF := hide hf
  obtain ⟨n, hn⟩ : ∃ n, n = l.length := ⟨_, rfl⟩
  obtain ⟨n', hn'⟩ : ∃ n, n = k.length := ⟨_, rfl⟩
  rw [← hn] at h1 ⊢
  rw [← hn'] at h3 ⊢
  obtain ⟨res, hres⟩ : ∃ r, r = cmpL (compM f) l k := ⟨_, rfl⟩
  rw [← hres]
  have HN := Lib.hid hn; have HN' := Lib.hid hn'; have HRES := Lib.hid hres
  clear hels hels' hn hn' hres h2 h4 hf
  go_enter Tryd.func72, Tryd.ntmps72
  go_wp2_with fail
  go_loopw [5, 6] (fun iv _ wr => ∃ i : Nat, iv = .int .i64 i ∧ i ≤ n ∧ i ≤ n' ∧ Hid (res = cmpL (compM f) (l.drop i) (k.drop i)) ∧ Hid (Below w.heap.size w wr)) (fun iv _ _ => n - (intOf iv).toNat)
  case atStart => exact ⟨0, rfl, Nat.zero_le _, Nat.zero_le _, HRES, hide (Below.refl _ _)⟩
  case round =>
    clear HRES
    obtain ⟨i, rfl, hi, hi', hI, hB⟩ := hrel
    by_cases hlt : i < n
    · by_cases hlt' : i < n'
      · have hl1 : i < l.length := by rw [← HN.out]; exact hlt
        have hl2 : i < k.length := by rw [← HN'.out]; exact hlt'
        obtain ⟨ad, rfl, hb, hlab, a, q, a', q', hfive, hpts⟩ := HE.out i _ (List.getElem?_eq_getElem hl1)
        obtain ⟨ad2, rfl, hb2, hlab2, b, p, b', p', hfive2, hpts2⟩ := HE'.out i _ (List.getElem?_eq_getElem hl2)
        have hq := hI.out
        rw [drop_at hl1, drop_at hl2, cmpL] at hq
        obtain ⟨X, hX⟩ : ∃ X, X = l[i] := ⟨_, rfl⟩
        obtain ⟨Y, hY⟩ : ∃ X, X = k[i] := ⟨_, rfl⟩
        rw [← hX] at hfive hpts hq hlab
        rw [← hY] at hfive2 hpts2 hq hlab2
        have hbb : (ad.add (i * 6)).block < w.heap.size := by rw [block_of_add]; exact hb
        have hbb2 : (ad2.add (i * 6)).block < w.heap.size := by rw [block_of_add]; exact hb2
        have HSX := hide fun W (h : Below w.heap.size w W) => And.intro (six_of ((h.cell (p := ad.add (i * 6)) hbb).trans hlab) (hfive.same (p := ⟨_, _, none⟩) hbb (Same.of_below h))) (six_of ((h.cell (p := ad2.add (i * 6)) hbb2).trans hlab2) (hfive2.same (p := ⟨_, _, none⟩) hbb2 (Same.of_below h)))
        obtain ⟨⟨s0, s1, s2, s3, s4, s5⟩, t0, t1, t2, t3, t4, t5⟩ := HSX.out _ hB.out
        have HQ := Lib.hid hq
        have HCK := hide fun w' (hB' : Below w.heap.size w w') => HF.out X.2 a q a' q' Y.2 b p b' p' w' (hpts.turn (Same.of_below hB') hB'.size) (hpts2.turn (Same.of_below hB') hB'.size)
        unfold datV datCs at HCK
        obtain ⟨z, hz⟩ : ∃ z, z = f X.2 Y.2 := ⟨_, rfl⟩
        rw [← hz] at HCK
        unfold compM at HQ
        obtain ⟨r, hr⟩ : ∃ r, r = cmpS X.1 Y.1 := ⟨_, rfl⟩
        have HST := hide fun w => refStr_run X.1 Y.1 w
        rw [← hr] at HST HQ
        rw [← hz] at HQ
        clear hfive hpts hX hl1 hb hbb hfive2 hpts2 hY hl2 hb2 hbb2 hI hq hz hr hlab hlab2
        go_wp2_with fail
        go_quiet ((go_at_call 70; exact Calls.quiet_of_same (HST.out _)))
        have HBQ := hide (below_drewN hB.out nq)
        obtain ⟨wz, hwz⟩ : ∃ wz, wz = wr.drewN nq := ⟨_, rfl⟩
        rw [← hwz] at HBQ ⊢
        clear hwz s0 s1 s2 s3 s4 s5 t0 t1 t2 t3 t4 t5
        obtain ⟨⟨s0, s1, s2, s3, s4, s5⟩, t0, t1, t2, t3, t4, t5⟩ := HSX.out _ HBQ.out
        by_cases hr0 : r = 0
        · subst hr0
          have HQ1 := hide (show res = if z = 0 then cmpL (compM f) (l.drop (i + 1)) (k.drop (i + 1)) else z by rw [HQ.out, orI, if_pos rfl]; rfl)
          clear HQ HST
          go_wp2_with fail
          refine wp_region_still_tail 10 (by kernel_rfl) (by kernel_rfl) ?_
          simp only [List.take_succ_cons, List.take_zero, List.drop_succ_cons, List.drop_zero]
          repeat still_step
          refine wpStill_nil ?_
          go_wp2_with fail
          refine (HCK.out _ HBQ.out.drew).mono ?_; rintro e w4 ⟨rfl, hB4⟩
          have HB4 := hide (HBQ.out.drew.trans (hB4.mono HBQ.out.drew.size))
          clear hB4 HCK s0 s1 s2 s3 s4 s5 t0 t1 t2 t3 t4 t5
          by_cases hz0 : z = 0
          · subst hz0
            have HQ2 := hide (show res = cmpL (compM f) (l.drop (i + 1)) (k.drop (i + 1)) by rw [HQ1.out, if_pos rfl])
            go_wp2_with fail
            go_roundw
            case rel => exact ⟨i + 1, by go_num, by omega, by omega, HQ2, HB4⟩
            case measure => simp [intOf]; omega
          · have HZ := hide (show res = z by rw [HQ1.out, if_neg hz0])
            have g2 : (z != 0) = true := by simpa using hz0
            clear hz0
            go_wp2_with fail
            go_ret
            exact ⟨ret_int HZ.out.symm, HB4.out⟩
        · have HZ := hide (show res = r by rw [HQ.out, orI, if_neg hr0, if_neg hr0])
          have g2 : (r != 0) = true := by simpa using hr0
          have g3 : (r == 0) = false := by simpa using hr0
          clear hr0
          go_wp2_with fail
          go_ret
          exact ⟨ret_int HZ.out.symm, HBQ.out⟩
      · have hk0 : k.drop i = [] := List.drop_eq_nil_of_le (by rw [← HN'.out]; omega)
        have HZ := hide (show res = 1 by rw [hI.out, drop_at (by rw [← HN.out]; exact hlt), hk0]; rfl)
        have HNUM := hide fun w => refNum_run n n' w
        rw [show cmpI n n' = 1 by unfold cmpI; rw [if_neg (by omega), if_pos (by omega)]] at HNUM
        clear hI hk0
        go_wp2_with fail
        refine (HNUM.out _).mono ?_; rintro e w4 ⟨rfl, rfl⟩
        go_wp2_with fail
        go_ret
        exact ⟨ret_int HZ.out.symm, hB.out⟩
    · obtain rfl : i = n := by omega
      have hl0 : l.drop i = [] := List.drop_eq_nil_of_le (by rw [← HN.out]; omega)
      have hz : res = cmpI i n' := by
        rw [hI.out, hl0]
        by_cases h : i < n'
        · rw [drop_at (by rw [← HN'.out]; exact h), cmpI, if_pos (by omega)]; rfl
        · have hk0 : k.drop i = [] := List.drop_eq_nil_of_le (by rw [← HN'.out]; omega)
          rw [hk0, cmpI, if_neg (by omega), if_neg (by omega)]; rfl
      have HNUM := hide fun w => refNum_run i n' w
      rw [← hz] at HNUM
      clear hz hI hl0
      go_wp2_with fail
      refine (HNUM.out _).mono ?_; rintro e w4 ⟨rfl, rfl⟩
      go_wp2_with fail
      go_ret
      exact ⟨rfl, hB.out⟩
end Go.Proofs.YtajpgmacabeeeaaDoor

/- compare, Compare and Equal of the reference. -/
namespace Go.Proofs.YtajpgmacabeeeaaDoor
open Go.RowKit

def rcompF : Nat → Dt → Dt → Int
  | 0, _, _ => 0
  | m + 1, d, e =>
    if kD d ≠ kD e then cmpI (kD d) (kD e)
    else if kD d = 2 ∨ kD d = 3 then cmpI (nD d) (nD e)
    else if kD d = 4 then cmpS (sD d) (sD e)
    else if kD d = 5 then cmpL (rcompF m) (iD d) (iD e)
    else if kD d = 6 then cmpL (compM (rcompF m)) (mD d) (mD e)
    else 0

set_option maxRecDepth 20000 in
set_option maxHeartbeats 2000000 in
theorem rcomp_run : ∀ (m : Nat) (d : Dt) (A : Option Addr) (c : Nat) (A' : Option Addr) (c' : Nat) (e : Dt) (E : Option Addr) (f : Nat) (E' : Option Addr) (f' : Nat) (w : World), Parts w w.heap.size m d A c A' c' → Parts w w.heap.size m e E f E' f' →
    Calls Tryd.prog 47 #[datV d A c A' c', datV e E f E' f'] w fun r w' => r = .returned (.int .i64 (rcompF m d e)) ∧ Below w.heap.size w w' := by
  intro m
  induction m with
  | zero => intro d A c A' c' e E f E' f' w hp _; exact hp.elim
  | succ m ih =>
    intro d A c A' c' e E f E' f' w hp hp'
    have HCD := hide fun w' (hB : Below w.heap.size w w') => refItems_run m (rcompF m) (fun X a q a' q' Y b p b' p' w => ih X a q a' q' Y b p b' p' w) (.slice A (iD d).length c) (.slice E (iD e).length f) (iD d) (iD e) w'
      ⟨A, c, rfl, hp.lens.1, hp.lens.2.1, hp.2.1.turn (Same.of_below hB) hB.size fun _ _ _ _ _ => Parts.turn (Same.of_below hB) hB.size⟩ ⟨E, f, rfl, hp'.lens.1, hp'.lens.2.1, hp'.2.1.turn (Same.of_below hB) hB.size fun _ _ _ _ _ => Parts.turn (Same.of_below hB) hB.size⟩
    have HCM := hide fun w' (hB : Below w.heap.size w w') => refMembers_run m (rcompF m) (fun X a q a' q' Y b p b' p' w => ih X a q a' q' Y b p b' p' w) (.slice A' (mD d).length c') (.slice E' (mD e).length f') (mD d) (mD e) w'
      ⟨A', c', rfl, hp.lens.2.2.1, hp.lens.2.2.2, hp.2.2.turn (Same.of_below hB) hB.size fun _ _ _ _ _ => Parts.turn (Same.of_below hB) hB.size⟩ ⟨E', f', rfl, hp'.lens.2.2.1, hp'.lens.2.2.2, hp'.2.2.turn (Same.of_below hB) hB.size fun _ _ _ _ _ => Parts.turn (Same.of_below hB) hB.size⟩
    obtain ⟨res, hres⟩ : ∃ k, k = rcompF (m + 1) d e := ⟨_, rfl⟩
    rw [← hres]
    unfold rcompF at hres
    unfold datV datCs
    obtain ⟨r1, hr1⟩ : ∃ r, r = cmpL (rcompF m) (iD d) (iD e) := ⟨_, rfl⟩
    obtain ⟨r2, hr2⟩ : ∃ r, r = cmpL (compM (rcompF m)) (mD d) (mD e) := ⟨_, rfl⟩
    rw [← hr1] at HCD hres
    rw [← hr2] at HCM hres
    obtain ⟨h1, h2, h3, h4⟩ := hp.lens
    obtain ⟨h5, h6, h7, h8⟩ := hp'.lens
    have hm1 := maxLen_le h2; have hm2 := maxLen_le h4; have hm3 := maxLen_le h6; have hm4 := maxLen_le h8
    obtain ⟨k, hk⟩ : ∃ k, k = kD d := ⟨_, rfl⟩
    obtain ⟨n, hn⟩ : ∃ k, k = nD d := ⟨_, rfl⟩
    obtain ⟨s, hs⟩ : ∃ k, k = sD d := ⟨_, rfl⟩
    obtain ⟨x, hx⟩ : ∃ k, k = (iD d).length := ⟨_, rfl⟩
    obtain ⟨y, hy⟩ : ∃ k, k = (mD d).length := ⟨_, rfl⟩
    rw [← hk, ← hn, ← hs] at hres
    rw [← hk, ← hn, ← hs, ← hx, ← hy]
    rw [← hx] at HCD
    rw [← hy] at HCM
    obtain ⟨k2, hk2⟩ : ∃ k, k = kD e := ⟨_, rfl⟩
    obtain ⟨n2, hn2⟩ : ∃ k, k = nD e := ⟨_, rfl⟩
    obtain ⟨s2, hs2⟩ : ∃ k, k = sD e := ⟨_, rfl⟩
    obtain ⟨x2, hx2⟩ : ∃ k, k = (iD e).length := ⟨_, rfl⟩
    obtain ⟨y2, hy2⟩ : ∃ k, k = (mD e).length := ⟨_, rfl⟩
    rw [← hk2, ← hn2, ← hs2] at hres
    rw [← hk2, ← hn2, ← hs2, ← hx2, ← hy2]
    rw [← hx2] at HCD
    rw [← hy2] at HCM
    have HI := hide fun w => refNum_run k k2 w
    have HJ := hide fun w => refNum_run n n2 w
    have HT := hide fun w => refStr_run s s2 w
    have HRES := Lib.hid hres
    clear hr1 hr2 hk hn hs hx hy hk2 hn2 hs2 hx2 hy2 hres h1 h2 h3 h4 h5 h6 h7 h8 hp hp'
    go_enter Tryd.func47, Tryd.ntmps47
    go_upto_region 1 with fail
    obtain ⟨w1, g, e1, e2, hB1, _, _, _, _, _, hR1⟩ := boxD w k n s (.slice A x c) (.slice A' y c')
    obtain ⟨w2, g2, e3, e4, hB2, _, _, _, _, _, hR2⟩ := boxD w1 k2 n2 s2 (.slice E x2 f) (.slice E' y2 f')
    have e5 : g + 1 = g2 := by rw [← e4, ← e1, ← e2]; simp
    rw [e1, e2, e3, e5]
    have HBL := hide (hB1.trans (hB2.mono hB1.size))
    have hS := And.intro (row5 (hR1.below hB2)) (row5 hR2)
    clear e1 e2 e3 e4 e5 hB1 hB2 hR1 hR2
    rename_i z0 z1 z2 z3 z4 z5 z6 z7 z8 z9
    clear z0 z1 z2 z3 z4 z5 z6 z7 z8 z9
    obtain ⟨⟨s0, s1, s2', s3, s4⟩, t0, t1, t2, t3, t4⟩ := hS
    by_cases hkk : k = k2
    · subst hkk
      have HR2 := hide (show res = if k = 2 ∨ k = 3 then cmpI n n2 else if k = 4 then cmpS s s2 else if k = 5 then r1 else if k = 6 then r2 else 0 by rw [HRES.out, if_neg (by simp)])
      have gk : (k != k) = false := by simp
      clear HRES
      by_cases k2' : k = 2
      · subst k2'
        have HZ := hide (show res = cmpI n n2 by rw [HR2.out, if_pos (.inl rfl)])
        go_wp2_with fail
        refine (HJ.out _).mono ?_; rintro r w3 ⟨rfl, rfl⟩
        go_wp2_with fail
        go_ret
        exact ⟨ret_int HZ.out.symm, HBL.out⟩
      by_cases k3 : k = 3
      · subst k3
        have HZ := hide (show res = cmpI n n2 by rw [HR2.out, if_pos (.inr rfl)])
        go_wp2_with fail
        refine (HJ.out _).mono ?_; rintro r w3 ⟨rfl, rfl⟩
        go_wp2_with fail
        go_ret
        exact ⟨ret_int HZ.out.symm, HBL.out⟩
      by_cases k4 : k = 4
      · subst k4
        have HZ := hide (show res = cmpS s s2 by rw [HR2.out, if_neg (by decide), if_pos rfl])
        go_wp2_with fail
        refine (HT.out _).mono ?_; rintro r w3 ⟨rfl, rfl⟩
        go_wp2_with fail
        go_ret
        exact ⟨ret_int HZ.out.symm, HBL.out⟩
      by_cases k5 : k = 5
      · subst k5
        have HZ := hide (show res = r1 by rw [HR2.out, if_neg (by decide), if_neg (by decide), if_pos rfl])
        go_wp2_with fail
        refine (HCD.out _ HBL.out).mono ?_; rintro r w3 ⟨rfl, hB3⟩
        have HB3 := hide (HBL.out.trans (hB3.mono HBL.out.size))
        clear hB3
        go_wp2_with fail
        go_ret
        exact ⟨ret_int HZ.out.symm, HB3.out⟩
      by_cases k6 : k = 6
      · subst k6
        have HZ := hide (show res = r2 by rw [HR2.out, if_neg (by decide), if_neg (by decide), if_neg (by decide), if_pos rfl])
        go_wp2_with fail
        refine (HCM.out _ HBL.out).mono ?_; rintro r w3 ⟨rfl, hB3⟩
        have HB3 := hide (HBL.out.trans (hB3.mono HBL.out.size))
        clear hB3
        go_wp2_with fail
        go_ret
        exact ⟨ret_int HZ.out.symm, HB3.out⟩
      have HZ := hide (show res = 0 by rw [HR2.out, if_neg (by omega), if_neg k4, if_neg k5, if_neg k6])
      have q2 : (k == 2) = false := by simpa using k2'
      have q3 : (k == 3) = false := by simpa using k3
      have q4 : (k == 4) = false := by simpa using k4
      have q5 : (k == 5) = false := by simpa using k5
      have q6 : (k == 6) = false := by simpa using k6
      clear k2' k3 k4 k5 k6
      go_wp2_with fail
      go_ret
      exact ⟨ret_int HZ.out.symm, HBL.out⟩
    · have HZ := hide (show res = cmpI k k2 by rw [HRES.out, if_pos hkk])
      have gk : (k != k2) = true := by simpa using hkk
      clear hkk
      go_wp2_with fail
      refine (HI.out _).mono ?_; rintro e w3 ⟨rfl, rfl⟩
      go_wp2_with fail
      go_ret
      exact ⟨ret_int HZ.out.symm, HBL.out⟩
end Go.Proofs.YtajpgmacabeeeaaDoor

/- Compare and Equal of the reference, and that they are the program's. -/
namespace Go.Proofs.YtajpgmacabeeeaaDoor
open Go.RowKit

def rcompareB (z v : Bool) (cc : Int) : Int := if z = true then (if v = true then cc else 0) else 0
def requalB (z v : Bool) (cc : Int) : Bool := z && (v && (cc == 0))

set_option maxRecDepth 20000 in
set_option maxHeartbeats 1000000 in
theorem refCompare_run (m : Nat) (d : Dt) (A : Option Addr) (c : Nat) (A' : Option Addr) (c' : Nat) (e : Dt) (E : Option Addr) (f : Nat) (E' : Option Addr) (f' : Nat) (w : World) (hp : Parts w w.heap.size m d A c A' c') (hp' : Parts w w.heap.size m e E f E' f') :
    Calls Tryd.prog 25 #[datV d A c A' c', datV e E f E' f'] w fun r w' => r = .returned (.int .i64 (rcompareB (checkD d == 0) (checkD e == 0) (rcompF m d e))) ∧ Below w.heap.size w w' := by
  have HC1 := hide fun w' (hB : Below w.heap.size w w') => refValidD_run m d A c A' c' w' (hp.turn (Same.of_below hB) hB.size)
  have HC2 := hide fun w' (hB : Below w.heap.size w w') => refValidD_run m e E f E' f' w' (hp'.turn (Same.of_below hB) hB.size)
  have HCC := hide fun w' (hB : Below w.heap.size w w') => rcomp_run m d A c A' c' e E f E' f' w' (hp.turn (Same.of_below hB) hB.size) (hp'.turn (Same.of_below hB) hB.size)
  obtain ⟨res, hres⟩ : ∃ k, k = rcompareB (checkD d == 0) (checkD e == 0) (rcompF m d e) := ⟨_, rfl⟩
  rw [← hres]
  unfold datV datCs at HC1 HC2 HCC
  unfold datV datCs
  obtain ⟨z, hz⟩ : ∃ z, z = (checkD d == 0) := ⟨_, rfl⟩
  obtain ⟨v, hv⟩ : ∃ z, z = (checkD e == 0) := ⟨_, rfl⟩
  obtain ⟨cc, hcc⟩ : ∃ z, z = rcompF m d e := ⟨_, rfl⟩
  rw [← hz] at HC1
  rw [← hv] at HC2
  rw [← hcc] at HCC
  rw [← hz, ← hv, ← hcc] at hres
  unfold rcompareB at hres
  clear hz hv hcc
  have HRES := Lib.hid hres
  obtain ⟨k, hk⟩ : ∃ k, k = kD d := ⟨_, rfl⟩
  obtain ⟨n, hn⟩ : ∃ k, k = nD d := ⟨_, rfl⟩
  obtain ⟨s, hs⟩ : ∃ k, k = sD d := ⟨_, rfl⟩
  obtain ⟨x, hx⟩ : ∃ k, k = (iD d).length := ⟨_, rfl⟩
  obtain ⟨y, hy⟩ : ∃ k, k = (mD d).length := ⟨_, rfl⟩
  rw [← hk, ← hn, ← hs, ← hx, ← hy] at HC1 HCC ⊢
  obtain ⟨k2, hk2⟩ : ∃ k, k = kD e := ⟨_, rfl⟩
  obtain ⟨n2, hn2⟩ : ∃ k, k = nD e := ⟨_, rfl⟩
  obtain ⟨s2, hs2⟩ : ∃ k, k = sD e := ⟨_, rfl⟩
  obtain ⟨x2, hx2⟩ : ∃ k, k = (iD e).length := ⟨_, rfl⟩
  obtain ⟨y2, hy2⟩ : ∃ k, k = (mD e).length := ⟨_, rfl⟩
  rw [← hk2, ← hn2, ← hs2, ← hx2, ← hy2] at HC2 HCC ⊢
  clear hp hp' hres hk hn hs hx hy hk2 hn2 hs2 hx2 hy2
  go_enter Tryd.func25, Tryd.ntmps25
  go_upto_region 1 with fail
  obtain ⟨w1, g, e1, e2, hB1, _, _, _, _, _, hR1⟩ := boxD w k n s (.slice A x c) (.slice A' y c')
  obtain ⟨w2, g2, e3, e4, hB2, _, _, _, _, _, hR2⟩ := boxD w1 k2 n2 s2 (.slice E x2 f) (.slice E' y2 f')
  have e5 : g + 1 = g2 := by rw [← e4, ← e1, ← e2]; simp
  rw [e1, e2, e3, e5]
  have HBL := hide (hB1.trans (hB2.mono hB1.size))
  have HS := hide fun W (h : Below w2.heap.size w2 W) => And.intro (row5 ((hR1.below hB2).below h)) (row5 (hR2.below h))
  have HBB := hide fun W (h : Below w2.heap.size w2 W) => HBL.out.trans (h.mono HBL.out.size)
  clear e1 e2 e3 e4 e5 hB1 hB2 hR1 hR2
  rename_i z0 z1 z2 z3 z4 z5 z6 z7 z8 z9
  clear z0 z1 z2 z3 z4 z5 z6 z7 z8 z9
  obtain ⟨⟨s0, s1, s2', s3, s4⟩, t0, t1, t2, t3, t4⟩ := HS.out _ (Below.refl _ _)
  go_wp2_with fail
  refine (HC1.out _ HBL.out).mono ?_; rintro r w3 ⟨rfl, hB3⟩
  have HB3 := hide hB3
  clear s0 s1 s2' s3 s4 t0 t1 t2 t3 t4 hB3 HC1
  obtain ⟨⟨s0, s1, s2', s3, s4⟩, t0, t1, t2, t3, t4⟩ := HS.out _ HB3.out
  cases z with
  | true =>
    go_wp2_with fail
    refine (HC2.out _ (HBB.out _ HB3.out)).mono ?_; rintro r w4 ⟨rfl, hB4⟩
    have HB4 := hide (HB3.out.trans (hB4.mono HB3.out.size))
    clear s0 s1 s2' s3 s4 t0 t1 t2 t3 t4 hB4 HC2
    obtain ⟨⟨s0, s1, s2', s3, s4⟩, t0, t1, t2, t3, t4⟩ := HS.out _ HB4.out
    cases v with
    | true =>
      have HZ := hide (show res = cc by rw [HRES.out]; rfl)
      go_wp2_with fail
      refine (HCC.out _ (HBB.out _ HB4.out)).mono ?_; rintro r w5 ⟨rfl, hB5⟩
      have HB5 := hide (HB4.out.trans (hB5.mono HB4.out.size))
      clear hB5 HCC
      go_wp2_with fail
      go_ret
      exact ⟨ret_int HZ.out.symm, HBB.out _ HB5.out⟩
    | false =>
      have HZ := hide (show res = 0 by rw [HRES.out]; rfl)
      go_wp2_with fail
      go_ret
      exact ⟨ret_int HZ.out.symm, HBB.out _ HB4.out⟩
  | false =>
    have HZ := hide (show res = 0 by rw [HRES.out]; rfl)
    go_wp2_with fail
    go_ret
    exact ⟨ret_int HZ.out.symm, HBB.out _ HB3.out⟩

set_option maxRecDepth 20000 in
set_option maxHeartbeats 1000000 in
theorem refEqual_run (m : Nat) (d : Dt) (A : Option Addr) (c : Nat) (A' : Option Addr) (c' : Nat) (e : Dt) (E : Option Addr) (f : Nat) (E' : Option Addr) (f' : Nat) (w : World) (hp : Parts w w.heap.size m d A c A' c') (hp' : Parts w w.heap.size m e E f E' f') :
    Calls Tryd.prog 27 #[datV d A c A' c', datV e E f E' f'] w fun r w' => r = .returned (.bool (requalB (checkD d == 0) (checkD e == 0) (rcompF m d e))) ∧ Below w.heap.size w w' := by
  have HC1 := hide fun w' (hB : Below w.heap.size w w') => refValidD_run m d A c A' c' w' (hp.turn (Same.of_below hB) hB.size)
  have HC2 := hide fun w' (hB : Below w.heap.size w w') => refValidD_run m e E f E' f' w' (hp'.turn (Same.of_below hB) hB.size)
  have HCC := hide fun w' (hB : Below w.heap.size w w') => rcomp_run m d A c A' c' e E f E' f' w' (hp.turn (Same.of_below hB) hB.size) (hp'.turn (Same.of_below hB) hB.size)
  obtain ⟨res, hres⟩ : ∃ k, k = requalB (checkD d == 0) (checkD e == 0) (rcompF m d e) := ⟨_, rfl⟩
  rw [← hres]
  unfold datV datCs at HC1 HC2 HCC
  unfold datV datCs
  obtain ⟨z, hz⟩ : ∃ z, z = (checkD d == 0) := ⟨_, rfl⟩
  obtain ⟨v, hv⟩ : ∃ z, z = (checkD e == 0) := ⟨_, rfl⟩
  obtain ⟨cc, hcc⟩ : ∃ z, z = rcompF m d e := ⟨_, rfl⟩
  rw [← hz] at HC1
  rw [← hv] at HC2
  rw [← hcc] at HCC
  rw [← hz, ← hv, ← hcc] at hres
  unfold requalB at hres
  clear hz hv hcc
  have HRES := Lib.hid hres
  obtain ⟨k, hk⟩ : ∃ k, k = kD d := ⟨_, rfl⟩
  obtain ⟨n, hn⟩ : ∃ k, k = nD d := ⟨_, rfl⟩
  obtain ⟨s, hs⟩ : ∃ k, k = sD d := ⟨_, rfl⟩
  obtain ⟨x, hx⟩ : ∃ k, k = (iD d).length := ⟨_, rfl⟩
  obtain ⟨y, hy⟩ : ∃ k, k = (mD d).length := ⟨_, rfl⟩
  rw [← hk, ← hn, ← hs, ← hx, ← hy] at HC1 HCC ⊢
  obtain ⟨k2, hk2⟩ : ∃ k, k = kD e := ⟨_, rfl⟩
  obtain ⟨n2, hn2⟩ : ∃ k, k = nD e := ⟨_, rfl⟩
  obtain ⟨s2, hs2⟩ : ∃ k, k = sD e := ⟨_, rfl⟩
  obtain ⟨x2, hx2⟩ : ∃ k, k = (iD e).length := ⟨_, rfl⟩
  obtain ⟨y2, hy2⟩ : ∃ k, k = (mD e).length := ⟨_, rfl⟩
  rw [← hk2, ← hn2, ← hs2, ← hx2, ← hy2] at HC2 HCC ⊢
  clear hp hp' hres hk hn hs hx hy hk2 hn2 hs2 hx2 hy2
  go_enter Tryd.func27, Tryd.ntmps27
  go_upto_region 1 with fail
  obtain ⟨w1, g, e1, e2, hB1, _, _, _, _, _, hR1⟩ := boxD w k n s (.slice A x c) (.slice A' y c')
  obtain ⟨w2, g2, e3, e4, hB2, _, _, _, _, _, hR2⟩ := boxD w1 k2 n2 s2 (.slice E x2 f) (.slice E' y2 f')
  have e5 : g + 1 = g2 := by rw [← e4, ← e1, ← e2]; simp
  rw [e1, e2, e3, e5]
  have HBL := hide (hB1.trans (hB2.mono hB1.size))
  have HS := hide fun W (h : Below w2.heap.size w2 W) => And.intro (row5 ((hR1.below hB2).below h)) (row5 (hR2.below h))
  have HBB := hide fun W (h : Below w2.heap.size w2 W) => HBL.out.trans (h.mono HBL.out.size)
  clear e1 e2 e3 e4 e5 hB1 hB2 hR1 hR2
  rename_i z0 z1 z2 z3 z4 z5 z6 z7 z8 z9
  clear z0 z1 z2 z3 z4 z5 z6 z7 z8 z9
  obtain ⟨⟨s0, s1, s2', s3, s4⟩, t0, t1, t2, t3, t4⟩ := HS.out _ (Below.refl _ _)
  go_wp2_with fail
  refine (HC1.out _ HBL.out).mono ?_; rintro r w3 ⟨rfl, hB3⟩
  have HB3 := hide hB3
  clear s0 s1 s2' s3 s4 t0 t1 t2 t3 t4 hB3 HC1
  obtain ⟨⟨s0, s1, s2', s3, s4⟩, t0, t1, t2, t3, t4⟩ := HS.out _ HB3.out
  cases z with
  | true =>
    go_wp2_with fail
    refine (HC2.out _ (HBB.out _ HB3.out)).mono ?_; rintro r w4 ⟨rfl, hB4⟩
    have HB4 := hide (HB3.out.trans (hB4.mono HB3.out.size))
    clear s0 s1 s2' s3 s4 t0 t1 t2 t3 t4 hB4 HC2
    obtain ⟨⟨s0, s1, s2', s3, s4⟩, t0, t1, t2, t3, t4⟩ := HS.out _ HB4.out
    cases v with
    | true =>
      have HZ := hide (show res = (cc == 0) by rw [HRES.out]; rfl)
      go_wp2_with fail
      refine (HCC.out _ (HBB.out _ HB4.out)).mono ?_; rintro r w5 ⟨rfl, hB5⟩
      have HB5 := hide (HB4.out.trans (hB5.mono HB4.out.size))
      clear hB5 HCC
      go_wp2_with fail
      go_ret
      exact ⟨ret_bool HZ.out.symm, HBB.out _ HB5.out⟩
    | false =>
      have HZ := hide (show res = false by rw [HRES.out]; rfl)
      go_wp2_with fail
      go_ret
      exact ⟨ret_bool HZ.out.symm, HBB.out _ HB4.out⟩
  | false =>
    have HZ := hide (show res = false by rw [HRES.out]; rfl)
    go_wp2_with fail
    go_ret
    exact ⟨ret_bool HZ.out.symm, HBB.out _ HB3.out⟩

/-- The two orders agree on valid data. -/
theorem firstE_zero {f : Dt → Int} : ∀ {l : List Dt}, firstE f l = 0 → ∀ x ∈ l, f x = 0
  | y :: l, h, x, hx => by
    unfold firstE at h
    split at h
    · rename_i hy
      rcases List.mem_cons.1 hx with rfl | hx
      · exact hy
      · exact firstE_zero h x hx
    · rename_i hy; exact absurd h hy
theorem cmpL_congr {α : Type} {f g : α → α → Int} : ∀ (l k : List α), (∀ x ∈ l, ∀ y ∈ k, f x y = g x y) → cmpL f l k = cmpL g l k
  | [], [], _ => rfl
  | [], _ :: _, _ => rfl
  | _ :: _, [], _ => rfl
  | x :: l, y :: k, h => by
    unfold cmpL
    rw [h x (List.mem_cons_self ..) y (List.mem_cons_self ..), cmpL_congr l k fun a ha b hb => h a (List.mem_cons_of_mem _ ha) b (List.mem_cons_of_mem _ hb)]
theorem cmpS_self (s : ByteArray) : cmpS s s = 0 := by
  unfold cmpS gtB
  have : ∀ l : List UInt8, Op.bytesLess l l = false := by
    intro l
    induction l with
    | nil => rfl
    | cons a l ih => simp [Op.bytesLess, ih]
  simp [this]
theorem plain_of {d : Dt} {r : Nat} (h : checkF (r + 1) d = 0) : plainB d = true ∧ ∀ x ∈ kids d, checkF r x = 0 := by
  unfold checkF at h
  split at h
  · rename_i ho
    refine ⟨?_, firstE_zero h⟩
    unfold ownD at ho
    cases hp : plainB d with
    | true => rfl
    | false => rw [hp, if_pos rfl] at ho; exact absurd ho (by decide)
  · rename_i ho; exact absurd h ho
theorem rcomp_eq : ∀ (m r : Nat) (d e : Dt), checkF r d = 0 → checkF r e = 0 → rcompF m d e = compF m d e
  | 0, _, _, _, _, _ => rfl
  | _ + 1, 0, _, _, h, _ => by simp [checkF] at h
  | m + 1, r + 1, d, e, hd, he => by
    obtain ⟨pd, kd⟩ := plain_of hd
    obtain ⟨pe, ke⟩ := plain_of he
    have hI : cmpL (rcompF m) (iD d) (iD e) = cmpL (compF m) (iD d) (iD e) := cmpL_congr _ _ fun x hx y hy => rcomp_eq m r x y (kd x (is_kid hx)) (ke y (is_kid hy))
    have hM : cmpL (compM (rcompF m)) (mD d) (mD e) = cmpL (compM (compF m)) (mD d) (mD e) := cmpL_congr _ _ fun x hx y hy => by
      unfold compM
      rw [rcomp_eq m r x.2 y.2 (kd _ (ms_kid hx)) (ke _ (ms_kid hy))]
    unfold rcompF compF
    rw [hI, hM]
    by_cases hk : kD d = kD e
    · rw [if_neg (by simpa using hk), if_pos hk]
      unfold plainB plainQ at pd pe
      rw [← hk] at pe
      simp only [Bool.and_eq_true, Bool.or_eq_true, decide_eq_true_eq, beq_iff_eq] at pd pe
      obtain ⟨⟨⟨⟨⟨p1, p2⟩, p3⟩, p4⟩, p5⟩, p6⟩ := pd
      obtain ⟨⟨⟨⟨⟨q1, q2⟩, q3⟩, q4⟩, q5⟩, q6⟩ := pe
      have hnil : ∀ {a : ByteArray}, a.toList = [] → ∀ {b : ByteArray}, b.toList = [] → cmpS a b = 0 := fun ha _ hb => by
        unfold cmpS gtB; rw [ha, hb]; rfl
      have hil : ∀ {l k : List Dt}, (l.length : Int) = 0 → (k.length : Int) = 0 → cmpL (compF m) l k = 0 := fun {l k} h1 h2 => by
        obtain rfl : l = [] := List.eq_nil_of_length_eq_zero (by omega)
        obtain rfl : k = [] := List.eq_nil_of_length_eq_zero (by omega)
        rfl
      have hml : ∀ {l k : List (ByteArray × Dt)}, (l.length : Int) = 0 → (k.length : Int) = 0 → cmpL (compM (compF m)) l k = 0 := fun {l k} h1 h2 => by
        obtain rfl : l = [] := List.eq_nil_of_length_eq_zero (by omega)
        obtain rfl : k = [] := List.eq_nil_of_length_eq_zero (by omega)
        rfl
      have hn : kD d ≠ 2 → kD d ≠ 3 → cmpI (nD d) (nD e) = 0 := fun a b => by
        have h1 : nD d = 0 := by rcases p3 with (h | h) | h; exact absurd h a; exact absurd h b; exact h
        have h2 : nD e = 0 := by rcases q3 with (h | h) | h; exact absurd h a; exact absurd h b; exact h
        rw [h1, h2]; rfl
      have hs : kD d ≠ 4 → cmpS (sD d) (sD e) = 0 := fun a => hnil (by rcases p4 with h | h; exact absurd h a; exact h) (by rcases q4 with h | h; exact absurd h a; exact h)
      have hi : kD d ≠ 5 → cmpL (compF m) (iD d) (iD e) = 0 := fun a => hil (by rcases p5 with h | h; exact absurd h a; exact h) (by rcases q5 with h | h; exact absurd h a; exact h)
      have hm : kD d ≠ 6 → cmpL (compM (compF m)) (mD d) (mD e) = 0 := fun a => hml (by rcases p6 with h | h; exact absurd h a; exact h) (by rcases q6 with h | h; exact absurd h a; exact h)
      have e0 : ∀ a : Int, (if orI a 0 = 0 then orI 0 0 else orI a 0) = a := fun a => by unfold orI; split <;> (try split) <;> simp_all
      by_cases c23 : kD d = 2 ∨ kD d = 3
      · rw [if_pos c23, hs (by omega), hi (by omega), hm (by omega), e0]
      · rw [if_neg c23, hn (by omega) (by omega)]
        have e1 : ∀ a : Int, orI 0 a = a := fun a => by simp [orI]
        by_cases c4 : kD d = 4
        · rw [if_pos c4, hi (by omega), hm (by omega), e1, e1]
          split
          · rename_i h; exact h
          · rfl
        · rw [if_neg c4, hs c4, e1, if_pos rfl]
          by_cases c5 : kD d = 5
          · rw [if_pos c5, hm (by omega)]
            unfold orI; split
            · rename_i h; exact h
            · rfl
          · rw [if_neg c5, hi c5, e1]
            by_cases c6 : kD d = 6
            · rw [if_pos c6]
            · rw [if_neg c6, hm c6]
    · rw [if_pos hk, if_neg hk]
theorem rcompare_eq (m : Nat) (d e : Dt) : rcompareB (checkD d == 0) (checkD e == 0) (rcompF m d e) = compareD m d e := by
  unfold rcompareB compareD
  by_cases hd : checkD d = 0
  · by_cases he : checkD e = 0
    · rw [if_pos (by simpa using hd), if_pos (by simpa using he), if_pos hd, if_pos he, rcomp_eq m 16 d e hd he]
    · rw [if_pos (by simpa using hd), if_neg (by simpa using he), if_pos hd, if_neg he]
  · rw [if_neg (by simpa using hd), if_neg hd]
theorem requal_eq (m : Nat) (d e : Dt) : requalB (checkD d == 0) (checkD e == 0) (rcompF m d e) = equalD m d e := by
  unfold requalB equalD
  by_cases hd : checkD d = 0
  · by_cases he : checkD e = 0
    · rw [rcomp_eq m 16 d e hd he]
    · have h2 : (checkD e == 0) = false := by simpa using he
      rw [h2]; rfl
  · have h2 : (checkD d == 0) = false := by simpa using hd
    rw [h2]; rfl
end Go.Proofs.YtajpgmacabeeeaaDoor

/- Results that lie in a block. -/
namespace Go.Proofs.YtajpgmacabeeeaaDoor
open Go.RowKit

def set5 (w : World) (g : Nat) (a b c d e : Value) : World := ((((w.setCell ⟨g, 0, none⟩ a).setCell ⟨g, 1, none⟩ b).setCell ⟨g, 2, none⟩ c).setCell ⟨g, 3, none⟩ d).setCell ⟨g, 4, none⟩ e
theorem row_set5 {w : World} {g : Nat} {t : TypeId} {x0 x1 x2 x3 x4 : Value} (h : Row w g t [x0, x1, x2, x3, x4]) (a b c d e : Value) : Row (set5 w g a b c d e) g t [a, b, c, d, e] :=
  ((((h.set_ 0 a).set_ 1 b).set_ 2 c).set_ 3 d).set_ 4 e
theorem below_set5 {B : Nat} {w0 w : World} (h : Below B w0 w) {g : Nat} (hg : B ≤ g) (a b c d e : Value) : Below B w0 (set5 w g a b c d e) :=
  ((((h.setCell (p := ⟨g, 0, none⟩) hg a).setCell (p := ⟨g, 1, none⟩) hg b).setCell (p := ⟨g, 2, none⟩) hg c).setCell (p := ⟨g, 3, none⟩) hg d).setCell (p := ⟨g, 4, none⟩) hg e
theorem row_far5 {w : World} {g g' : Nat} {t : TypeId} {vs : List Value} (h : Row w g t vs) (hne : g ≠ g') (a b c d e : Value) : Row (set5 w g' a b c d e) g t vs :=
  ((((h.far (p := ⟨g', 0, none⟩) hne a).far (p := ⟨g', 1, none⟩) hne b).far (p := ⟨g', 2, none⟩) hne c).far (p := ⟨g', 3, none⟩) hne d).far (p := ⟨g', 4, none⟩) hne e
theorem infoSizeD : (Tryd.prog.info? 25).map (·.size) = some 5 := by kernel_rfl
theorem row_heap {w : World} {g : Nat} {t : TypeId} {vs : List Value} (h : Row w g t vs) : ∃ fr, w.heap[g]? = some (.cells vs.toArray t fr) := ⟨_, h⟩
/-- A result that lies in a block, and one that does not. -/
theorem results_dat2 {fn : Func} {p u : Tmp} (h : fn.results = #[.cell p 25, .tmp u]) (tmps : Array Value) (w : World) (g : Nat) (a b c d e : Value)
    (hp : tmps.getD p undef = .pointer (some ⟨g, 0, none⟩)) (hR : Row w g 25 [a, b, c, d, e]) : (results fn tmps).run Tryd.prog w = .ok (.tuple #[.agg #[a, b, c, d, e], tmps.getD u undef]) w := by
  obtain ⟨fr, hr⟩ := row_heap hR
  have hl := run_loadVar_row (P := Tryd.prog) w g 25 25 _ fr _ hr Tryd.underlying25 rfl infoSizeD
  rw [results_cell_tmp h, hp]
  simp only [asAddr, Sem.run_pure, Result.andThen_ok, hl]
theorem results_dat {fn : Func} {p : Tmp} (h : fn.results = #[.cell p 25]) (tmps : Array Value) (w : World) (g : Nat) (a b c d e : Value)
    (hp : tmps.getD p undef = .pointer (some ⟨g, 0, none⟩)) (hR : Row w g 25 [a, b, c, d, e]) : (results fn tmps).run Tryd.prog w = .ok (.agg #[a, b, c, d, e]) w := by
  obtain ⟨fr, hr⟩ := row_heap hR
  exact results_cell_row h tmps w g 25 _ fr _ hp hr Tryd.underlying25 rfl infoSizeD
end Go.Proofs.YtajpgmacabeeeaaDoor

/- step. -/
namespace Go.Proofs.YtajpgmacabeeeaaDoor
open Go.RowKit

def zeroD : Dt := mkD 0 0 ByteArray.empty [] []
theorem zero_parts (w : World) (B m : Nat) : Parts w B (m + 1) zeroD none 0 none 0 :=
  ⟨⟨Nat.le_refl _, Nat.zero_le _, Nat.le_refl _, Nat.zero_le _⟩, fun i x h => by simp [zeroD] at h, fun i x h => by simp [zeroD] at h⟩
def findM (lab : ByteArray) : List (ByteArray × Dt) → Option Dt
  | [] => none
  | x :: l => if x.1.toList == lab.toList then some x.2 else findM lab l
/-- The part to which a step leads. -/
def stepD (d : Dt) (lab : ByteArray) (ix : Int) : Option Dt :=
  if lab.toList = [] then (if 0 ≤ ix ∧ ix < (iD d).length then (iD d)[ix.toNat]? else none) else findM lab (mD d)
/-- What a function hands back that may find data. -/
def FoundPost (B : Nat) (w : World) (m : Nat) (o : Option Dt) (e : Ending) (w' : World) : Prop :=
  ∃ X a q a' q', e = .returned (.tuple #[datV X a q a' q', .bool o.isSome]) ∧ X = o.getD zeroD ∧ Parts w' B m X a q a' q' ∧ Below w.heap.size w w'

set_option maxRecDepth 20000 in
set_option maxHeartbeats 1000000 in
theorem step_run (m : Nat) (d : Dt) (A : Option Addr) (c : Nat) (A' : Option Addr) (c' : Nat) (lab : ByteArray) (ix : Int) (w : World) (B : Nat) (hBw : B ≤ w.heap.size) (hp : Parts w B (m + 1) d A c A' c') :
    Calls Tryd.prog 48 #[datV d A c A' c', .agg #[.string lab, .int .i64 ix]] w (FoundPost B w (m + 1) (stepD d lab ix)) := by
  obtain ⟨h1, h2, h3, h4⟩ := hp.lens
  have hm := maxLen_le h2; have hm' := maxLen_le h4
  have HBW := hide hBw
  have HI := Lib.hid hp.2.1; have HM := Lib.hid hp.2.2
  obtain ⟨res, hres⟩ : ∃ k, k = stepD d lab ix := ⟨_, rfl⟩
  rw [← hres]
  unfold stepD at hres
  unfold datV datCs
  obtain ⟨k, hk⟩ : ∃ k, k = kD d := ⟨_, rfl⟩
  obtain ⟨n, hn⟩ : ∃ k, k = nD d := ⟨_, rfl⟩
  obtain ⟨s, hs⟩ : ∃ k, k = sD d := ⟨_, rfl⟩
  obtain ⟨IS, hIS⟩ : ∃ k, k = iD d := ⟨_, rfl⟩
  obtain ⟨MS, hMS⟩ : ∃ k, k = mD d := ⟨_, rfl⟩
  rw [← hIS, ← hMS] at hres
  rw [← hk, ← hn, ← hs, ← hIS, ← hMS]
  rw [← hIS] at h1 HI
  rw [← hMS] at h3 HM
  obtain ⟨x, hx⟩ : ∃ k, k = IS.length := ⟨_, rfl⟩
  obtain ⟨y, hy⟩ : ∃ k, k = MS.length := ⟨_, rfl⟩
  rw [← hx, ← hy]
  rw [← hx] at h1 hres
  rw [← hy] at h3
  have HRES := Lib.hid hres; have HX := Lib.hid hx; have HY := Lib.hid hy
  clear hk hn hs hx hy hIS hMS h2 h4 hres hp hBw
  go_enter Tryd.func48, Tryd.ntmps48
  go_upto_region 1 with fail
  obtain ⟨w1, g, e1, e2, hB1, _, _, _, _, _, hR1⟩ := boxD w k n s (.slice A x c) (.slice A' y c')
  obtain ⟨w2, hw2⟩ : ∃ w2, w2 = w1.alloc (Obj.cells #[Value.string lab, Value.int IntKind.i64 ix] 48) := ⟨_, rfl⟩
  have hR2 : Row w2 w1.heap.size 48 [Value.string lab, Value.int IntKind.i64 ix] := by rw [hw2]; exact Row.new w1 _ _
  have hB2 := show Below w1.heap.size w1 w2 by rw [hw2]; exact (Below.refl _ _).alloc (Nat.le_refl _) _
  obtain ⟨w3, g3, e3, e4, hB3, _, _, _, _, _, hR3⟩ := boxD w2 0 0 ⟨#[]⟩ (.slice none 0 0) (.slice none 0 0)
  have e5 : w1.heap.size = g + 1 := by rw [← e1, ← e2]; simp
  have e6 : g + 1 + 1 = g3 := by rw [← e4, hw2, ← e1, ← e2]; simp
  rw [e1, ← hw2, e3, e2, e6]
  rw [e5] at hR2
  have HBL := hide (hB1.trans ((hB2.trans (hB3.mono hB2.size)).mono hB1.size))
  obtain ⟨s0, s1, s2, s3, s4⟩ := row5 ((hR1.below hB2).below hB3)
  have HR2 := hide (hR2.below hB3)
  have t0 := (hR2.below hB3).cell 0
  have t1 := (hR2.below hB3).cell 1
  have HR3 := hide hR3
  have hg3 : g3 = w2.heap.size := e4.symm
  have HG := hide (show w.heap.size ≤ g3 by rw [hg3]; exact Nat.le_trans hB1.size hB2.size)
  clear e1 e2 e3 e4 e5 e6 hB1 hB2 hB3 hR1 hR2 hR3 hw2 hg3
  rename_i z0 z1 z2 z3 z4 z5 z6 z7 z8 z9
  clear z0 z1 z2 z3 z4 z5 z6 z7 z8 z9
  obtain ⟨r0, r1, r2, r3, r4⟩ := row5 HR3.out
  have f0 := HR3.out.frozen 0
  have f1 := HR3.out.frozen 1
  have f2 := HR3.out.frozen 2
  have f3 := HR3.out.frozen 3
  have f4 := HR3.out.frozen 4
  by_cases hl : lab.toList = []
  · have gl : (lab.toList == []) = true := by simpa using hl
    by_cases hx : 0 ≤ ix ∧ ix < x
    · obtain ⟨i, rfl⟩ : ∃ i : Nat, ix = i := ⟨ix.toNat, by omega⟩
      have hix : i < x := by omega
      have hlt' : i < IS.length := by rw [← HX.out]; exact hix
      obtain ⟨ad, rfl, hb, a, q, a', q', hfive, hpts⟩ := HI.out i _ (List.getElem?_eq_getElem hlt')
      obtain ⟨X, hX⟩ : ∃ X, X = IS[i] := ⟨_, rfl⟩
      have HZ := hide (show res = some X by rw [HRES.out, if_pos hl, if_pos hx, Int.toNat_natCast, List.getElem?_eq_getElem hlt', hX])
      rw [← hX] at hfive hpts
      have hbb : (ad.add (i * 5)).block < w.heap.size := by rw [block_of_add]; exact Nat.lt_of_lt_of_le hb HBW.out
      obtain ⟨u0, u1, u2, u3, u4⟩ := hfive.same hbb (Same.of_below HBL.out)
      have gx : decide ((i : Int) ≥ 0) = true := by simp
      clear hfive hX hlt' hb hbb hl hx HRES
      go_wp2_with fail
      refine bodyPost_ret (results_dat2 rfl _ _ g3 _ _ _ _ _ rfl (row_set5 HR3.out _ _ _ _ _)) rfl ?_
      exact ⟨X, a, q, a', q', by rw [HZ.out]; rfl, by rw [HZ.out]; rfl, (hpts.turn ((Same.of_below (below_set5 HBL.out HG.out _ _ _ _ _)).mono HBW.out) (Nat.le_refl _)).up, below_set5 HBL.out HG.out _ _ _ _ _⟩
    · have HZ := hide (show res = none by rw [HRES.out, if_pos hl, if_neg hx])
      by_cases h0 : ix ≥ 0
      · have g0 : decide (ix ≥ 0) = true := by simpa using h0
        have g1 : decide (ix < (x : Int)) = false := by simp; omega
        clear hx h0 hl HRES
        go_wp2_with fail
        refine bodyPost_ret (results_dat2 rfl _ _ g3 _ _ _ _ _ rfl (row_set5 HR3.out _ _ _ _ _)) rfl ?_
        exact ⟨zeroD, none, 0, none, 0, by rw [HZ.out]; rfl, by rw [HZ.out]; rfl, zero_parts _ _ _, below_set5 HBL.out HG.out _ _ _ _ _⟩
      · have g0 : decide (ix ≥ 0) = false := by simpa using h0
        clear hx h0 hl HRES
        go_wp2_with fail
        refine bodyPost_ret (results_dat2 rfl _ _ g3 _ _ _ _ _ rfl (row_set5 HR3.out _ _ _ _ _)) rfl ?_
        exact ⟨zeroD, none, 0, none, 0, by rw [HZ.out]; rfl, by rw [HZ.out]; rfl, zero_parts _ _ _, below_set5 HBL.out HG.out _ _ _ _ _⟩
  · have gl : (lab.toList == []) = false := by simpa using hl
    have HZ := hide (show res = findM lab (MS.drop 0) by rw [HRES.out, if_neg hl]; rfl)
    clear hl HRES
    go_wp2_with fail
    clear s0 s1 s2 s3 s4 t0 t1 r0 r1 r2 r3 r4 f0 f1 f2 f3 f4
    go_loopw [7, 39] (fun _ iv wr => ∃ i : Nat, iv = .int .i64 i ∧ i ≤ y ∧ Hid (res = findM lab (MS.drop i)) ∧ Hid (Below w3.heap.size w3 wr)) (fun _ iv _ => y - (intOf iv).toNat)
    case atStart => exact ⟨0, rfl, Nat.zero_le _, HZ, hide (Below.refl _ _)⟩
    case round =>
      clear HZ
      obtain ⟨i, rfl, hi, hI, hB⟩ := hrel
      by_cases hlt : i < y
      · have hlt' : i < MS.length := by rw [← HY.out]; exact hlt
        obtain ⟨ad, rfl, hb, hlab, a, q, a', q', hfive, hpts⟩ := HM.out i _ (List.getElem?_eq_getElem hlt')
        have hq := hI.out
        rw [drop_at hlt', findM] at hq
        obtain ⟨X, hX⟩ : ∃ X, X = MS[i] := ⟨_, rfl⟩
        rw [← hX] at hfive hpts hlab hq
        have hbb : (ad.add (i * 6)).block < w.heap.size := by rw [block_of_add]; exact Nat.lt_of_lt_of_le hb HBW.out
        have hBB := HBL.out.trans (hB.out.mono HBL.out.size)
        obtain ⟨s0, s1, s2, s3, s4, s5⟩ := six_of ((hBB.cell (p := ad.add (i * 6)) hbb).trans hlab) (hfive.same (p := ⟨_, _, none⟩) hbb (Same.of_below hBB))
        have HQ := Lib.hid hq
        have HPT := hide hpts
        have HBB := hide hBB
        clear hfive hX hlt' hb hbb hI hq hpts hBB hlab
        go_upto_region 8 with fail
        obtain ⟨wa, g1, e1, e2, hBa, hRa⟩ := boxM wr X a q a' q'
        rw [e1, e2]
        have HBa := hide (hB.out.trans (hBa.mono hB.out.size)); have HBB2 := hide (HBB.out.trans (hBa.mono HBB.out.size))
        obtain ⟨b0, b1, b2, b3, b4, b5⟩ := row6 hRa
        have HRz := hide (HR3.out.below HBa.out)
        have t0 := (HR2.out.below HBa.out).cell 0
        obtain ⟨r0, r1, r2, r3, r4⟩ := row5 HRz.out
        have f0 := HRz.out.frozen 0
        have f1 := HRz.out.frozen 1
        have f2 := HRz.out.frozen 2
        have f3 := HRz.out.frozen 3
        have f4 := HRz.out.frozen 4
        clear e1 e2 hBa hRa s0 s1 s2 s3 s4 s5
        cases hl : (X.1.toList == lab.toList) with
        | true =>
          have HZ := hide (show res = some X.2 by rw [HQ.out, hl]; rfl)
          go_wp2_with fail
          refine bodyPost_ret (results_dat2 rfl _ _ g3 _ _ _ _ _ rfl (row_set5 HRz.out _ _ _ _ _)) rfl ?_
          exact ⟨X.2, a, q, a', q', by rw [HZ.out]; rfl, by rw [HZ.out]; rfl, (HPT.out.turn ((Same.of_below (below_set5 HBB2.out HG.out _ _ _ _ _)).mono HBW.out) (Nat.le_refl _)).up, below_set5 HBB2.out HG.out _ _ _ _ _⟩
        | false =>
          have HQ2 := hide (show res = findM lab (MS.drop (i + 1)) by rw [HQ.out, hl]; rfl)
          go_wp2_with fail
          go_roundw
          case rel => exact ⟨i + 1, by go_num, by omega, HQ2, HBa⟩
          case measure => simp [intOf]; omega
      · have HZ := hide (show res = none by rw [hI.out, List.drop_eq_nil_of_le (by rw [← HY.out]; omega)]; rfl)
        have HBB := hide (HBL.out.trans (hB.out.mono HBL.out.size))
        have HRz := hide (HR3.out.below hB.out)
        obtain ⟨r0, r1, r2, r3, r4⟩ := row5 HRz.out
        have f0 := HRz.out.frozen 0
        have f1 := HRz.out.frozen 1
        have f2 := HRz.out.frozen 2
        have f3 := HRz.out.frozen 3
        have f4 := HRz.out.frozen 4
        clear hI
        go_wp2_with fail
        refine bodyPost_ret (results_dat2 rfl _ _ g3 _ _ _ _ _ rfl (row_set5 HRz.out _ _ _ _ _)) rfl ?_
        exact ⟨zeroD, none, 0, none, 0, by rw [HZ.out]; rfl, by rw [HZ.out]; rfl, zero_parts _ _ _, below_set5 HBB.out HG.out _ _ _ _ _⟩
end Go.Proofs.YtajpgmacabeeeaaDoor
