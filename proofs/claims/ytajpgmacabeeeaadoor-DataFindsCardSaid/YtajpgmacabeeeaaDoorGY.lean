/- Labeled of the reference; Steps to leaves find leaves: plain; same data has the same errors; The law of the leaves' steps. -/
import Derived.Test.YtajpgmacabeeeaaDoorGB
import Derived.Test.YtajpgmacabeeeaaDoorGP
import Derived.Test.YtajpgmacabeeeaaDoorGJ
import Derived.Test.YtajpgmacabeeeaaDoorGL
import Derived.Test.YtajpgmacabeeeaaDoorGW
import Derived.Test.YtajpgmacabeeeaaDoorGU

/- Labeled of the reference. -/
namespace Go.Proofs.YtajpgmacabeeeaaDoor
open Go.RowKit

def labM (f : Dt → Bool) (x : ByteArray × Dt) : Bool := !(x.1.toList == []) && f x.2
def labF : Nat → Dt → Bool
  | 0, _ => true
  | m + 1, d => (iD d).all (labF m) && (mD d).all (labM (labF m))

set_option maxRecDepth 20000 in
set_option maxHeartbeats 1000000 in
theorem Labeled_run : ∀ (m : Nat) (d : Dt) (A : Option Addr) (c : Nat) (A' : Option Addr) (c' : Nat) (w : World), Parts w w.heap.size m d A c A' c' →
    Calls Tryd.prog 35 #[datV d A c A' c'] w fun e w' => e = .returned (.bool (labF m d)) ∧ Below w.heap.size w w' := by
  intro m
  induction m with
  | zero => intro d  A  c  A'  c'  w  hp; exact hp.elim
  | succ m ih =>
    intro d  A  c  A'  c'  w  hp
    obtain ⟨h1, h2, h3, h4⟩ := hp.lens
    have hm := maxLen_le h2; have hm' := maxLen_le h4
    have HI := Lib.hid hp.2.1; have HM := Lib.hid hp.2.2
    obtain ⟨res, hres⟩ : ∃ k, k = labF (m + 1) d := ⟨_, rfl⟩
    rw [← hres]
    unfold labF at hres
    unfold datV datCs
    obtain ⟨k, hk⟩ : ∃ k, k = kD d := ⟨_, rfl⟩
    obtain ⟨n, hn⟩ : ∃ k, k = nD d := ⟨_, rfl⟩
    obtain ⟨s, hs⟩ : ∃ k, k = sD d := ⟨_, rfl⟩
    obtain ⟨IS, hIS⟩ : ∃ k, k = iD d := ⟨_, rfl⟩
    obtain ⟨MS, hMS⟩ : ∃ k, k = mD d := ⟨_, rfl⟩
    rw [← hIS, ← hMS] at hres
    rw [← hk, ← hn, ← hs, ← hIS, ← hMS]
    rw [← hIS] at h1 HI
    rw [← hMS] at h3 HM
    obtain ⟨x, hx⟩ : ∃ k, k = IS.length := ⟨_, rfl⟩
    obtain ⟨y, hy⟩ : ∃ k, k = MS.length := ⟨_, rfl⟩
    rw [← hx, ← hy]
    rw [← hx] at h1
    rw [← hy] at h3
    have HRES := Lib.hid hres; have HX := Lib.hid hx; have HY := Lib.hid hy
    clear hk hn hs hx hy hIS hMS h2 h4 hres hp
    go_enter Tryd.func35, Tryd.ntmps35
    go_upto_region 1 with fail
    obtain ⟨w1, g, e1, e2, hBL, c0, c1, c2, c3, c4, hROW⟩ := boxD w k n s (.slice A x c) (.slice A' y c')
    rw [e1, e2]
    have HBL := hide hBL; have HROW := hide hROW
    clear e1 e2 hBL hROW
    have hz : res = (IS.all (labF m) && MS.all (labM (labF m))) := HRES.out
    have HZ := Lib.hid hz
    clear hz HRES
    go_wp2_with fail
    clear c0 c1 c2 c3 c4
    go_loopw [3] (fun iv wr => ∃ i : Nat, iv = .int .i64 i ∧ i ≤ x ∧ Hid (res = ((IS.drop i).all (labF m) && MS.all (labM (labF m)))) ∧ Hid (Below w1.heap.size w1 wr)) (fun iv _ => x - (intOf iv).toNat)
    case atStart => exact ⟨0, rfl, Nat.zero_le _, HZ, hide (Below.refl _ _)⟩
    case round =>
      clear HZ
      obtain ⟨i, rfl, hi, hI, hB⟩ := hrel
      obtain ⟨c0, c1, c2, c3, c4⟩ := row5 (HROW.out.below hB.out)
      by_cases hlt : i < x
      · have hlt' : i < IS.length := by rw [← HX.out]; exact hlt
        have hq := hI.out
        rw [drop_at hlt', List.all_cons] at hq
        obtain ⟨ad, rfl, hb, a, q, a', q', hfive, hpts⟩ := HI.out i _ (List.getElem?_eq_getElem hlt')
        obtain ⟨X, hX⟩ : ∃ X, X = IS[i] := ⟨_, rfl⟩
        rw [← hX] at hfive hpts hq
        have hbb : (ad.add (i * 5)).block < w.heap.size := by rw [block_of_add]; exact hb
        have hBB := HBL.out.trans (hB.out.mono HBL.out.size)
        obtain ⟨s0, s1, s2, s3, s4⟩ := hfive.same hbb (Same.of_below hBB)
        have HCK := hide (ih X a q a' q' wr (hpts.turn (Same.of_below hBB) hBB.size))
        have HQ := Lib.hid hq
        clear hfive hpts hX hlt' hb hbb hI hq hBB
        unfold datV datCs at HCK
        obtain ⟨z, hz⟩ : ∃ z, z = labF m X := ⟨_, rfl⟩
        rw [← hz] at HCK HQ
        clear hz
        go_wp2_with fail
        refine (unhide HCK).mono ?_; rintro e w4 ⟨rfl, hB4⟩
        have HB4 := hide (hB.out.trans (hB4.mono hB.out.size))
        clear hB4 HCK s0 s1 s2 s3 s4 c0 c1 c2 c3 c4
        cases z with
        | true =>
          have HQ2 := hide (show res = ((IS.drop (i + 1)).all (labF m) && MS.all (labM (labF m))) by rw [HQ.out, Bool.true_and])
          go_wp2_with fail
          go_roundw
          case rel => exact ⟨i + 1, by go_num, by omega, HQ2, HB4⟩
          case measure => simp [intOf]; omega
        | false =>
          have hzz : res = false := by rw [HQ.out]; rfl
          have HZ := Lib.hid hzz
          clear hzz
          go_wp2_with fail
          go_ret
          exact ⟨ret_bool HZ.out.symm, HBL.out.trans (HB4.out.mono HBL.out.size)⟩
      · have HZ := hide (show res = (MS.drop 0).all (labM (labF m)) by rw [hI.out, List.drop_eq_nil_of_le (by rw [← HX.out]; omega)]; rfl)
        have HB4 := hide (HBL.out.trans (hB.out.mono HBL.out.size))
        have HROW4 := hide (HROW.out.below hB.out)
        clear hI HROW HBL hB
        obtain ⟨w4, rfl⟩ : ∃ w4, w4 = wr := ⟨_, rfl⟩
        go_wp2_with fail
        clear c0 c1 c2 c3 c4
        go_loopw [4] (fun iv wr => ∃ i : Nat, iv = .int .i64 i ∧ i ≤ y ∧ Hid (res = (MS.drop i).all (labM (labF m))) ∧ Hid (Below w4.heap.size w4 wr)) (fun iv _ => y - (intOf iv).toNat)
        case atStart => exact ⟨0, rfl, Nat.zero_le _, HZ, hide (Below.refl _ _)⟩
        case round =>
          clear HZ
          obtain ⟨i, rfl, hi, hI, hB⟩ := hrel
          obtain ⟨c0, c1, c2, c3, c4⟩ := row5 (HROW4.out.below hB.out)
          by_cases hlt : i < y
          · have hlt' : i < MS.length := by rw [← HY.out]; exact hlt
            have hq := hI.out
            rw [drop_at hlt', List.all_cons, labM] at hq
            obtain ⟨ad, rfl, hb, hlab, a, q, a', q', hfive, hpts⟩ := HM.out i _ (List.getElem?_eq_getElem hlt')
            obtain ⟨X, hX⟩ : ∃ X, X = MS[i] := ⟨_, rfl⟩
            rw [← hX] at hfive hpts hq hlab
            have hbb : (ad.add (i * 6)).block < w.heap.size := by rw [block_of_add]; exact hb
            have hBB := HB4.out.trans (hB.out.mono HB4.out.size)
            obtain ⟨s0, s1, s2, s3, s4, s5⟩ := six_of ((hBB.cell (p := ad.add (i * 6)) hbb).trans hlab) (hfive.same (p := ⟨_, _, none⟩) hbb (Same.of_below hBB))
            have HCK := hide (ih X.2 a q a' q' wr (hpts.turn (Same.of_below hBB) hBB.size))
            have HQ := Lib.hid hq
            clear hfive hpts hX hlt' hb hbb hI hq hBB hlab
            unfold datV datCs at HCK
            obtain ⟨z, hz⟩ : ∃ z, z = labF m X.2 := ⟨_, rfl⟩
            rw [← hz] at HCK HQ
            clear hz
            by_cases hs : X.1.toList = []
            · have hzz : res = false := by rw [HQ.out, hs]; rfl
              have HZ := Lib.hid hzz
              have g3 : (X.1.toList == []) = true := by simpa using hs
              clear hzz hs
              go_wp2_with fail
              go_ret
              exact ⟨ret_bool HZ.out.symm, HB4.out.trans (hB.out.mono HB4.out.size)⟩
            · have hzz : res = (z && (MS.drop (i + 1)).all (labM (labF m))) := by rw [HQ.out, beq_eq_false_iff_ne.2 hs]; rfl
              have HZ := Lib.hid hzz
              have g3 : (X.1.toList == []) = false := by simpa using hs
              clear hzz hs HQ
              go_wp2_with fail
              refine (unhide HCK).mono ?_; rintro e w5 ⟨rfl, hB5⟩
              have HB5 := hide (hB.out.trans (hB5.mono hB.out.size))
              clear hB5 HCK s0 s1 s2 s3 s4 s5 c0 c1 c2 c3 c4
              cases z with
              | true =>
                have HQ2 := hide (show res = (MS.drop (i + 1)).all (labM (labF m)) by rw [HZ.out, Bool.true_and])
                go_wp2_with fail
                go_roundw
                case rel => exact ⟨i + 1, by go_num, by omega, HQ2, HB5⟩
                case measure => simp [intOf]; omega
              | false =>
                have hz2 : res = false := by rw [HZ.out]; rfl
                have HZ2 := Lib.hid hz2
                clear hz2
                go_wp2_with fail
                go_ret
                exact ⟨ret_bool HZ2.out.symm, HB4.out.trans (HB5.out.mono HB4.out.size)⟩
          · have hst : res = true := by rw [hI.out, List.drop_eq_nil_of_le (by rw [← HY.out]; omega)]; rfl
            have HST := Lib.hid hst
            clear hst hI
            go_wp2_with fail
            go_ret
            exact ⟨ret_bool HST.out.symm, HB4.out.trans (hB.out.mono HB4.out.size)⟩

end Go.Proofs.YtajpgmacabeeeaaDoor

/- Steps to leaves find leaves: plain; same data has the same errors. -/
namespace Go.Proofs.YtajpgmacabeeeaaDoor
open Go.RowKit

theorem lt_self (s : ByteArray) : ltB s s = false := by
  rcases Bool.eq_false_or_eq_true (ltB s s) with e | e
  · have h := bl_asymm _ _ e
    have h2 : ltB s s = false := h
    exact h2
  · exact e
theorem lt_ne {a b : ByteArray} (h : ltB a b = true) : (a.toList == b.toList) = false := by
  rw [beq_eq_false_iff_ne]
  intro e
  have h2 : ltB a b = ltB a a := by unfold ltB; rw [← e]
  rw [h2, lt_self] at h
  cases h
theorem findM_pair : ∀ {l : List (ByteArray × Dt)}, (l.Pairwise fun x y => ltB x.1 y.1 = true) → ∀ y ∈ l, findM y.1 l = some y.2
  | x :: l, h, y, hy => by
    obtain ⟨h1, h2⟩ := List.pairwise_cons.1 h
    unfold findM
    rcases List.mem_cons.1 hy with rfl | hy
    · simp
    · rw [lt_ne (h1 y hy)]
      exact findM_pair h2 y hy
theorem asc_pairs {l : List (ByteArray × Dt)} (h : ascB l = true) : l.Pairwise fun x y => ltB x.1 y.1 = true := by
  cases l with
  | nil => exact List.Pairwise.nil
  | cons x l =>
    have := asc_pair (l := l) (p := x.1) h
    exact List.pairwise_cons.2 ⟨this.1, this.2⟩
theorem lvI_mem {f : Dt → List Sp → List (List Sp)} {p q : List Sp} : ∀ {l : List Dt} {i : Nat}, q ∈ lvI f p i l → ∃ j x, l[j]? = some x ∧ q ∈ f x (p ++ [(⟨#[]⟩, ((i + j : Nat) : Int))])
  | x :: l, i, h => by
    rw [lvI] at h
    rcases List.mem_append.1 h with h | h
    · exact ⟨0, x, rfl, h⟩
    · obtain ⟨j, y, h1, h2⟩ := lvI_mem h
      refine ⟨j + 1, y, by simpa using h1, ?_⟩
      rw [show i + (j + 1) = i + 1 + j by omega]; exact h2
theorem lvM_mem {f : Dt → List Sp → List (List Sp)} {p q : List Sp} : ∀ {l : List (ByteArray × Dt)}, q ∈ lvM f p l → ∃ x ∈ l, q ∈ f x.2 (p ++ [(x.1, 0)])
  | x :: l, h => by
    rw [lvM] at h
    rcases List.mem_append.1 h with h | h
    · exact ⟨x, List.mem_cons_self .., h⟩
    · obtain ⟨y, h1, h2⟩ := lvM_mem h
      exact ⟨y, List.mem_cons_of_mem _ h1, h2⟩
theorem leaves_find {w : World} {B : Nat} : ∀ (m r : Nat) {d : Dt} {A c A' c'} (p q : List Sp), Parts w B m d A c A' c' → checkF r d = 0 → labF m d = true → q ∈ leavesF m d p → ∃ t x, q = p ++ t ∧ goD d t = some x ∧ iD x = [] ∧ mD x = []
  | 0, _, _, _, _, _, _, _, _, hp, _, _, _ => hp.elim
  | m + 1, r, d, A, c, A', c', p, q, hp, hc, hl, hq => by
    obtain ⟨r', rfl, ho, hk⟩ := check_zero' hc
    obtain ⟨_, hasc⟩ := own_zero ho
    unfold labF at hl
    rw [Bool.and_eq_true, List.all_eq_true, List.all_eq_true] at hl
    unfold leavesF at hq
    split at hq
    · rename_i h0
      have : q = p := by simpa using hq
      subst this
      exact ⟨[], d, by simp, rfl, List.eq_nil_of_length_eq_zero (by omega), List.eq_nil_of_length_eq_zero (by omega)⟩
    · rcases List.mem_append.1 hq with hq | hq
      · obtain ⟨j, x, h1, h2⟩ := lvI_mem hq
        rw [Nat.zero_add] at h2
        have hx : x ∈ iD d := List.mem_of_getElem? h1
        obtain ⟨a, u, a', u', hq'⟩ := parts_kid hp (is_kid hx)
        obtain ⟨t, y, e, h3, h4, h5⟩ := leaves_find m r' _ q hq' (hk x (is_kid hx)) (hl.1 x hx) h2
        refine ⟨(⟨#[]⟩, (j : Int)) :: t, y, by rw [e]; simp, ?_, h4, h5⟩
        have hs : stepD d ⟨#[]⟩ (j : Int) = some x := by
          have hj := (List.getElem?_eq_some_iff.1 h1).1
          unfold stepD
          rw [if_pos (by rw [ByteArray.toList_eq]), if_pos ⟨by omega, by omega⟩]
          simpa using h1
        rw [goD, hs]; exact h3
      · obtain ⟨x, hx, h2⟩ := lvM_mem hq
        obtain ⟨a, u, a', u', hq'⟩ := parts_kid hp (ms_kid hx)
        have hl2 := hl.2 x hx
        unfold labM at hl2
        rw [Bool.and_eq_true] at hl2
        obtain ⟨t, y, e, h3, h4, h5⟩ := leaves_find m r' _ q hq' (hk x.2 (ms_kid hx)) hl2.2 h2
        refine ⟨(x.1, 0) :: t, y, by rw [e]; simp, ?_, h4, h5⟩
        have hs : stepD d x.1 0 = some x.2 := by
          unfold stepD
          rw [if_neg (by simpa using hl2.1)]
          exact findM_pair (asc_pairs hasc) x hx
        rw [goD, hs]; exact h3
theorem leaves_pos {w : World} {B : Nat} : ∀ (m : Nat) {d : Dt} {A c A' c'} (p : List Sp), Parts w B m d A c A' c' → 1 ≤ (leavesF m d p).length
  | 0, _, _, _, _, _, _, hp => hp.elim
  | m + 1, d, A, c, A', c', p, hp => by
    unfold leavesF
    split
    · simp
    · rename_i h0
      rw [List.length_append]
      cases hi : iD d with
      | cons x l =>
        obtain ⟨a, u, a', u', hq'⟩ := parts_kid hp (is_kid (x := x) (by rw [hi]; exact List.mem_cons_self ..))
        have := leaves_pos m (p ++ [(⟨#[]⟩, ((0 : Nat) : Int))]) hq'
        rw [lvI, List.length_append]; omega
      | nil =>
        cases hm : mD d with
        | nil => rw [hi, hm] at h0; simp at h0
        | cons x l =>
          obtain ⟨a, u, a', u', hq'⟩ := parts_kid hp (ms_kid (x := x) (by rw [hm]; exact List.mem_cons_self ..))
          have := leaves_pos m (p ++ [(x.1, 0)]) hq'
          rw [lvM, List.length_append]; omega

theorem diff_no {k k' n n' : Int} {s s' : ByteArray} {x x' y y' : Nat} (h : diffQ k k' n n' s s' x x' y y' = false) : k = k' ∧ n = n' ∧ s.toList = s'.toList ∧ x = x' ∧ y = y' := by
  unfold diffQ at h
  simp at h
  obtain ⟨⟨⟨⟨h1, h2⟩, h3⟩, h4⟩, h5⟩ := h
  exact ⟨h1, h2, h3, by omega, by omega⟩
theorem zipM_labels {f : Dt → Dt → Bool} : ∀ {l k : List (ByteArray × Dt)}, zipM f l k = true → l.length = k.length → (∀ p q : ByteArray, p.toList = q.toList → ascL p l = ascL q k)
  | [], [], _, _, _, _, _ => rfl
  | x :: l, y :: k, h, hl, p, q, e => by
    unfold zipM at h
    simp only [Bool.and_eq_true, beq_iff_eq] at h
    unfold ascL ltB
    rw [e, h.1.1, zipM_labels h.2 (by simpa using hl) x.1 y.1 h.1.1]
theorem zipM_asc {f : Dt → Dt → Bool} {l k : List (ByteArray × Dt)} (h : zipM f l k = true) (hl : l.length = k.length) : ascB l = ascB k := by
  cases l with
  | nil => cases k with
    | nil => rfl
    | cons y k => simp at hl
  | cons x l => cases k with
    | nil => simp at hl
    | cons y k =>
      unfold zipM at h
      simp only [Bool.and_eq_true, beq_iff_eq] at h
      exact zipM_labels h.2 (by simpa using hl) x.1 y.1 h.1.1
theorem same_own {m : Nat} {a b : Dt} (h : sameF (m + 1) a b = true) : ownD a = ownD b ∧ (iD a).length = (iD b).length ∧ (mD a).length = (mD b).length := by
  unfold sameF at h
  simp only [Bool.and_eq_true, Bool.not_eq_true'] at h
  obtain ⟨hd, _, hm⟩ := h
  obtain ⟨e1, e2, e3, e4, e5⟩ := diff_no hd
  refine ⟨?_, e4, e5⟩
  unfold ownD plainB plainQ rangeB
  rw [e1, e2, e3, e4, e5, zipM_asc hm e5]
theorem firstE_zipD {f : Dt → Int} {g : Dt → Dt → Bool} : ∀ {l k : List Dt}, zipD g l k = true → l.length = k.length → (∀ x y, y ∈ k → g x y = true → f x = f y) → ∀ {l' k' : List Dt}, firstE f l' = firstE f k' → firstE f (l ++ l') = firstE f (k ++ k')
  | [], [], _, _, _, _, _, h => h
  | x :: l, y :: k, h, hl, hf, l', k', h' => by
    unfold zipD at h
    rw [Bool.and_eq_true] at h
    have ih := firstE_zipD (f := f) h.2 (by simpa using hl) (fun x y hy => hf x y (List.mem_cons_of_mem _ hy)) h'
    rw [List.cons_append, List.cons_append, firstE, firstE, ih, hf x y (List.mem_cons_self ..) h.1]
theorem firstE_zipM {f : Dt → Int} {g : Dt → Dt → Bool} : ∀ {l k : List (ByteArray × Dt)}, zipM g l k = true → l.length = k.length → (∀ x y, y ∈ k.map Prod.snd → g x y = true → f x = f y) → firstE f (l.map Prod.snd) = firstE f (k.map Prod.snd)
  | [], [], _, _, _ => rfl
  | x :: l, y :: k, h, hl, hf => by
    unfold zipM at h
    simp only [Bool.and_eq_true] at h
    have ih := firstE_zipM (f := f) h.2 (by simpa using hl) (fun x y hy => hf x y (List.mem_cons_of_mem _ hy))
    rw [List.map_cons, List.map_cons, firstE, firstE, ih, hf x.2 y.2 (List.mem_cons_self ..) h.1.2]
/-- Data that is the same has the same first error. -/
theorem same_check {w : World} {B : Nat} : ∀ (m r : Nat) {a b : Dt} {A c A' c'}, Parts w B m b A c A' c' → sameF m a b = true → checkF r a = checkF r b
  | 0, _, _, _, _, _, _, _, hp, _ => hp.elim
  | m + 1, 0, _, _, _, _, _, _, _, _ => rfl
  | m + 1, r + 1, a, b, A, c, A', c', hp, h => by
    obtain ⟨e, e4, e5⟩ := same_own h
    unfold checkF
    rw [e]
    unfold sameF at h
    simp only [Bool.and_eq_true, Bool.not_eq_true'] at h
    obtain ⟨_, hi, hm⟩ := h
    have hk : firstE (checkF r) (kids a) = firstE (checkF r) (kids b) := by
      unfold kids
      exact firstE_zipD hi e4 (fun x y hy hs => by
        obtain ⟨u, q, u', q', hq⟩ := parts_kid hp (is_kid hy)
        exact same_check m r hq hs) (firstE_zipM hm e5 fun x y hy hs => by
        obtain ⟨u, q, u', q', hq⟩ := parts_kid hp (List.mem_append.2 (.inr hy))
        exact same_check m r hq hs)
    rw [hk]
theorem leaf_check {x : Dt} {r : Nat} (hi : iD x = []) (hm : mD x = []) (h : checkF r x = 0) : checkD x = 0 := by
  obtain ⟨r', rfl, ho, _⟩ := check_zero' h
  show checkF (15 + 1) x = 0
  unfold checkF
  rw [if_pos ho]
  unfold kids
  rw [hi, hm]; rfl
/-- What a leaf's path finds. -/
theorem found_leaf {w : World} {B m : Nat} {d : Dt} {A c A' c'} (hp : Parts w B (m + 1) d A c A' c') (hc : checkD d = 0) (hl : labF (m + 1) d = true) {q : List Sp} (hq : q ∈ leavesF (m + 1) d []) :
    ∃ y, getF (m + 1) d q = some y ∧ iD y = [] ∧ mD y = [] ∧ checkD y = 0 := by
  obtain ⟨t, x, e, h1, h2, h3⟩ := leaves_find (m + 1) 16 [] q hp hc hl hq
  rw [List.nil_append] at e
  subst e
  obtain ⟨r', n', a, u, a', u', g1, g2, g3, g4⟩ := go_valid (m := m + 1) q 16 (m + 1) hp (Nat.le_refl _) (Nat.le_refl _) hc h1
  have g5 := g4.le g3
  obtain ⟨r0, e0, _⟩ := check_zero' g2
  have hs : sameF (m + 1) (cleanF (m + 1) 1 x) x = true := by
    rw [clean_level (m + 1) r' 1 (17 - r') g5 g2 (by omega) (by omega)]
    exact clean_same (m + 1) r' (17 - r') g5 g2 rfl
  obtain ⟨_, e4, e5⟩ := same_own hs
  refine ⟨cleanF (m + 1) 1 x, ?_, ?_, ?_, ?_⟩
  · unfold getF; rw [if_pos hc, h1]; rfl
  · exact List.eq_nil_of_length_eq_zero (by rw [e4, h2]; rfl)
  · exact List.eq_nil_of_length_eq_zero (by rw [e5, h3]; rfl)
  · unfold checkD
    rw [same_check (m + 1) 16 g5 hs]
    exact leaf_check h2 h3 g2
theorem leaf_height {m : Nat} {y : Dt} (h1 : iD y = []) (h2 : mD y = []) : heightF (m + 1) y = 1 := by
  unfold heightF kids
  rw [h1, h2]; rfl
end Go.Proofs.YtajpgmacabeeeaaDoor

/- The law of the leaves' steps. -/
namespace Go.Proofs.YtajpgmacabeeeaaDoor
open Go.RowKit

theorem leaf_read {W : World} {B m : Nat} {X : Dt} {a q a' q'} (h1 : iD X = []) (h2 : mD X = []) (h : Lens X q q') : Parts W B (m + 1) X a q a' q' := by
  refine ⟨h, ?_, ?_⟩
  · rw [h1]; intro i x hx; simp at hx
  · rw [h2]; intro i x hx; simp at hx

set_option maxRecDepth 20000 in
set_option maxHeartbeats 4000000 in
theorem Finds_run (m : Nat) (d : Dt) (A : Option Addr) (c : Nat) (A' : Option Addr) (c' : Nat) (w : World) (hp : Parts w w.heap.size m d A c A' c') (ht : Tab w) :
    Calls Tryd.prog 12 #[datV d A c A' c'] w (Fine w) := by
  obtain ⟨m, rfl⟩ : ∃ m', m = m' + 1 := by
    cases m with
    | zero => exact hp.elim
    | succ m => exact ⟨m, rfl⟩
  have HS := hide fun w' (hB : Below w.heap.size w w') => And.intro (Small_run (m + 1) d A c A' c' w' (hp.turn (Same.of_below hB) hB.size)) (Labeled_run (m + 1) d A c A' c' w' (hp.turn (Same.of_below hB) hB.size))
  have HA := hide fun w' (hB : Below w.heap.size w w') => awake_run w' (tab_below ht hB)
  have HK := hide fun (h : smallF (m + 1) d = true) w' (hB : Below w.heap.size w w') => Check_run (m + 1) d A c A' c' w' (hp.turn (Same.of_below hB) hB.size) (fit_of_parts (m + 1) 16 hp (by have := small_parts hp h; omega))
  have HV := hide fun (h : smallF (m + 1) d = true) (hz : checkD d = 0) w' (hB : Below w.heap.size w w') => show Calls Tryd.prog 31 #[datV d A c A' c'] w' fun e w'' => ∃ u, e = .returned u ∧ Below w'.heap.size w' w'' ∧ OutR w'' w'.heap.size u (leavesF (m + 1) d []) by
    have := Leaves_run (m + 1) d A c A' c' w' (hp.turn (Same.of_below hB) hB.size) (by have := small_parts hp h; omega)
    rwa [if_pos hz] at this
  have HG := hide fun (h : smallF (m + 1) d = true) (hz : checkD d = 0) (hl : labF (m + 1) d = true) (p : List Sp) (hq : p ∈ leavesF (m + 1) d []) (v : Value) w' (hB : Below w.heap.size w w') (hv : StepsR w' w'.heap.size v p) =>
    show Calls Tryd.prog 28 #[datV d A c A' c', v] w' fun e w'' => ∃ ky ny sy ya yq ya' yq', e = .returned (.tuple #[.agg #[.int .i64 ky, .int .i64 ny, .string sy, .slice ya 0 yq, .slice ya' 0 yq'], .bool true]) ∧ Below w'.heap.size w' w'' ∧
        ∀ W, Calls Tryd.prog 20 #[.agg #[.int .i64 ky, .int .i64 ny, .string sy, .slice ya 0 yq, .slice ya' 0 yq']] W fun e W' => e = .returned (.int .i64 1) ∧ Below W.heap.size W W' by
      refine (Get_run m d A c A' c' v p w' (hp.turn (Same.of_below hB) hB.size) (fun r => fitC_of_parts (m + 1) r hp (small_parts hp h)) hv).mono ?_
      obtain ⟨y, g1, g2, g3, g4⟩ := found_leaf hp hz hl hq
      rintro e w'' ⟨X, a, q, a', q', rfl, hX, hP, hB'⟩
      rw [g1] at hX ⊢
      have hX : X = y := hX
      subst hX
      refine ⟨kD X, nD X, sD X, a, q, a', q', by unfold datV datCs; rw [g2, g3]; rfl, hB', fun W => ?_⟩
      have h1 := Depth_run (m + 1) X a q a' q' W (leaf_read g2 g3 hP.lens) (by
        show 1 + sumL (partsF m) (kids X) ≤ _
        unfold kids; rw [g2, g3]; simp [sumL])
      rw [leaf_height g2 g3] at h1
      rw [show datV X a q a' q' = .agg #[.int .i64 (kD X), .int .i64 (nD X), .string (sD X), .slice a 0 q, .slice a' 0 q'] by unfold datV datCs; rw [g2, g3]; rfl, g4] at h1
      exact h1
  have HZ := hide fun (h : smallF (m + 1) d = true) w' (hB : Below w.heap.size w w') => Size_run (m + 1) d A c A' c' w' (hp.turn (Same.of_below hB) hB.size) (by have := small_parts hp h; omega)
  have HN1 := hide (leaves_pos (m + 1) [] hp)
  have HN2 := hide (leaves_length (m + 1) d [])
  have HN3 := hide (fun (h : smallF (m + 1) d = true) => small_parts hp h)
  obtain ⟨LS, hLS⟩ : ∃ z, z = leavesF (m + 1) d [] := ⟨_, rfl⟩
  obtain ⟨P, hP⟩ : ∃ z, z = partsF (m + 1) d := ⟨_, rfl⟩
  obtain ⟨z, hz⟩ : ∃ z, z = checkD d := ⟨_, rfl⟩
  obtain ⟨b, hb⟩ : ∃ b, b = smallF (m + 1) d := ⟨_, rfl⟩
  obtain ⟨l, hl⟩ : ∃ b, b = labF (m + 1) d := ⟨_, rfl⟩
  rw [← hb, ← hl] at HS
  rw [← hb, ← hz] at HK
  rw [← hb, ← hz, ← hLS] at HV
  rw [← hb, ← hz, ← hl, ← hLS] at HG
  rw [← hb, ← hz, ← hP] at HZ
  rw [← hLS] at HN1
  rw [← hLS, ← hP] at HN2
  rw [← hb, ← hP] at HN3
  unfold datV datCs at HS HK HV HG HZ
  unfold datV datCs
  obtain ⟨k, hk⟩ : ∃ k, k = kD d := ⟨_, rfl⟩
  obtain ⟨n, hn⟩ : ∃ k, k = nD d := ⟨_, rfl⟩
  obtain ⟨s, hs⟩ : ∃ k, k = sD d := ⟨_, rfl⟩
  obtain ⟨x, hx⟩ : ∃ k, k = (iD d).length := ⟨_, rfl⟩
  obtain ⟨y, hy⟩ : ∃ k, k = (mD d).length := ⟨_, rfl⟩
  rw [← hk, ← hn, ← hs, ← hx, ← hy] at HS HK HV HG HZ ⊢
  clear hp hz hb hl hLS hP hk hn hs hx hy ht
  go_enter Tryd.func12, Tryd.ntmps12
  go_upto_region 1 with fail
  obtain ⟨w1, g, e1, e2, hBL, c0, c1, c2, c3, c4, hROW⟩ := boxD w k n s (.slice A x c) (.slice A' y c')
  rw [e1, e2]
  have HB1 := hide hBL
  have HRR := hide fun W (h : Below w1.heap.size w1 W) => row5 (hROW.below h)
  have HBW := hide fun W (h : Below w1.heap.size w1 W) => HB1.out.trans (h.mono HB1.out.size)
  have HX0 := hide (Below.refl w1.heap.size w1)
  clear e1 e2 hBL hROW
  go_wp2_with fail
  refine (HS.out _ (HBW.out _ HX0.out)).1.mono ?_; rintro e wz ⟨rfl, hBz⟩
  have HX1 := hide (HX0.out.trans (hBz.mono HX0.out.size))
  clear hBz c0 c1 c2 c3 c4
  obtain ⟨c0, c1, c2, c3, c4⟩ := HRR.out _ HX1.out
  cases b with
  | false =>
    go_wp2_with fail
    refine (HA.out _ (HBW.out _ HX1.out)).mono ?_; rintro e wy ⟨rfl, hBz⟩
    have HBZ := hide (HBW.out _ (HX1.out.trans (hBz.mono HX1.out.size)))
    clear hBz
    go_wp2_with fail
    go_ret
    exact ⟨rfl, HBZ.out⟩
  | true =>
    go_wp2_with fail
    refine (HS.out _ (HBW.out _ HX1.out)).2.mono ?_; rintro e wz ⟨rfl, hBz⟩
    have HX2 := hide (HX1.out.trans (hBz.mono HX1.out.size))
    clear hBz c0 c1 c2 c3 c4
    obtain ⟨c0, c1, c2, c3, c4⟩ := HRR.out _ HX2.out
    cases l with
    | false =>
      go_wp2_with fail
      refine (HA.out _ (HBW.out _ HX2.out)).mono ?_; rintro e wy ⟨rfl, hBz⟩
      have HBZ := hide (HBW.out _ (HX2.out.trans (hBz.mono HX2.out.size)))
      clear hBz
      go_wp2_with fail
      go_ret
      exact ⟨rfl, HBZ.out⟩
    | true =>
      have HK1 := hide (HK.out (by trivial))
      go_wp2_with fail
      refine (HK1.out _ (HBW.out _ HX2.out)).mono ?_; rintro e wz ⟨rfl, hBz⟩
      have HX3 := hide (HX2.out.trans (hBz.mono HX2.out.size))
      clear hBz c0 c1 c2 c3 c4 HK HK1 HS
      obtain ⟨c0, c1, c2, c3, c4⟩ := HRR.out _ HX3.out
      by_cases hz : z = 0
      · subst hz
        have HV1 := hide (HV.out (by trivial) rfl)
        have HG1 := hide (HG.out (by trivial) rfl (by trivial))
        have HZ1 := hide (HZ.out (by trivial))
        have hP40 := HN3.out (by trivial)
        have hN1 := HN1.out; have hN2 := HN2.out
        clear HV HG HZ HN1 HN2 HN3
        go_wp2_with fail
        refine (HV1.out _ (HBW.out _ HX3.out)).mono ?_; rintro e w3 ⟨u, rfl, hBz, hO⟩
        obtain ⟨D, cs, rfl, hc1, hc2, hD, hget⟩ := out_get hO hN1
        have HX4 := hide (HX3.out.trans (hBz.mono HX3.out.size))
        have HGT := hide hget
        obtain ⟨N, hN⟩ : ∃ n, n = LS.length := ⟨_, rfl⟩
        rw [← hN] at hN1 hN2 hc1 ⊢
        have HNL := Lib.hid hN
        have hm := maxLen_le hc2
        have hN40 : N ≤ 40 := by omega
        clear hBz c0 c1 c2 c3 c4 hO hget hN HV1 hc2
        go_wp2_with fail
        go_loopw [4, 5] (fun nv iv wr => ∃ i : Nat, nv = .int .i64 i ∧ iv = .int .i64 i ∧ i ≤ N ∧ Hid (Below w3.heap.size w3 wr)) (fun _ iv _ => N - (intOf iv).toNat)
        case atStart => exact ⟨0, rfl, rfl, Nat.zero_le _, hide (Below.refl _ _)⟩
        case round =>
          obtain ⟨i, rfl, rfl, hi, hB⟩ := hrel
          have HXR := hide (HX4.out.trans (hB.out.mono HX4.out.size))
          obtain ⟨c0, c1, c2, c3, c4⟩ := HRR.out _ HXR.out
          by_cases hlt : i < N
          · have hlt' : i < LS.length := by rw [← HNL.out]; exact hlt
            obtain ⟨v, hv, hPv⟩ := HGT.out i _ (List.getElem?_eq_getElem hlt')
            have HST := hide fun W (h : Below wr.heap.size wr W) => steps_of_path (hPv.below (hB.out.trans (h.mono hB.out.size)))
            have HCV := hide fun W (h : Below wr.heap.size wr W) => (hB.out.trans (h.mono hB.out.size)).cell (p := ⟨D, i, none⟩) hD |>.trans hv
            have HGC := hide fun W (h : Below wr.heap.size wr W) => HG1.out _ (List.getElem_mem hlt') v W (HBW.out _ (HXR.out.trans (h.mono HXR.out.size))) (HST.out _ h)
            have HRC := hide fun W (h : Below wr.heap.size wr W) => And.intro (HRR.out _ (HXR.out.trans (h.mono HXR.out.size))) (HCV.out _ h)
            have d5 := (HRC.out _ (Below.refl _ _)).2
            obtain ⟨vA, vn, vc, rfl⟩ : ∃ A n c, v = .slice A n c := by
              obtain ⟨A, c, e, _⟩ := HST.out _ (Below.refl _ _)
              exact ⟨A, _, c, e⟩
            clear hv hPv HST HCV hlt'
            go_upto_region 8 with fail
            refine region_two 11 (fun W => (W.cell? ⟨g, 0, none⟩ = some (.int .i64 k) ∧ W.cell? ⟨g, 1, none⟩ = some (.int .i64 n) ∧ W.cell? ⟨g, 2, none⟩ = some (.string s) ∧ W.cell? ⟨g, 3, none⟩ = some (.slice A x c) ∧ W.cell? ⟨g, 4, none⟩ = some (.slice A' y c')) ∧ W.cell? ⟨D, i, none⟩ = some (.slice vA vn vc)) (by kernel_rfl) (by kernel_rfl) (HRC.out _ (Below.refl _ _).drew) (fun hH => ?_)
            simp only [List.take_succ_cons, List.take_zero]
            obtain ⟨wd, hwd⟩ : ∃ W, W = wr.drew := ⟨_, rfl⟩
            have hBD : Below wr.heap.size wr wd := by rw [hwd]; exact (Below.refl _ _).drew
            rw [← hwd] at hH ⊢
            clear hwd
            refine takeH (i := 0) (v := ?_) rfl (by kernel_rfl) (by kernel_rfl) (by kernel_rfl) (fun _ _ _ h => h) (Or.inl ⟨by rfl, ?_⟩) hH ?_
            rotate_left
            · (intro w hSw; (try dsimp only at hSw); go_simp; try with_reducible rfl)
            simp only [Act.put, List.setIfInBounds_toArray, List.set_cons_zero, List.set_cons_succ]
            refine takeH (i := 1) (v := ?_) rfl (by kernel_rfl) (by kernel_rfl) (by kernel_rfl) (fun _ _ _ h => h) (Or.inl ⟨by rfl, ?_⟩) hH ?_
            rotate_left
            · (intro w hSw; (try dsimp only at hSw); go_simp; try with_reducible rfl)
            simp only [Act.put, List.setIfInBounds_toArray, List.set_cons_zero, List.set_cons_succ]
            refine takeH (i := 2) (v := ?_) rfl (by kernel_rfl) (by kernel_rfl) (by kernel_rfl) (fun _ _ _ h => h) (Or.inl ⟨by rfl, ?_⟩) hH ?_
            rotate_left
            · (intro w hSw; (try dsimp only at hSw); go_simp; try with_reducible rfl)
            simp only [Act.put, List.setIfInBounds_toArray, List.set_cons_zero, List.set_cons_succ]
            refine takeH (i := 3) (v := ?_) rfl (by kernel_rfl) (by kernel_rfl) (by kernel_rfl) (fun _ _ _ h => h) (Or.inl ⟨by rfl, ?_⟩) hH ?_
            rotate_left
            · (intro w hSw; (try dsimp only at hSw); go_simp; try with_reducible rfl)
            simp only [Act.put, List.setIfInBounds_toArray, List.set_cons_zero, List.set_cons_succ]
            refine takeH (i := 4) (v := ?_) rfl (by kernel_rfl) (by kernel_rfl) (by kernel_rfl) (fun _ _ _ h => h) (Or.inl ⟨by rfl, ?_⟩) hH ?_
            rotate_left
            · (intro w hSw; (try dsimp only at hSw); go_simp; try with_reducible rfl)
            simp only [Act.put, List.setIfInBounds_toArray, List.set_cons_zero, List.set_cons_succ]
            have hs0 := hBD.size
            have hzf : ∀ (W : World) (b : Nat), Row W b 25 [.int .i64 0, .int .i64 0, .string ⟨#[]⟩, .slice none 0 0, .slice none 0 0] → W.frozen? ⟨b, 0, none⟩ = false ∧ W.frozen? ⟨b, 1, none⟩ = false ∧ W.frozen? ⟨b, 2, none⟩ = false ∧ W.frozen? ⟨b, 3, none⟩ = false ∧ W.frozen? ⟨b, 4, none⟩ = false :=
              fun W b h => ⟨h.frozen 0, h.frozen 1, h.frozen 2, h.frozen 3, h.frozen 4⟩
            have HZF := hide hzf
            clear hzf
            refine twoH (i := 5) (j := 9) rfl rfl (by kernel_rfl) (fun K hK => ?_) (fun K hK => ?_)
            -- the call, then the box
            go_simp
            go_at_call 28
            refine (HGC.out _ hBD).mono ?_; rintro e wx ⟨ky, ny, sy, ya, yq, ya', yq', rfl, hBx, hDP⟩
            have HDP := hide hDP
            have hB5 := hBD.trans (hBx.mono hBD.size)
            refine hK.out _ _ (HRC.out _ hB5) (fun hH => ?_)
            clear hK K hDP
            refine takeH (i := 6) (v := ?_) rfl (by kernel_rfl) (by kernel_rfl) (by kernel_rfl) (fun _ _ _ h => h) (Or.inl ⟨by rfl, ?_⟩) hH ?_
            rotate_left
            · (intro w hSw; (try dsimp only at hSw); go_simp; try with_reducible rfl)
            simp only [Act.put, List.setIfInBounds_toArray, List.set_cons_zero, List.set_cons_succ]
            refine takeH (i := 7) (v := ?_) rfl (by kernel_rfl) (by kernel_rfl) (by kernel_rfl) (fun _ _ _ h => h) (Or.inl ⟨by rfl, ?_⟩) hH ?_
            rotate_left
            · (intro w hSw; (try dsimp only at hSw); go_simp; try with_reducible rfl)
            simp only [Act.put, List.setIfInBounds_toArray, List.set_cons_zero, List.set_cons_succ]
            refine takeH (i := 8) (v := ?_) rfl (by kernel_rfl) (by kernel_rfl) (by kernel_rfl) (fun _ _ _ h => h) (Or.inl ⟨by rfl, ?_⟩) hH ?_
            rotate_left
            · (intro w hSw; (try dsimp only at hSw); go_simp; try with_reducible rfl)
            simp only [Act.put, List.setIfInBounds_toArray, List.set_cons_zero, List.set_cons_succ]
            refine oneH (i := 9) rfl (by kernel_rfl) (fun K hK => ?_)
            go_simp
            refine hK.out _ _ (HRC.out _ (below_al hB5 _)) (fun hH => ?_)
            clear hK K
            obtain ⟨wa, b, e1, e2, hBa, z0, z1, z2, z3, z4, hRa⟩ := boxD wx 0 0 ⟨#[]⟩ (.slice none 0 0) (.slice none 0 0)
            rw [e1] at hH ⊢
            rw [e2]
            have hB6 := hB5.trans (hBa.mono hB5.size)
            have hbw : wr.heap.size ≤ b := by have := hB5.size; omega
            obtain ⟨f0, f1, f2, f3, f4⟩ := HZF.out _ _ hRa
            clear e1 e2 hBa hBx hB5
            refine oneH (i := 10) rfl (by kernel_rfl) (fun K hK => ?_)
            go_simp
            have hBf := below_set5 hB6 hbw (.int .i64 ky) (.int .i64 ny) (.string sy) (.slice ya 0 yq) (.slice ya' 0 yq')
            have hRf := row_set5 hRa (.int .i64 ky) (.int .i64 ny) (.string sy) (.slice ya 0 yq) (.slice ya' 0 yq')
            refine hK.out _ _ (HRC.out _ hBf) (fun hH => ?_)
            clear hK K
            obtain ⟨wf, hwf⟩ : ∃ W, W = set5 wa b (.int .i64 ky) (.int .i64 ny) (.string sy) (.slice ya 0 yq) (.slice ya' 0 yq') := ⟨_, rfl⟩
            rw [← hwf] at hBf hRf
            unfold set5 at hwf
            rw [← hwf]
            clear hwf z0 z1 z2 z3 z4 f0 f1 f2 f3 f4 hRa hB6 hbw hH
            rotate_left
            -- the box, then the call
            go_simp
            refine hK.out _ _ (HRC.out _ (below_al hBD _)) (fun hH => ?_)
            clear hK K
            obtain ⟨wa, b, e1, e2, hBa, z0, z1, z2, z3, z4, hRa⟩ := boxD wd 0 0 ⟨#[]⟩ (.slice none 0 0) (.slice none 0 0)
            rw [e1] at hH ⊢
            rw [e2]
            have hB5 := hBD.trans (hBa.mono hBD.size)
            have hbw : wr.heap.size ≤ b := by omega
            have HRA := hide hRa
            clear e1 e2 hBa z0 z1 z2 z3 z4 hRa
            refine oneH (i := 5) rfl (by kernel_rfl) (fun K hK => ?_)
            go_simp
            go_at_call 28
            refine (HGC.out _ hB5).mono ?_; rintro e wx ⟨ky, ny, sy, ya, yq, ya', yq', rfl, hBx, hDP⟩
            have HDP := hide hDP
            have hB6 := hB5.trans (hBx.mono hB5.size)
            refine hK.out _ _ (HRC.out _ hB6) (fun hH => ?_)
            clear hK K hDP
            have hRa := HRA.out.below hBx
            clear hBx hB5 HRA
            refine takeH (i := 6) (v := ?_) rfl (by kernel_rfl) (by kernel_rfl) (by kernel_rfl) (fun _ _ _ h => h) (Or.inl ⟨by rfl, ?_⟩) hH ?_
            rotate_left
            · (intro w hSw; (try dsimp only at hSw); go_simp; try with_reducible rfl)
            simp only [Act.put, List.setIfInBounds_toArray, List.set_cons_zero, List.set_cons_succ]
            refine takeH (i := 7) (v := ?_) rfl (by kernel_rfl) (by kernel_rfl) (by kernel_rfl) (fun _ _ _ h => h) (Or.inl ⟨by rfl, ?_⟩) hH ?_
            rotate_left
            · (intro w hSw; (try dsimp only at hSw); go_simp; try with_reducible rfl)
            simp only [Act.put, List.setIfInBounds_toArray, List.set_cons_zero, List.set_cons_succ]
            refine takeH (i := 8) (v := ?_) rfl (by kernel_rfl) (by kernel_rfl) (by kernel_rfl) (fun _ _ _ h => h) (Or.inl ⟨by rfl, ?_⟩) hH ?_
            rotate_left
            · (intro w hSw; (try dsimp only at hSw); go_simp; try with_reducible rfl)
            simp only [Act.put, List.setIfInBounds_toArray, List.set_cons_zero, List.set_cons_succ]
            obtain ⟨z0, z1, z2, z3, z4⟩ := row5 hRa
            obtain ⟨f0, f1, f2, f3, f4⟩ := HZF.out _ _ hRa
            refine oneH (i := 10) rfl (by kernel_rfl) (fun K hK => ?_)
            go_simp
            have hBf := below_set5 hB6 hbw (.int .i64 ky) (.int .i64 ny) (.string sy) (.slice ya 0 yq) (.slice ya' 0 yq')
            have hRf := row_set5 hRa (.int .i64 ky) (.int .i64 ny) (.string sy) (.slice ya 0 yq) (.slice ya' 0 yq')
            refine hK.out _ _ (HRC.out _ hBf) (fun hH => ?_)
            clear hK K
            obtain ⟨wf, hwf⟩ : ∃ W, W = set5 wx b (.int .i64 ky) (.int .i64 ny) (.string sy) (.slice ya 0 yq) (.slice ya' 0 yq') := ⟨_, rfl⟩
            rw [← hwf] at hBf hRf
            unfold set5 at hwf
            rw [← hwf]
            clear hwf z0 z1 z2 z3 z4 f0 f1 f2 f3 f4 hRa hB6 hbw hH
            all_goals
              refine wpAnyH_done (by kernel_rfl) ?_ _
              unfold TailPost
              simp only [List.drop_succ_cons, List.drop_zero]
              have HBF := hide hBf
              obtain ⟨d0, d1, d2, d3, d4⟩ := row5 hRf
              clear hBf hRf HZF hBD hs0 d5 HRC HGC
              go_wp2_with fail
              refine (HDP.out _).mono ?_; rintro e wz ⟨rfl, hBz⟩
              have HBZ := hide (hB.out.trans ((HBF.out.trans (hBz.mono HBF.out.size)).mono hB.out.size))
              clear hBz d0 d1 d2 d3 d4 HDP HBF
              go_wp2_with fail
              go_roundw
              case rel => exact ⟨i + 1, by go_num, by go_num, by omega, HBZ⟩
              case measure => simp [intOf]; omega
          · obtain rfl : i = N := by omega
            have hN2 := hN1
            have hPi : (i : Int) ≤ P := by omega
            go_wp2_with fail
            refine (HZ1.out _ (HBW.out _ HXR.out)).mono ?_; rintro e wz ⟨rfl, hBz⟩
            have HBZ := hide (HBW.out _ (HXR.out.trans (hBz.mono HXR.out.size)))
            clear hBz
            go_wp2_with fail
            refine (HA.out _ HBZ.out).mono ?_; rintro e wy ⟨rfl, hBy⟩
            have HBY := hide (HBZ.out.trans (hBy.mono HBZ.out.size))
            clear hBy
            go_wp2_with fail
            go_ret
            exact ⟨rfl, HBY.out⟩
      · have g1 : (z != 0) = true := by simpa using hz
        go_wp2_with fail
        refine (HA.out _ (HBW.out _ HX3.out)).mono ?_; rintro e wy ⟨rfl, hBz⟩
        have HBZ := hide (HBW.out _ (HX3.out.trans (hBz.mono HX3.out.size)))
        clear hBz
        go_wp2_with fail
        go_ret
        exact ⟨rfl, HBZ.out⟩
end Go.Proofs.YtajpgmacabeeeaaDoor
