/- depth, Depth and Size of the reference; Same; The chapter's sample and example; Depth and sizes, plain; The law of depth; The law of sizes. -/
import Derived.Test.YtmmbbndoimleaaaDoorGAB
import Derived.Test.YtmmbbndoimleaaaDoorGAI
import Derived.Test.YtmmbbndoimleaaaDoorGAG

/- depth, Depth and Size of the reference. -/
namespace Go.Proofs.YtmmbbndoimleaaaDoor
open Go.RowKit

/-- size counts all parts where these are few enough. -/
theorem loopS_sum (f : Dt → Int → Int) (g : Dt → Int) (most : Int) : ∀ (l : List Dt) (n : Int), (∀ x ∈ l, 0 ≤ g x ∧ ∀ b, 0 ≤ b → (f x b ≤ b → f x b = g x) ∧ (g x ≤ b → f x b = g x) ∧ (b < f x b ∨ f x b = g x)) → loopS f most l n ≤ most → loopS f most l n = n + sumL g l
  | [], n, _, _ => by simp [loopS, sumL]
  | x :: l, n, h, hle => by
    unfold loopS at hle ⊢
    obtain ⟨h0, hx⟩ := h x (List.mem_cons_self ..)
    split at hle
    · rename_i hn
      rw [if_pos hn]
      rcases (hx (most - n) (by omega)).2.2 with h1 | h1
      · exfalso
        have : ¬ n + f x (most - n) ≤ most := by omega
        cases l with
        | nil => simp [loopS] at hle; omega
        | cons y l => rw [loopS, if_neg this] at hle; exact this hle
      · have := loopS_sum f g most l (n + f x (most - n)) (fun y hy => h y (List.mem_cons_of_mem _ hy)) hle
        rw [this, h1, sumL]; omega
    · rename_i hn; exact absurd hle hn
theorem loopS_all (f : Dt → Int → Int) (g : Dt → Int) (most : Int) : ∀ (l : List Dt) (n : Int), (∀ x ∈ l, 1 ≤ g x ∧ ∀ b, 0 ≤ b → g x ≤ b + 1 → f x b = g x) → n + sumL g l ≤ most + 1 → loopS f most l n = n + sumL g l
  | [], n, _, _ => by simp [loopS, sumL]
  | x :: l, n, h, hle => by
    obtain ⟨h0, hx⟩ := h x (List.mem_cons_self ..)
    have hs : 0 ≤ sumL g l := by
      have := length_le_sumL (f := g) l fun y hy => (h y (List.mem_cons_of_mem _ hy)).1
      omega
    unfold sumL at hle ⊢
    unfold loopS
    rw [if_pos (by omega), hx (most - n) (by omega) (by omega), loopS_all f g most l _ (fun y hy => h y (List.mem_cons_of_mem _ hy)) (by omega)]
    omega
theorem sizeF_all {w : World} {B : Nat} : ∀ (m : Nat) {d : Dt} {A c A' c'} (b : Int), Parts w B m d A c A' c' → 0 ≤ b → partsF m d ≤ b + 1 → sizeF m d b = partsF m d
  | 0, _, _, _, _, _, _, h, _, _ => h.elim
  | m + 1, d, _, _, _, _, b, h, hb, hle => by
    unfold partsF at hle ⊢
    unfold sizeF
    exact loopS_all (sizeF m) (partsF m) b (kids d) 1 (fun x hx => by
      obtain ⟨a, q, a', q', hp⟩ := parts_kid h hx
      exact ⟨partsF_pos hp, fun b hb hle => sizeF_all m b hp hb hle⟩) hle
theorem parts_of_size {w : World} {B : Nat} : ∀ (m : Nat) {d : Dt} {A c A' c'} (b : Int), Parts w B m d A c A' c' → 0 ≤ b → (b < sizeF m d b ∨ sizeF m d b = partsF m d)
  | 0, _, _, _, _, _, _, h, _ => h.elim
  | m + 1, d, _, _, _, _, b, h, hb => by
    by_cases h1 : b < sizeF (m + 1) d b
    · exact .inl h1
    · right
      have h1 : sizeF (m + 1) d b ≤ b := by omega
      have := loopS_sum (sizeF m) (partsF m) b (kids d) 1 (fun x hx => by
        obtain ⟨a, q, a', q', hp⟩ := parts_kid h hx
        refine ⟨partsF_nonneg m x, fun b' hb' => ⟨fun hle => ?_, fun hle => sizeF_all m b' hp hb' (by omega), parts_of_size m b' hp hb'⟩⟩
        rcases parts_of_size m b' hp hb' with h2 | h2
        · omega
        · exact h2) h1
      exact this
theorem small_parts {w : World} {B m : Nat} {d : Dt} {A c A' c'} (h : Parts w B m d A c A' c') (hs : smallF m d = true) : partsF m d ≤ 40 := by
  have h1 : sizeF m d 40 ≤ 40 := by
    unfold smallF at hs
    have := (Bool.and_eq_true _ _ ▸ hs).1
    simpa using this
  rcases parts_of_size m 40 h (by omega) with h2 | h2 <;> omega
end Go.Proofs.YtmmbbndoimleaaaDoor

/- Same. -/
namespace Go.Proofs.YtmmbbndoimleaaaDoor
open Go.RowKit

def zipD (f : Dt → Dt → Bool) : List Dt → List Dt → Bool
  | x :: l, y :: k => f x y && zipD f l k
  | _, _ => true
def zipM (f : Dt → Dt → Bool) : List (ByteArray × Dt) → List (ByteArray × Dt) → Bool
  | x :: l, y :: k => (x.1.toList == y.1.toList) && f x.2 y.2 && zipM f l k
  | _, _ => true
def diffQ (k k' n n' : Int) (s s' : ByteArray) (x x' y y' : Nat) : Bool :=
  (k != k') || (n != n') || !(s.toList == s'.toList) || ((x : Int) != x') || ((y : Int) != y')
def sameF : Nat → Dt → Dt → Bool
  | 0, _, _ => true
  | m + 1, a, b => !diffQ (kD a) (kD b) (nD a) (nD b) (sD a) (sD b) (iD a).length (iD b).length (mD a).length (mD b).length && (zipD (sameF m) (iD a) (iD b) && zipM (sameF m) (mD a) (mD b))

set_option maxRecDepth 20000 in
set_option maxHeartbeats 4000000 in
theorem same_run : ∀ (m : Nat) (d : Dt) (A : Option Addr) (c : Nat) (A' : Option Addr) (c' : Nat) (e : Dt) (E : Option Addr) (f : Nat) (E' : Option Addr) (f' : Nat) (w : World), Parts w w.heap.size m d A c A' c' → Parts w w.heap.size m e E f E' f' →
    Calls Tryd.prog 9 #[datV d A c A' c', datV e E f E' f'] w fun r w' => r = .returned (.bool (sameF m d e)) ∧ Below w.heap.size w w' := by
  intro m
  induction m with
  | zero => intro d  A  c  A'  c'  e  E  f  E'  f'  w  hp  _; exact hp.elim
  | succ m ih =>
    intro d  A  c  A'  c'  e  E  f  E'  f'  w  hp  hp'
    obtain ⟨res, hres⟩ : ∃ k, k = sameF (m + 1) d e := ⟨_, rfl⟩
    rw [← hres]
    unfold sameF at hres
    unfold datV datCs
    obtain ⟨h1, h2, h3, h4⟩ := hp.lens
    have hm := maxLen_le h2; have hn := maxLen_le h4
    have HI := Lib.hid hp.2.1; have HM := Lib.hid hp.2.2
    obtain ⟨k, hk⟩ : ∃ k, k = kD d := ⟨_, rfl⟩
    obtain ⟨n, hnn⟩ : ∃ k, k = nD d := ⟨_, rfl⟩
    obtain ⟨s, hs⟩ : ∃ k, k = sD d := ⟨_, rfl⟩
    obtain ⟨IS, hIS⟩ : ∃ k, k = iD d := ⟨_, rfl⟩
    obtain ⟨MS, hMS⟩ : ∃ k, k = mD d := ⟨_, rfl⟩
    rw [← hk, ← hnn, ← hs, ← hIS, ← hMS] at hres
    rw [← hk, ← hnn, ← hs, ← hIS, ← hMS]
    rw [← hIS] at h1 HI
    rw [← hMS] at h3 HM
    obtain ⟨x, hx⟩ : ∃ k, k = IS.length := ⟨_, rfl⟩
    obtain ⟨y, hy⟩ : ∃ k, k = MS.length := ⟨_, rfl⟩
    rw [← hx, ← hy]
    rw [← hx] at h1
    rw [← hy] at h3
    rw [← hx, ← hy] at hres
    have HX := Lib.hid hx; have HY := Lib.hid hy
    clear hk hnn hs hx hy hIS hMS h2 h4
    obtain ⟨h12, h22, h32, h42⟩ := hp'.lens
    have hm2 := maxLen_le h22; have hn2 := maxLen_le h42
    have HI2 := Lib.hid hp'.2.1; have HM2 := Lib.hid hp'.2.2
    obtain ⟨k2, hk2⟩ : ∃ k, k = kD e := ⟨_, rfl⟩
    obtain ⟨n2, hnn2⟩ : ∃ k, k = nD e := ⟨_, rfl⟩
    obtain ⟨s2, hs2⟩ : ∃ k, k = sD e := ⟨_, rfl⟩
    obtain ⟨IS2, hIS2⟩ : ∃ k, k = iD e := ⟨_, rfl⟩
    obtain ⟨MS2, hMS2⟩ : ∃ k, k = mD e := ⟨_, rfl⟩
    rw [← hk2, ← hnn2, ← hs2, ← hIS2, ← hMS2] at hres
    rw [← hk2, ← hnn2, ← hs2, ← hIS2, ← hMS2]
    rw [← hIS2] at h12 HI2
    rw [← hMS2] at h32 HM2
    obtain ⟨x2, hx2⟩ : ∃ k, k = IS2.length := ⟨_, rfl⟩
    obtain ⟨y2, hy2⟩ : ∃ k, k = MS2.length := ⟨_, rfl⟩
    rw [← hx2, ← hy2]
    rw [← hx2] at h12
    rw [← hy2] at h32
    rw [← hx2, ← hy2] at hres
    have HX2 := Lib.hid hx2; have HY2 := Lib.hid hy2
    clear hk2 hnn2 hs2 hx2 hy2 hIS2 hMS2 h22 h42
    obtain ⟨q, hq⟩ : ∃ q, q = diffQ k k2 n n2 s s2 x x2 y y2 := ⟨_, rfl⟩
    rw [← hq] at hres
    unfold diffQ at hq
    have HRES := Lib.hid hres; have HQ := Lib.hid hq
    clear hres hq hp hp'
    go_enter Tryd.func9, Tryd.ntmps9
    go_upto_region 1 with fail
    obtain ⟨w1, g, e1, e2, hBL, _, _, _, _, _, hROW⟩ := boxD w k n s (.slice A x c) (.slice A' y c')
    obtain ⟨w2, g2, e3, e4, hBL2, _, _, _, _, _, hROW2⟩ := boxD w1 k2 n2 s2 (.slice E x2 f) (.slice E' y2 f')
    have e5 : g + 1 = g2 := by rw [← e4, ← e1, ← e2]; simp
    rw [e1, e2, e3, e5]
    have HBL := hide (hBL.trans (hBL2.mono hBL.size)); have HROW := hide (hROW.below hBL2); have HROW2 := hide hROW2
    clear e1 e2 e3 e4 e5 hBL hBL2 hROW hROW2
    rename_i z0 z1 z2 z3 z4 z5 z6 z7 z8 z9
    clear z0 z1 z2 z3 z4 z5 z6 z7 z8 z9
    obtain ⟨c0, c1, c2, c3, c4⟩ := row5 HROW.out
    obtain ⟨b0, b1, b2, b3, b4⟩ := row5 HROW2.out
    go_cut [43] from 7 to 42 (fun a wc => a = .bool q ∧ wc = w2)
    case first =>
      go_wp2_with fail
      all_goals
        subst_vars
        go_meet
        case rel =>
          refine ⟨?_, rfl⟩
          simp_all
    case rest =>
      obtain ⟨rfl, rfl⟩ := hcut
      obtain ⟨w2, rfl⟩ : ∃ we, we = wc := ⟨_, rfl⟩
      cases q with
      | true =>
        have HZ := hide (show res = false by rw [HRES.out]; rfl)
        go_wp2_with fail
        go_ret
        exact ⟨ret_bool HZ.out.symm, HBL.out⟩
      | false =>
        have hz : res = (zipD (sameF m) IS IS2 && zipM (sameF m) MS MS2) := by rw [HRES.out]; rfl
        have hqq := HQ.out.symm
        simp only [Bool.or_eq_false_iff] at hqq
        obtain ⟨⟨_, hxx⟩, hyy⟩ := hqq
        obtain rfl : x = x2 := Int.ofNat.inj (show (x : Int) = x2 by simpa using hxx)
        obtain rfl : y = y2 := Int.ofNat.inj (show (y : Int) = y2 by simpa using hyy)
        have HZ := Lib.hid hz
        clear hz HRES HQ hxx hyy
        go_wp2_with fail
        clear c0 c1 c2 c3 c4 b0 b1 b2 b3 b4
        go_loopw [5] (fun iv wr => ∃ i : Nat, iv = .int .i64 i ∧ i ≤ x ∧ Hid (res = (zipD (sameF m) (IS.drop i) (IS2.drop i) && zipM (sameF m) MS MS2)) ∧ Hid (Below w2.heap.size w2 wr)) (fun iv _ => x - (intOf iv).toNat)
        case atStart => exact ⟨0, rfl, Nat.zero_le _, HZ, hide (Below.refl _ _)⟩
        case round =>
          clear HZ
          obtain ⟨i, rfl, hi, hI, hB⟩ := hrel
          obtain ⟨c0, c1, c2, c3, c4⟩ := row5 (HROW.out.below hB.out)
          obtain ⟨b0, b1, b2, b3, b4⟩ := row5 (HROW2.out.below hB.out)
          by_cases hlt : i < x
          · have hl1 : i < IS.length := by rw [← HX.out]; exact hlt
            have hl2 : i < IS2.length := by rw [← HX2.out]; exact hlt
            obtain ⟨ad, rfl, hb, a, q, a', q', hfive, hpts⟩ := HI.out i _ (List.getElem?_eq_getElem hl1)
            obtain ⟨ad2, rfl, hb2, a2, q2, a2', q2', hfive2, hpts2⟩ := HI2.out i _ (List.getElem?_eq_getElem hl2)
            have hq := hI.out
            rw [drop_at hl1, drop_at hl2, zipD] at hq
            obtain ⟨X, hX⟩ : ∃ X, X = IS[i] := ⟨_, rfl⟩
            obtain ⟨X2, hX2⟩ : ∃ X, X = IS2[i] := ⟨_, rfl⟩
            rw [← hX] at hfive hpts hq
            rw [← hX2] at hfive2 hpts2 hq
            have hbb : (ad.add (i * 5)).block < w.heap.size := by rw [block_of_add]; exact hb
            have hbb2 : (ad2.add (i * 5)).block < w.heap.size := by rw [block_of_add]; exact hb2
            have hBB := HBL.out.trans (hB.out.mono HBL.out.size)
            obtain ⟨s0, s1, s2', s3, s4⟩ := hfive.same hbb (Same.of_below hBB)
            obtain ⟨t0, t1, t2, t3, t4⟩ := hfive2.same hbb2 (Same.of_below hBB)
            have HCK := hide (ih X a q a' q' X2 a2 q2 a2' q2' wr.drew (hpts.turn (Same.of_below hBB.drew) hBB.drew.size) (hpts2.turn (Same.of_below hBB.drew) hBB.drew.size))
            have HQ := Lib.hid hq
            clear hfive hpts hX hl1 hb hbb hfive2 hpts2 hX2 hl2 hb2 hbb2 hI hq hBB
            unfold datV datCs at HCK
            obtain ⟨z, hz⟩ : ∃ z, z = sameF m X X2 := ⟨_, rfl⟩
            rw [← hz] at HCK HQ
            clear hz
            go_wp2_with fail
            refine wp_region_still_tail 10 (by kernel_rfl) (by kernel_rfl) ?_
            simp only [List.take_succ_cons, List.take_zero, List.drop_succ_cons, List.drop_zero]
            repeat still_step
            refine wpStill_nil ?_
            go_wp2_with fail
            refine (unhide HCK).mono ?_; rintro r w4 ⟨rfl, hB4⟩
            have HB4 := hide (hB.out.drew.trans (hB4.mono hB.out.drew.size))
            clear hB4 HCK s0 s1 s2' s3 s4 t0 t1 t2 t3 t4 c0 c1 c2 c3 c4 b0 b1 b2 b3 b4
            cases z with
            | true =>
              have HQ2 := hide (show res = (zipD (sameF m) (IS.drop (i + 1)) (IS2.drop (i + 1)) && zipM (sameF m) MS MS2) by rw [HQ.out, Bool.true_and])
              go_wp2_with fail
              go_roundw
              case rel => exact ⟨i + 1, by go_num, by omega, HQ2, HB4⟩
              case measure => simp [intOf]; omega
            | false =>
              have HZ := hide (show res = false by rw [HQ.out]; rfl)
              go_wp2_with fail
              go_ret
              exact ⟨ret_bool HZ.out.symm, HBL.out.trans (HB4.out.mono HBL.out.size)⟩
          · have HZ := hide (show res = zipM (sameF m) (MS.drop 0) (MS2.drop 0) by rw [hI.out, List.drop_eq_nil_of_le (by rw [← HX.out]; omega)]; rfl)
            have HB4 := hide (HBL.out.trans (hB.out.mono HBL.out.size))
            have HROW4 := hide (HROW.out.below hB.out); have HROW5 := hide (HROW2.out.below hB.out)
            clear hI HROW HROW2 HBL hB
            obtain ⟨w4, rfl⟩ : ∃ w4, w4 = wr := ⟨_, rfl⟩
            go_wp2_with fail
            clear c0 c1 c2 c3 c4 b0 b1 b2 b3 b4
            go_loopw [6] (fun iv wr => ∃ i : Nat, iv = .int .i64 i ∧ i ≤ y ∧ Hid (res = zipM (sameF m) (MS.drop i) (MS2.drop i)) ∧ Hid (Below w4.heap.size w4 wr)) (fun iv _ => y - (intOf iv).toNat)
            case atStart => exact ⟨0, rfl, Nat.zero_le _, HZ, hide (Below.refl _ _)⟩
            case round =>
              clear HZ
              obtain ⟨i, rfl, hi, hI, hB⟩ := hrel
              obtain ⟨c0, c1, c2, c3, c4⟩ := row5 (HROW4.out.below hB.out)
              obtain ⟨b0, b1, b2, b3, b4⟩ := row5 (HROW5.out.below hB.out)
              by_cases hlt : i < y
              · have hl1 : i < MS.length := by rw [← HY.out]; exact hlt
                have hl2 : i < MS2.length := by rw [← HY2.out]; exact hlt
                obtain ⟨ad, rfl, hb, hlab, a, q, a', q', hfive, hpts⟩ := HM.out i _ (List.getElem?_eq_getElem hl1)
                obtain ⟨ad2, rfl, hb2, hlab2, a2, q2, a2', q2', hfive2, hpts2⟩ := HM2.out i _ (List.getElem?_eq_getElem hl2)
                have hq := hI.out
                rw [drop_at hl1, drop_at hl2, zipM] at hq
                obtain ⟨X, hX⟩ : ∃ X, X = MS[i] := ⟨_, rfl⟩
                obtain ⟨X2, hX2⟩ : ∃ X, X = MS2[i] := ⟨_, rfl⟩
                rw [← hX] at hfive hpts hq hlab
                rw [← hX2] at hfive2 hpts2 hq hlab2
                have hbb : (ad.add (i * 6)).block < w.heap.size := by rw [block_of_add]; exact hb
                have hbb2 : (ad2.add (i * 6)).block < w.heap.size := by rw [block_of_add]; exact hb2
                have hBB := HB4.out.trans (hB.out.mono HB4.out.size)
                obtain ⟨s0, s1, s2', s3, s4, s5⟩ := six_of ((hBB.cell (p := ad.add (i * 6)) hbb).trans hlab) (hfive.same (p := ⟨_, _, none⟩) hbb (Same.of_below hBB))
                obtain ⟨t0, t1, t2, t3, t4, t5⟩ := six_of ((hBB.cell (p := ad2.add (i * 6)) hbb2).trans hlab2) (hfive2.same (p := ⟨_, _, none⟩) hbb2 (Same.of_below hBB))
                have HCK := hide (ih X.2 a q a' q' X2.2 a2 q2 a2' q2' wr.drew (hpts.turn (Same.of_below hBB.drew) hBB.drew.size) (hpts2.turn (Same.of_below hBB.drew) hBB.drew.size))
                have HQ := Lib.hid hq
                clear hfive hpts hX hl1 hb hbb hlab hfive2 hpts2 hX2 hl2 hb2 hbb2 hlab2 hI hq hBB
                unfold datV datCs at HCK
                obtain ⟨z, hz⟩ : ∃ z, z = sameF m X.2 X2.2 := ⟨_, rfl⟩
                rw [← hz] at HCK HQ
                clear hz
                cases hlb : (X.1.toList == X2.1.toList) with
                | false =>
                  have HZ := hide (show res = false by rw [HQ.out, hlb]; rfl)
                  go_wp2_with fail
                  go_quiet (fail)
                  go_wp2_with fail
                  go_ret
                  exact ⟨ret_bool HZ.out.symm, below_drewN (HB4.out.trans (hB.out.mono HB4.out.size)) _⟩
                | true =>
                  have HQ1 := hide (show res = (z && zipM (sameF m) (MS.drop (i + 1)) (MS2.drop (i + 1))) by rw [HQ.out, hlb, Bool.true_and])
                  clear HQ
                  go_wp2_with fail
                  refine wp_region_still_tail 26 (by kernel_rfl) (by kernel_rfl) ?_
                  simp only [List.take_succ_cons, List.take_zero, List.drop_succ_cons, List.drop_zero]
                  repeat (first
                    | still_step
                    | (with_reducible refine wpStill_want ?_ (fun K hK => ?_); kernel_rfl; go_simp; refine hK _ ?_; clear hK K))
                  refine wpStill_nil ?_
                  go_wp2_with fail
                  refine (unhide HCK).mono ?_; rintro r w5 ⟨rfl, hB5⟩
                  have HB5 := hide (hB.out.drew.trans (hB5.mono hB.out.drew.size))
                  clear hB5 HCK s0 s1 s2' s3 s4 s5 t0 t1 t2 t3 t4 t5 c0 c1 c2 c3 c4 b0 b1 b2 b3 b4
                  cases z with
                  | true =>
                    have HQ2 := hide (show res = zipM (sameF m) (MS.drop (i + 1)) (MS2.drop (i + 1)) by rw [HQ1.out, Bool.true_and])
                    go_wp2_with fail
                    go_roundw
                    case rel => exact ⟨i + 1, by go_num, by omega, HQ2, HB5⟩
                    case measure => simp [intOf]; omega
                  | false =>
                    have HZ := hide (show res = false by rw [HQ1.out]; rfl)
                    go_wp2_with fail
                    go_ret
                    exact ⟨ret_bool HZ.out.symm, HB4.out.trans (HB5.out.mono HB4.out.size)⟩
              · have HZ := hide (show res = true by rw [hI.out, List.drop_eq_nil_of_le (by rw [← HY.out]; omega)]; rfl)
                clear hI
                go_wp2_with fail
                go_ret
                exact ⟨ret_bool HZ.out.symm, HB4.out.trans (hB.out.mono HB4.out.size)⟩
end Go.Proofs.YtmmbbndoimleaaaDoor

/- The chapter's sample and example. -/
namespace Go.Proofs.YtmmbbndoimleaaaDoor
open Go.RowKit

def jL : Dt := mkD 5 0 ⟨#[]⟩ [mkD 1 0 ⟨#[]⟩ [] []] []
def jD : Dt := mkD 6 0 ⟨#[]⟩ [] [(⟨#[97]⟩, mkD 3 15000 ⟨#[]⟩ [] []), (⟨#[98]⟩, jL)]
def jS1 : ByteArray := ⟨#[123, 34, 97, 34, 58, 49, 46, 53, 44, 34, 98, 34, 58, 91, 110, 117, 108, 108, 93, 125]⟩
def jS2 : ByteArray := ⟨#[123, 10, 9, 34, 97, 34, 58, 32, 49, 46, 53, 44, 10, 9, 34, 98, 34, 58, 32, 91, 10, 9, 9, 110, 117, 108, 108, 10, 9, 93, 10, 125]⟩
theorem jleaf_parts (w : World) (B m : Nat) (k n : Int) (s : ByteArray) : Parts w B (m + 1) (mkD k n s [] []) none 0 none 0 :=
  ⟨⟨Nat.le_refl _, Nat.zero_le _, Nat.le_refl _, Nat.zero_le _⟩, fun i x h => by simp at h, fun i x h => by simp at h⟩
theorem infoDs : Tryd.prog.underlying 27 = Tryd.prog.underlying 27 := rfl

set_option maxRecDepth 20000 in
set_option maxHeartbeats 1000000 in
theorem sample_run (w : World) : Calls Tryd.prog 11 #[] w fun e w' => ∃ a c a' c', e = .returned (datV jD a c a' c') ∧ Below w.heap.size w w' ∧ Parts w' w'.heap.size 3 jD a c a' c' := by
  go_enter Tryd.func11, Tryd.ntmps11
  go_wp2_with fail
  have R0 := Row.new w 27 [.int .i64 6, .int .i64 0, .string ⟨#[]⟩, .slice none 0 0, .slice (some ⟨w.heap.size + 1 + 1, 0, none⟩) 2 2]
  obtain ⟨w0, hw0⟩ : ∃ w0, w0 = w.alloc (Obj.cells #[Value.int .i64 6, .int .i64 0, .string ⟨#[]⟩, .slice none 0 0, .slice (some ⟨w.heap.size + 1 + 1, 0, none⟩) 2 2] 27) := ⟨_, rfl⟩
  have R1 := Row.new w0 27 (datCs (mkD 1 0 ⟨#[]⟩ [] []) none 0 none 0)
  obtain ⟨w1, hw1⟩ : ∃ w1, w1 = w0.alloc (Obj.cells (datCs (mkD 1 0 ⟨#[]⟩ [] []) none 0 none 0).toArray 27) := ⟨_, rfl⟩
  have R3 := Row.new w1 50 ((.string ⟨#[97]⟩ :: datCs (mkD 3 15000 ⟨#[]⟩ [] []) none 0 none 0) ++ (.string ⟨#[98]⟩ :: datCs jL (some ⟨w.heap.size + 1, 0, none⟩) 1 none 0))
  obtain ⟨w3, hw3⟩ : ∃ w3, w3 = w1.alloc (Obj.cells ((.string ⟨#[97]⟩ :: datCs (mkD 3 15000 ⟨#[]⟩ [] []) none 0 none 0) ++ (.string ⟨#[98]⟩ :: datCs jL (some ⟨w.heap.size + 1, 0, none⟩) 1 none 0)).toArray 50) := ⟨_, rfl⟩
  have s0 : w0.heap.size = w.heap.size + 1 := by rw [hw0]; simp
  have s1 : w1.heap.size = w.heap.size + 1 + 1 := by rw [hw1]; simp [s0]
  have s3 : w3.heap.size = w.heap.size + 1 + 1 + 1 := by rw [hw3]; simp [s1]
  have b1 : Below w0.heap.size w0 w1 := by rw [hw1]; exact (Below.refl _ _).alloc (Nat.le_refl _) _
  have b3 : Below w1.heap.size w1 w3 := by rw [hw3]; exact (Below.refl _ _).alloc (Nat.le_refl _) _
  have b0 : Below w.heap.size w w0 := by rw [hw0]; exact (Below.refl _ _).alloc (Nat.le_refl _) _
  have hB : Below w.heap.size w w3 := (b0.trans (b1.mono b0.size)).trans (b3.mono (by omega))
  rw [← hw0] at R0
  rw [← hw1, s0] at R1
  rw [← hw3, s1] at R3
  have Q0 := (R0.below b1).below b3
  have Q1 := R1.below b3
  have hI : DatsAt (Parts w3 w3.heap.size 1) w3 w3.heap.size (some ⟨w.heap.size + 1, 0, none⟩) [mkD 1 0 ⟨#[]⟩ [] []] :=
    DatsAt.of_flat (FlatD.one (jleaf_parts _ _ 0 _ _ _)) (by show w.heap.size + 1 < _; omega) (fun j u hu => by rw [add_head, Q1.cell]; exact hu)
  have hL : Parts w3 w3.heap.size 2 jL (some ⟨w.heap.size + 1, 0, none⟩) 1 none 0 := ⟨⟨by decide, by decide, by decide, by decide⟩, hI, fun i x h => by simp [jL] at h⟩
  have hM : MemsAt (Parts w3 w3.heap.size 2) w3 w3.heap.size (some ⟨w.heap.size + 1 + 1, 0, none⟩) [(⟨#[97]⟩, mkD 3 15000 ⟨#[]⟩ [] []), (⟨#[98]⟩, jL)] :=
    MemsAt.of_flat ((FlatM.one (m := (⟨#[97]⟩, mkD 3 15000 ⟨#[]⟩ [] [])) (jleaf_parts _ _ 1 _ _ _)).append (FlatM.one (m := (⟨#[98]⟩, jL)) hL)) (by show w.heap.size + 1 + 1 < _; omega) (fun j u hu => by rw [add_head, R3.cell]; exact hu)
  have hE : Parts w3 w3.heap.size 3 jD none 0 (some ⟨w.heap.size + 1 + 1, 0, none⟩) 2 := ⟨⟨by decide, by decide, by decide, by decide⟩, fun i x h => by simp [jD] at h, hM⟩
  have hW : ((w.alloc (Obj.cells #[Value.int .i64 6, .int .i64 0, .string ⟨#[]⟩, .slice none 0 0, .slice (some ⟨w.heap.size + 1 + 1, 0, none⟩) 2 2] 27)).alloc (Obj.cells (datCs (mkD 1 0 ⟨#[]⟩ [] []) none 0 none 0).toArray 27)).alloc (Obj.cells ((.string ⟨#[97]⟩ :: datCs (mkD 3 15000 ⟨#[]⟩ [] []) none 0 none 0) ++ (.string ⟨#[98]⟩ :: datCs jL (some ⟨w.heap.size + 1, 0, none⟩) 1 none 0)).toArray 50) = w3 := by rw [hw3, hw1, hw0]
  refine bodyPost_ret (results_dat rfl _ _ w.heap.size _ _ _ _ _ rfl (by rw [← hW] at Q0; exact Q0)) rfl ?_
  refine ⟨none, 0, some ⟨w.heap.size + 1 + 1, 0, none⟩, 2, rfl, ?_, ?_⟩
  · rw [← hW] at hB; exact hB
  · rw [← hW] at hE; exact hE
/-- The data and the fault that Parse hands back are laid into two new blocks. -/
theorem boxDF (w : World) (k n : Int) (s : ByteArray) (a a' : Value) (e p : Int) : ∃ w2 g f, (w.alloc (Obj.cells #[.int .i64 k, .int .i64 n, .string s, a, a'] 27)).alloc (Obj.cells #[.int .i64 e, .int .i64 p] 30) = w2 ∧ w.heap.size = g ∧ w.heap.size + 1 = f ∧ Below w.heap.size w w2 ∧
    Row w2 g 27 [.int .i64 k, .int .i64 n, .string s, a, a'] ∧ Row w2 f 30 [.int .i64 e, .int .i64 p] := by
  have hR : Row (w.alloc (Obj.cells #[.int .i64 k, .int .i64 n, .string s, a, a'] 27)) w.heap.size 27 [.int .i64 k, .int .i64 n, .string s, a, a'] := Row.new w _ _
  have hF := Row.new (w.alloc (Obj.cells #[.int .i64 k, .int .i64 n, .string s, a, a'] 27)) 30 [.int .i64 e, .int .i64 p]
  rw [show (w.alloc (Obj.cells #[.int .i64 k, .int .i64 n, .string s, a, a'] 27)).heap.size = w.heap.size + 1 by simp] at hF
  exact ⟨_, _, _, rfl, rfl, rfl, ((Below.refl _ _).alloc (Nat.le_refl _) _).alloc (by simp) _, hR.alloc _, hF⟩
section
variable {W : World} {a : Option Addr} {c : Nat} {a' : Option Addr} {c' : Nat}
theorem jfitD (hp : Parts W W.heap.size 3 jD a c a' c') : FitD 16 jD := fit_of_parts 3 16 hp (by rw [show partsF 3 jD = 4 by kernel_rfl]; omega)
theorem jtext_ex (hp : Parts W W.heap.size 3 jD a c a' c') (ht : Tab W) : Calls Tryd.prog 10 #[datV jD a c a' c'] W fun e w' => e = .returned (.tuple #[.string jS1, .int .i64 0]) ∧ Below W.heap.size W w' := by
  have h := jText_run 3 jD a c a' c' W hp (jfitD hp) (by decide) ht
  rw [show jtD false 3 jD = jS1 by kernel_rfl, show checkD jD = 0 by kernel_rfl] at h
  exact h
theorem jindent_ex (hp : Parts W W.heap.size 3 jD a c a' c') (ht : Tab W) : Calls Tryd.prog 12 #[datV jD a c a' c'] W fun e w' => e = .returned (.tuple #[.string jS2, .int .i64 0]) ∧ Below W.heap.size W w' := by
  have h := jIndent_run 3 jD a c a' c' W hp (jfitD hp) (by decide) ht
  rw [show jtD true 3 jD = jS2 by kernel_rfl, show checkD jD = 0 by kernel_rfl] at h
  exact h
theorem jparse_1 : Calls Tryd.prog 8 #[.string ⟨#[49, 46, 53, 48]⟩] W fun e w' => (∃ a c a' c', e = .returned (.tuple #[.agg #[.int .i64 3, .int .i64 15000, .string ⟨#[]⟩, .slice a 0 c, .slice a' 0 c'], .agg #[.int .i64 0, .int .i64 0]]) ∧ Parts w' w'.heap.size 5 (mkD 3 15000 ⟨#[]⟩ [] []) a c a' c') ∧ Below W.heap.size W w' := by
  have h := Parse_run ⟨#[49, 46, 53, 48]⟩ W
  rw [show parseF ⟨#[49, 46, 53, 48]⟩ = (mkD 3 15000 ⟨#[]⟩ [] [], (0, 0)) by kernel_rfl] at h
  refine h.mono ?_
  rintro e w' ⟨a, c, a', c', rfl, hp, hB⟩
  exact ⟨⟨a, c, a', c', rfl, hp.parts⟩, hB⟩
theorem jparse_2 : Calls Tryd.prog 8 #[.string ⟨#[123, 34, 97, 34, 58, 49, 44, 34, 97, 34]⟩] W fun e w' => (∃ a c a' c', e = .returned (.tuple #[.agg #[.int .i64 0, .int .i64 0, .string ⟨#[]⟩, .slice a 0 c, .slice a' 0 c'], .agg #[.int .i64 6, .int .i64 7]])) ∧ Below W.heap.size W w' := by
  have h := Parse_run ⟨#[123, 34, 97, 34, 58, 49, 44, 34, 97, 34]⟩ W
  rw [show parseF ⟨#[123, 34, 97, 34, 58, 49, 44, 34, 97, 34]⟩ = (zeroD, (6, 7)) by kernel_rfl] at h
  refine h.mono ?_
  rintro e w' ⟨a, c, a', c', rfl, hp, hB⟩
  exact ⟨⟨a, c, a', c', rfl⟩, hB⟩
theorem jsame_15 {c c'} (hp : Parts W W.heap.size 5 (mkD 3 15000 ⟨#[]⟩ [] []) a c a' c') : Calls Tryd.prog 9 #[.agg #[.int .i64 3, .int .i64 15000, .string ⟨#[]⟩, .slice a 0 c, .slice a' 0 c'], .agg #[.int .i64 3, .int .i64 15000, .string ⟨#[]⟩, .slice none 0 0, .slice none 0 0]] W fun e w' => e = .returned (.bool true) ∧ Below W.heap.size W w' := by
  have h := same_run 5 (mkD 3 15000 ⟨#[]⟩ [] []) a c a' c' (mkD 3 15000 ⟨#[]⟩ [] []) none 0 none 0 W hp (jleaf_parts _ _ 4 _ _ _)
  rw [show sameF 5 (mkD 3 15000 ⟨#[]⟩ [] []) (mkD 3 15000 ⟨#[]⟩ [] []) = true by kernel_rfl] at h
  exact h
end

set_option maxRecDepth 100000 in
set_option maxHeartbeats 3000000 in
theorem jexample_run (w : World) (ht : Tab w) : Calls Tryd.prog 7 #[] w fun e w' => e = .returned (.bool true) ∧ Below w.heap.size w w' := by
  have HT := hide fun W (h : Below w.heap.size w W) => tab_below ht h
  clear ht
  have g1 : (jS1.toList == [123, 34, 97, 34, 58, 49, 46, 53, 44, 34, 98, 34, 58, 91, 110, 117, 108, 108, 93, 125]) = true := by kernel_rfl
  have g2 : (jS1.toList == (⟨#[123, 34, 97, 34, 58, 49, 46, 53, 44, 34, 98, 34, 58, 91, 110, 117, 108, 108, 93, 125]⟩ : ByteArray).toList) = true := by kernel_rfl
  have g3 : (jS2.toList == [123, 10, 9, 34, 97, 34, 58, 32, 49, 46, 53, 44, 10, 9, 34, 98, 34, 58, 32, 91, 10, 9, 9, 110, 117, 108, 108, 10, 9, 93, 10, 125]) = true := by kernel_rfl
  have g4 : (jS2.toList == (⟨#[123, 10, 9, 34, 97, 34, 58, 32, 49, 46, 53, 44, 10, 9, 34, 98, 34, 58, 32, 91, 10, 9, 9, 110, 117, 108, 108, 10, 9, 93, 10, 125]⟩ : ByteArray).toList) = true := by kernel_rfl
  go_enter Tryd.func7, Tryd.ntmps7
  go_wp2_with fail
  refine (sample_run _).mono ?_; rintro e w1 ⟨a1, c1, a1', c1', rfl, hB1, hP1⟩
  have HB1 := hide hB1; have HP1 := hide hP1
  clear hB1 hP1
  go_wp2_with fail
  refine (jtext_ex HP1.out (HT.out _ HB1.out)).mono ?_; rintro e w2 ⟨rfl, hB2⟩
  have HB2 := hide (HB1.out.trans (hB2.mono HB1.out.size))
  clear hB2 HB1 HP1
  go_wp2_with fail
  refine (sample_run _).mono ?_; rintro e w3 ⟨a1, c1, a1', c1', rfl, hB3, hP3⟩
  have HB3 := hide (HB2.out.trans (hB3.mono HB2.out.size)); have HP3 := hide hP3
  clear hB3 hP3 HB2
  go_wp2_with fail
  refine (jindent_ex HP3.out (HT.out _ HB3.out)).mono ?_; rintro e w4 ⟨rfl, hB4⟩
  have HB4 := hide (HB3.out.trans (hB4.mono HB3.out.size))
  clear hB4 HB3 HP3
  go_wp2_with fail
  refine (jparse_1 (W := _)).mono ?_; rintro e w5 ⟨⟨a5, c5, a5', c5', rfl, hP5⟩, hB5⟩
  have HB5 := hide (HB4.out.trans (hB5.mono HB4.out.size))
  have HP5 := hide hP5
  clear hB5 hP5 HB4
  go_upto_region 4 with fail
  obtain ⟨w6, g6, f6, e1, e2, e3, hB6, hR6, hF6⟩ := boxDF w5 3 15000 ⟨#[]⟩ (.slice a5 0 c5) (.slice a5' 0 c5') 0 0
  rw [e1, e2, show g6 + 1 = f6 by omega]
  have HB6 := hide (HB5.out.trans (hB6.mono HB5.out.size))
  have HP6 := hide (HP5.out.turn (Same.of_below hB6) hB6.size)
  have HR6 := hide (And.intro hR6 hF6)
  clear e1 e2 e3 hB6 hR6 hF6 HB5 HP5
  go_wp2_with fail
  refine (jparse_2 (W := _)).mono ?_; rintro e w7 ⟨⟨a7, c7, a7', c7', rfl⟩, hB7⟩
  have HB7 := hide (HB6.out.trans (hB7.mono HB6.out.size))
  have HP7 := hide (HP6.out.turn (Same.of_below hB7) hB7.size)
  have HR7 := hide (And.intro (HR6.out.1.below hB7) (HR6.out.2.below hB7))
  clear hB7 HR6 HP6 HB6
  go_upto_region 5 with fail
  obtain ⟨w8, g8, f8, e1, e2, e3, hB8, hR8, hF8⟩ := boxDF w7 0 0 ⟨#[]⟩ (.slice a7 0 c7) (.slice a7' 0 c7') 6 7
  rw [e1, e2, show g8 + 1 = f8 by omega]
  have HB8 := hide (HB7.out.trans (hB8.mono HB7.out.size))
  have HP8 := hide (HP7.out.turn (Same.of_below hB8) hB8.size)
  have hRR := HR7.out.1.below hB8
  have hFF := HR7.out.2.below hB8
  clear e1 e2 e3 hB8 hR8 HB7 HP7 HR7
  obtain ⟨z0, z1, z2, z3, z4⟩ := row5 hRR
  have y0 : w8.cell? ⟨f6, 0, none⟩ = some (.int .i64 0) := hFF.cell 0
  have y1 : w8.cell? ⟨f6, 1, none⟩ = some (.int .i64 0) := hFF.cell 1
  have x0 : w8.cell? ⟨f8, 0, none⟩ = some (.int .i64 6) := hF8.cell 0
  have x1 : w8.cell? ⟨f8, 1, none⟩ = some (.int .i64 7) := hF8.cell 1
  clear hRR hFF hF8
  go_wp2_with fail
  refine (jsame_15 HP8.out).mono ?_; rintro e w9 ⟨rfl, hB9⟩
  have HB9 := hide (HB8.out.trans (hB9.mono HB8.out.size))
  go_wp2_with fail
  go_ret
  exact ⟨rfl, HB9.out⟩
end Go.Proofs.YtmmbbndoimleaaaDoor

/- Depth and sizes, plain. -/
namespace Go.Proofs.YtmmbbndoimleaaaDoor
open Go.RowKit

theorem nx_list (l : List UInt8) (i : Nat) : nx ⟨l.toArray⟩ i = ((l[i]?).getD 0).toNat := by
  have hs : (⟨l.toArray⟩ : ByteArray).size = l.length := by show l.toArray.size = _; simp
  unfold nx
  rw [hs]
  split
  · rename_i h
    rw [← get_bang (by rw [hs]; exact h), List.getElem?_eq_getElem h]; rfl
  · rename_i h
    rw [List.getElem?_eq_none (by omega)]; rfl
theorem mk_size (l : List UInt8) : (⟨l.toArray⟩ : ByteArray).size = l.length := by show l.toArray.size = _; simp
theorem blk_stay {S : ByteArray} {i : Nat} (h : blkB (nx S i) = false) : blk S i = i := run_stop h
/-- Lists in each other. -/
def nestD : Nat → Dt
  | 0 => zeroD
  | 1 => mkD 5 0 ⟨#[]⟩ [] []
  | k + 2 => mkD 5 0 ⟨#[]⟩ [nestD (k + 1)] []
theorem val_ig (S : ByteArray) (n : Nat) : Gain S (itemS (valF S n)) := item_gain fun _ _ _ h => val_gain n h
theorem val_list {S : ByteArray} {m i : Nat} (h : nx S i = 91) : valF S (m + 1) i = match sevF S 93 (itemS (valF S m)) [] i with
      | .error f => .error f
      | .ok (l, j) => .ok (mkD 5 0 ⟨#[]⟩ l [], j) := by
  rw [valF, h]
  rw [if_neg (by decide), if_neg (by decide), if_neg (by decide), if_neg (by decide), if_neg (by decide), if_pos rfl]
  rfl
theorem val_nest {S : ByteArray} {n : Nat} (h1 : ∀ k, k < n → nx S k = 91) (h2 : ∀ k, n ≤ k → k < 2 * n → nx S k = 93) (hs : S.size = 2 * n) :
    ∀ (k m : Nat), k + 1 ≤ n → k + 1 ≤ m → valF S m (n - (k + 1)) = .ok (nestD (k + 1), n + (k + 1))
  | 0, m, hk, hm => by
    obtain ⟨m, rfl⟩ : ∃ q, m = q + 1 := ⟨m - 1, by omega⟩
    have e1 : nx S (n - (0 + 1)) = 91 := h1 _ (by omega)
    have e2 : nx S n = 93 := h2 _ (by omega) (by omega)
    rw [val_list e1]
    unfold sevF
    rw [show n - (0 + 1) + 1 = n by omega, blk_stay (by rw [e2]; rfl), e2, if_pos rfl]
    rfl
  | k + 1, m, hk, hm => by
    obtain ⟨m, rfl⟩ : ∃ q, m = q + 1 := ⟨m - 1, by omega⟩
    have ih := val_nest h1 h2 hs k m (by omega) (by omega)
    have e1 : nx S (n - (k + 1 + 1)) = 91 := h1 _ (by omega)
    have e2 : nx S (n - (k + 1)) = 91 := h1 _ (by omega)
    have e3 : nx S (n + (k + 1)) = 93 := h2 _ (by omega) (by omega)
    rw [val_list e1]
    unfold sevF
    rw [show n - (k + 1 + 1) + 1 = n - (k + 1) by omega, blk_stay (by rw [e2]; rfl), e2, if_neg (by decide), sevR_eq (val_ig S m) _ (by omega), blk_stay (by rw [e2]; rfl)]
    unfold itemS
    rw [ih]
    simp only
    rw [blk_stay (by rw [e3]; rfl), e3, if_pos rfl]
    rfl
theorem val_open {S : ByteArray} {n : Nat} (h1 : ∀ k, k < n → nx S k = 91) (hs : S.size = n) :
    ∀ (k m : Nat), k ≤ n → valF S m (n - k) = .error (19, ((n : Nat) : Int)) ∨ m < k + 1
  | 0, m, hk => by
    have e1 : nx S n = 0 := nx_past (by omega)
    cases m with
    | zero => exact .inr (by omega)
    | succ m =>
      refine .inl ?_
      rw [show n - 0 = n by omega, valF, e1]
      rw [if_neg (by decide), if_neg (by decide), if_neg (by decide), if_neg (by decide), if_neg (by decide), if_neg (by decide), if_neg (by decide)]
  | k + 1, m, hk => by
    rcases Nat.lt_or_ge m (k + 1 + 1) with h | h
    · exact .inr h
    obtain ⟨m, rfl⟩ : ∃ q, m = q + 1 := ⟨m - 1, by omega⟩
    have ih := val_open h1 hs k m (by omega)
    rcases ih with ih | ih
    · refine .inl ?_
      have e1 : nx S (n - (k + 1)) = 91 := h1 _ (by omega)
      have e2 : nx S (n - k) ≠ 93 ∧ blkB (nx S (n - k)) = false := by
        rcases Nat.eq_zero_or_pos k with rfl | h0
        · rw [show n - 0 = n by omega, nx_past (S := S) (i := n) (by omega)]; exact ⟨by decide, rfl⟩
        · rw [h1 _ (by omega)]; exact ⟨by decide, rfl⟩
      rw [val_list e1]
      unfold sevF
      rw [show n - (k + 1) + 1 = n - k by omega, blk_stay e2.2, if_neg e2.1, sevR_eq (val_ig S m) _ (by omega), blk_stay e2.2]
      unfold itemS
      rw [ih]
    · exact .inr (by omega)
theorem clean_nest : ∀ (r m k : Nat) (lv : Int), lv = 17 - r → r ≤ 16 → k + 1 ≤ m → checkF r (cleanF m lv (nestD (k + 1))) = if k + 1 ≤ r then 0 else 9
  | 0, m, k, lv, _, _, _ => by rw [if_neg (by omega)]; rfl
  | r + 1, m, k, lv, hl, hr, hk => by
    obtain ⟨m, rfl⟩ : ∃ q, m = q + 1 := ⟨m - 1, by omega⟩
    cases k with
    | zero =>
      rw [if_pos (by omega)]
      have e : cleanF (m + 1) lv (nestD (0 + 1)) = mkD 5 0 ⟨#[]⟩ [] [] := by
        rw [cleanF, if_neg (by omega)]; rfl
      rw [e]
      have e2 : ownD (mkD 5 0 ⟨#[]⟩ [] []) = 0 := by kernel_rfl
      unfold checkF
      rw [if_pos e2]; rfl
    | succ k =>
      have ih := clean_nest r m k (lv + 1) (by omega) (by omega) (by omega)
      have e : cleanF (m + 1) lv (nestD (k + 1 + 1)) = mkD 5 0 ⟨#[]⟩ [cleanF m (lv + 1) (nestD (k + 1))] [] := by
        rw [cleanF, if_neg (by omega)]; rfl
      rw [e]
      generalize cleanF m (lv + 1) (nestD (k + 1)) = y at ih
      have e2 : ownD (mkD 5 0 ⟨#[]⟩ [y] []) = 0 := by kernel_rfl
      have e3 : kids (mkD 5 0 ⟨#[]⟩ [y] []) = [y] := rfl
      unfold checkF
      rw [if_pos e2, e3]
      show (if checkF r y = 0 then firstE (checkF r) [] else checkF r y) = _
      rw [ih]
      by_cases h : k + 1 ≤ r
      · rw [if_pos h, if_pos rfl, if_pos (by omega)]; rfl
      · rw [if_neg h, if_neg (by decide), if_neg (by omega)]
theorem kD_clean {m : Nat} (lv : Int) (d : Dt) (h : 0 < m) : kD (cleanF m lv d) = kD d := by
  cases m with
  | zero => omega
  | succ m => rw [cleanF]; split <;> rfl
/-- The two answers of the law of depth. -/
theorem depth_shut {S : ByteArray} {n : Nat} (h0 : 1 ≤ n) (hn : n ≤ 3000) (h1 : ∀ k, k < n → nx S k = 91) (h2 : ∀ k, n ≤ k → k < 2 * n → nx S k = 93) (hs : S.size = 2 * n) :
    (parseF S).2 = (if 16 < n then (9, 0) else (0, 0)) ∧ kD (parseF S).1 = if 16 < n then 0 else 5 := by
  obtain ⟨n, rfl⟩ : ∃ q, n = q + 1 := ⟨n - 1, by omega⟩
  have hv := val_nest h1 h2 hs n (S.size + 1) (by omega) (by omega)
  rw [show n + 1 - (n + 1) = 0 by omega] at hv
  have b0 : blk S 0 = 0 := blk_stay (by rw [h1 0 (by omega)]; rfl)
  have b1 : blk S (n + 1 + (n + 1)) = n + 1 + (n + 1) := blk_stay (by rw [nx_past (by omega)]; rfl)
  have hc := clean_nest 16 (S.size + 1) n 1 rfl (by omega) (by omega)
  have hc : checkD (cleanF (S.size + 1) 1 (nestD (n + 1))) = if n + 1 ≤ 16 then 0 else 9 := hc
  unfold parseF
  rw [if_neg (by omega), b0, hv]
  simp only
  rw [b1, if_neg (by omega), hc]
  by_cases h : n + 1 ≤ 16
  · rw [if_pos h, if_pos rfl, if_neg (by omega), if_neg (by omega)]
    refine ⟨rfl, ?_⟩
    show kD (cleanF _ _ _) = 5
    rw [kD_clean _ _ (by omega)]
    cases n <;> rfl
  · rw [if_neg h, if_neg (by decide), if_pos (by omega), if_pos (by omega)]
    exact ⟨rfl, rfl⟩
theorem depth_open {S : ByteArray} {n : Nat} (h0 : 1 ≤ n) (hn : n ≤ 3000) (h1 : ∀ k, k < n → nx S k = 91) (hs : S.size = n) : (parseF S).2 = (19, ((n : Nat) : Int)) := by
  have hv := (val_open h1 hs n (S.size + 1) (by omega)).resolve_right (by omega)
  rw [show n - n = 0 by omega] at hv
  have b0 : blk S 0 = 0 := blk_stay (by rw [h1 0 (by omega)]; rfl)
  unfold parseF
  rw [if_neg (by omega), b0, hv]
/-- Brackets that were laid so far. -/
def dL (n i : Nat) : List UInt8 := (List.range (2 * n)).map fun k => if k < i then 91 else if n ≤ k ∧ k < n + i then 93 else 0
theorem dL_len (n i : Nat) : (dL n i).length = 2 * n := by unfold dL; simp
theorem dL_zero (n : Nat) : dL n 0 = List.replicate (2 * n) 0 := by
  unfold dL
  apply List.ext_getElem (by simp)
  intro i h1 h2
  simp
theorem dL_q {n i k : Nat} (h : k < 2 * n) : (dL n i)[k]? = some (if k < i then 91 else if n ≤ k ∧ k < n + i then 93 else 0) := by
  unfold dL
  rw [List.getElem?_map, List.getElem?_range h]; rfl
theorem dL_step {n i : Nat} (h : i < n) : ((dL n i).set i 91).set (n + i) 93 = dL n (i + 1) := by
  apply List.ext_getElem?
  intro k
  rw [List.getElem?_set, List.getElem?_set, List.length_set, dL_len]
  by_cases hk : k < 2 * n
  · rw [dL_q hk, dL_q hk]
    by_cases e1 : n + i = k
    · rw [if_pos e1, if_pos (by omega), if_neg (by omega), if_pos (by omega)]
    · rw [if_neg e1]
      by_cases e2 : i = k
      · rw [if_pos e2, if_pos (by omega), if_pos (by omega)]
      · rw [if_neg e2]
        by_cases e3 : k < i
        · rw [if_pos e3, if_pos (by omega)]
        · rw [if_neg e3, if_neg (show ¬ k < i + 1 by omega)]
          by_cases e4 : n ≤ k ∧ k < n + i
          · rw [if_pos e4, if_pos (by omega)]
          · rw [if_neg e4, if_neg (by omega)]
  · rw [if_neg (by omega), if_neg (by omega), List.getElem?_eq_none (by rw [dL_len]; omega), List.getElem?_eq_none (by rw [dL_len]; omega)]
theorem dL_get {n k : Nat} (h : k < 2 * n) : (dL n n)[k]? = some (if k < n then 91 else 93) := by
  rw [dL_q h]
  by_cases e : k < n
  · rw [if_pos e, if_pos e]
  · rw [if_neg e, if_neg e, if_pos (by omega)]
theorem dL_nx {n : Nat} : (∀ k, k < n → nx ⟨(dL n n).toArray⟩ k = 91) ∧ (∀ k, n ≤ k → k < 2 * n → nx ⟨(dL n n).toArray⟩ k = 93) ∧ (∀ k, k < n → nx ⟨((dL n n).take n).toArray⟩ k = 91) := by
  refine ⟨fun k hk => ?_, fun k h1 h2 => ?_, fun k hk => ?_⟩
  · rw [nx_list, dL_get (by omega), if_pos hk]; rfl
  · rw [nx_list, dL_get (by omega), if_neg (by omega)]; rfl
  · rw [nx_list, List.getElem?_take, if_pos hk, dL_get (by omega), if_pos hk]; rfl
theorem str_as {S : ByteArray} {n : Nat} (hn : 2 ≤ n) (h1 : ∀ k, 0 < k → k < n - 1 → nx S k = 97) (h2 : nx S (n - 1) = 34) (hs : S.size = n) :
    ∀ (q i : Nat) (o : ByteArray), i + q = n - 1 → 0 < i → ∃ T, strR S i o = .ok (T, n) ∧ T.size = o.size + q
  | 0, i, o, hi, h0 => by
    obtain rfl : i = n - 1 := by omega
    refine ⟨o, ?_, by omega⟩
    rw [strR_eq (by omega), h2, if_pos rfl, show n - 1 + 1 = n by omega]
  | q + 1, i, o, hi, h0 => by
    obtain ⟨T, e1, e2⟩ := str_as hn h1 h2 hs q (i + 1) (o.push (UInt8.ofNat 97)) (by omega) (by omega)
    refine ⟨T, ?_, ?_⟩
    · rw [strR_eq (by omega), h1 i h0 (by omega), if_neg (by decide), if_neg (by decide), if_neg (by omega)]
      exact e1
    · rw [e2, ByteArray.size_push]; omega
theorem sizes_ok {S : ByteArray} {n : Nat} (hn : 2 ≤ n) (h0 : nx S 0 = 34) (h1 : ∀ k, 0 < k → k < n - 1 → nx S k = 97) (h2 : nx S (n - 1) = 34) (hs : S.size = n) :
    if 65536 < n then (parseF S).2 = (2, 0) ∧ kD (parseF S).1 = 0 else (parseF S).2 = (0, 0) ∧ (sD (parseF S).1).size = n - 2 := by
  by_cases hb : 65536 < n
  · rw [if_pos hb]
    unfold parseF
    rw [if_pos (by omega)]
    exact ⟨rfl, rfl⟩
  · rw [if_neg hb]
    obtain ⟨T, e1, e2⟩ := str_as hn h1 h2 hs (n - 2) 1 ByteArray.empty (by omega) (by omega)
    have b0 : blk S 0 = 0 := blk_stay (by rw [h0]; rfl)
    have b1 : blk S n = n := blk_stay (by rw [nx_past (by omega)]; rfl)
    have hv : valF S (S.size + 1) 0 = .ok (leafD 4 0 T, n) := by
      rw [valF, h0]
      rw [if_neg (by decide), if_neg (by decide), if_neg (by decide), if_pos rfl]
      have e3 : strF S 0 = .ok (T, n) := by
        unfold strF
        have : wordF S [34] 0 = .ok 1 := by
          unfold wordF
          rw [h0, if_pos (by decide)]; rfl
        rw [this]
        exact e1
      rw [e3]
    have hc : cleanF (S.size + 1) 1 (leafD 4 0 T) = leafD 4 0 T := by rw [cleanF, if_neg (by omega)]; rfl
    have hz : checkD (leafD 4 0 T) = 0 := by kernel_rfl
    unfold parseF
    rw [if_neg (by omega), b0, hv]
    simp only
    rw [b1, if_neg (by omega), hc, if_pos hz]
    refine ⟨rfl, ?_⟩
    show T.size = _
    rw [e2]
    have : ByteArray.empty.size = 0 := rfl
    omega
/-- So many letters. -/
def aL (n i : Nat) : List UInt8 := (List.range n).map fun k => if k < i then 97 else 0
theorem aL_len (n i : Nat) : (aL n i).length = n := by unfold aL; simp
theorem aL_q {n i k : Nat} (h : k < n) : (aL n i)[k]? = some (if k < i then 97 else 0) := by
  unfold aL
  rw [List.getElem?_map, List.getElem?_range h]; rfl
theorem aL_zero (n : Nat) : aL n 0 = List.replicate n 0 := by
  apply List.ext_getElem?
  intro k
  by_cases hk : k < n
  · rw [aL_q hk, if_neg (by omega), List.getElem?_replicate, if_pos hk]
  · rw [List.getElem?_eq_none (by rw [aL_len]; omega), List.getElem?_eq_none (by simp; omega)]
theorem aL_step {n i : Nat} (h : i < n) : (aL n i).set i 97 = aL n (i + 1) := by
  apply List.ext_getElem?
  intro k
  rw [List.getElem?_set, aL_len]
  by_cases hk : k < n
  · rw [aL_q hk, aL_q hk]
    by_cases e : i = k
    · rw [if_pos e, if_pos h, if_pos (by omega)]
    · rw [if_neg e]
      by_cases e2 : k < i
      · rw [if_pos e2, if_pos (by omega)]
      · rw [if_neg e2, if_neg (by omega)]
  · rw [if_neg (by omega), List.getElem?_eq_none (by rw [aL_len]; omega), List.getElem?_eq_none (by rw [aL_len]; omega)]
def qL (n : Nat) : List UInt8 := ((aL n n).set 0 34).set (n - 1) 34
theorem qL_len (n : Nat) : (qL n).length = n := by unfold qL; rw [List.length_set, List.length_set, aL_len]
theorem qL_nx {n : Nat} (hn : 2 ≤ n) : nx ⟨(qL n).toArray⟩ 0 = 34 ∧ (∀ k, 0 < k → k < n - 1 → nx ⟨(qL n).toArray⟩ k = 97) ∧ nx ⟨(qL n).toArray⟩ (n - 1) = 34 := by
  have hq : ∀ k, k < n → (qL n)[k]? = some (if k = n - 1 ∨ k = 0 then 34 else 97) := fun k hk => by
    unfold qL
    rw [List.getElem?_set, List.getElem?_set, List.length_set, aL_len, aL_q hk, if_pos hk]
    by_cases e : n - 1 = k
    · rw [if_pos e, if_pos (by omega), if_pos (by omega)]
    · rw [if_neg e]
      by_cases e2 : 0 = k
      · rw [if_pos e2, if_pos (by omega), if_pos (by omega)]
      · rw [if_neg e2, if_neg (by omega)]
  refine ⟨?_, fun k h1 h2 => ?_, ?_⟩
  · rw [nx_list, hq 0 (by omega), if_pos (by omega)]; rfl
  · rw [nx_list, hq k (by omega), if_neg (by omega)]; rfl
  · rw [nx_list, hq (n - 1) (by omega), if_pos (by omega)]; rfl
end Go.Proofs.YtmmbbndoimleaaaDoor

/- The law of depth. -/
namespace Go.Proofs.YtmmbbndoimleaaaDoor
open Go.RowKit

/-- A row of bytes in a block of its own. -/
abbrev RowY (w : World) (g : Nat) (l : List UInt8) : Prop := Row w g 5 (byL l)
theorem RowY.made (w : World) (n : Nat) : RowY (w.alloc (.cells (madeCells #[.int .u8 0] n) 5)) w.heap.size (List.replicate n 0) := by
  have := Row.made w 5 (.int .u8 0) n
  have e : byL (List.replicate n 0) = List.replicate n (.int .u8 0) := by unfold byL; rw [List.map_replicate]; rfl
  unfold RowY; rw [e]; exact this
theorem RowY.put {w : World} {g : Nat} {l : List UInt8} (h : RowY w g l) (i : Nat) (b : UInt8) : RowY (w.setCell ⟨g, i, none⟩ (.int .u8 (b.toNat : Int))) g (l.set i b) := by
  have := Row.set_ h i (.int .u8 (b.toNat : Int))
  have e : byL (l.set i b) = (byL l).set i (.int .u8 (b.toNat : Int)) := by unfold byL; rw [List.map_set]
  unfold RowY; rw [e]; exact this
theorem RowY.at_ {w : World} {g : Nat} {l : List UInt8} (h : RowY w g l) {i : Nat} (hi : i < l.length) : w.cell? ⟨g, i, none⟩ = some (.int .u8 (l[i].toNat : Int)) := by
  have := Row.cell h i
  unfold byL at this
  rw [List.getElem?_map, List.getElem?_eq_getElem hi] at this
  exact this
theorem RowY.str {w : World} {g : Nat} {l : List UInt8} (h : RowY w g l) (n cap : Nat) (hn : n ≤ l.length) : (convert 23 9 (.slice (some ⟨g, 0, none⟩) n cap)).run Tryd.prog w = .ok (.string ⟨(l.take n).toArray⟩) w := by
  have hl : (l.take n).length = n := by rw [List.length_take]; omega
  have := run_convert_bytes_back (P := Tryd.prog) w 23 9 5 ⟨g, 0, none⟩ cap (l.take n) Tryd.underlying23 Tryd.underlying5 Tryd.underlying9 (fun j hj => by
    rw [add_head, h.at_ (i := j) (by omega), List.getElem_take])
  rw [hl] at this
  exact this
/-- What a law answers. -/
def JFine (w : World) (e : Ending) (w' : World) : Prop := e = .returned (.bool true) ∧ Below w.heap.size w w'

set_option maxRecDepth 20000 in
set_option maxHeartbeats 2000000 in
theorem Depth_law (n : Int) (w : World) (ht : Tab w) :
    Calls Tryd.prog 3 #[.int .i64 n] w (JFine w) := by
  have HE := hide fun W (h : Below w.heap.size w W) => jexample_run W (tab_below ht h)
  clear ht
  by_cases h1 : n < 1
  · go_enter Tryd.func3, Tryd.ntmps3
    go_wp2_with fail
    refine (HE.out _ (Below.refl _ _)).mono ?_; rintro e w1 ⟨rfl, hB1⟩
    go_wp2_with fail
    go_ret
    exact ⟨rfl, hB1⟩
  by_cases h2 : 3000 < n
  · go_enter Tryd.func3, Tryd.ntmps3
    go_wp2_with fail
    refine (HE.out _ (Below.refl _ _)).mono ?_; rintro e w1 ⟨rfl, hB1⟩
    go_wp2_with fail
    go_ret
    exact ⟨rfl, hB1⟩
  obtain ⟨N, rfl⟩ : ∃ N : Nat, n = N := ⟨n.toNat, by omega⟩
  have hN1 : 1 ≤ N := by omega
  have hN2 : N ≤ 3000 := by omega
  have hmk : ∀ W, (Instr.makeSlice 23 (.int .i64 (2 * (N : Int))) (.int .i64 (2 * (N : Int)))).run Tryd.prog W = .ok (.slice (some ⟨W.heap.size, 0, none⟩) (2 * N) (2 * N)) (W.alloc (.cells (madeCells #[.int .u8 0] (2 * N)) 5)) := fun W => by
    have := run_make_row' (P := Tryd.prog) 23 5 (.int .u8 0) 1 Tryd.underlying23 infoB rfl .i64 .i64 (2 * N) (by omega) (by omega) W
    rw [show ((2 * N : Nat) : Int) = 2 * (N : Int) by omega] at this
    exact this
  obtain ⟨g, hg⟩ : ∃ g, g = w.heap.size := ⟨_, rfl⟩
  have HG := Lib.hid hg
  go_enter Tryd.func3, Tryd.ntmps3
  go_upto_region 5 with fail
  obtain ⟨w1, hw1⟩ : ∃ x, x = w.alloc (.cells (madeCells #[.int .u8 0] (2 * N)) 5) := ⟨_, rfl⟩
  have HR0 := hide (show RowY w1 g (dL N 0) by rw [hg, hw1, dL_zero]; exact RowY.made w _)
  have HB0 := hide (show Below w.heap.size w w1 by rw [hw1]; exact below_al (Below.refl _ _) _)
  rw [← hw1, ← hg]
  clear hw1 hg hmk h1 h2
  go_loopw [4] (fun i wr => ∃ k : Nat, i = .int .i64 k ∧ k ≤ N ∧ Hid (RowY wr g (dL N k)) ∧ Hid (Below w.heap.size w wr)) (fun i _ => N - (intOf i).toNat)
  case atStart => exact ⟨0, rfl, by omega, HR0, HB0⟩
  case round =>
    clear HR0 HB0
    obtain ⟨k, rfl, hk, hR, hB⟩ := hrel
    by_cases hlt : k < N
    · have c1 := hR.out.at_ (i := k) (by rw [dL_len]; omega)
      have c2 := hR.out.at_ (i := N + k) (by rw [dL_len]; omega)
      have f1 : wr.frozen? ⟨g, k, none⟩ = false := Row.frozen hR.out k
      have f2 : wr.frozen? ⟨g, N + k, none⟩ = false := Row.frozen hR.out (N + k)
      go_wp2_with fail
      go_roundw
      case rel =>
        refine ⟨k + 1, by go_num, by omega, hide ?_, hide ((hB.out.setCell (by rw [HG.out]; exact Nat.le_refl _) _).setCell (by rw [HG.out]; exact Nat.le_refl _) _)⟩
        have := (hR.out.put k 91).put (N + k) 93
        rw [dL_step hlt] at this
        exact this
      case measure => simp [intOf]; omega
    · obtain rfl : N = k := by omega
      obtain ⟨S, hS⟩ : ∃ S : ByteArray, S = ⟨(dL N N).toArray⟩ := ⟨_, rfl⟩
      obtain ⟨S2, hS2⟩ : ∃ S : ByteArray, S = ⟨((dL N N).take N).toArray⟩ := ⟨_, rfl⟩
      have hcv := hR.out.str (2 * N) (2 * N) (by rw [dL_len]; exact Nat.le_refl _)
      rw [List.take_of_length_le (by rw [dL_len]; exact Nat.le_refl _), ← hS] at hcv
      have hs1 : S.size = 2 * N := by rw [hS, mk_size, dL_len]
      have hs2 : S2.size = N := by rw [hS2, mk_size, List.length_take, dL_len]; omega
      obtain ⟨d1, d2, d3⟩ := dL_nx (n := N)
      rw [← hS] at d1 d2
      rw [← hS2] at d3
      obtain ⟨q1, q2⟩ := depth_shut hN1 hN2 d1 d2 hs1
      have q3 := depth_open hN1 hN2 d3 hs2
      have HP1 := hide fun W => Parse_run S W
      have HP2 := hide fun W => Parse_run S2 W
      have HRY := hide fun W (h : Below wr.heap.size wr W) => (show RowY W g (dL N N) from Row.below hR.out h)
      have HCV := hide fun W (h : RowY W g (dL N N)) => (show (convert 23 9 (.slice (some ⟨g, 0, none⟩) N (2 * N))).run Tryd.prog W = .ok (.string S2) W by
        have := RowY.str h N (2 * N) (by rw [dL_len]; omega)
        rw [← hS2] at this; exact this)
      obtain ⟨p1, hp1⟩ : ∃ p, p = parseF S := ⟨_, rfl⟩
      obtain ⟨p2, hp2⟩ : ∃ p, p = parseF S2 := ⟨_, rfl⟩
      rw [← hp1] at HP1 q1 q2
      rw [← hp2] at HP2 q3
      obtain ⟨r1, f1⟩ := p1
      obtain ⟨r2, f2⟩ := p2
      unfold ParsePost datV datCs at HP1 HP2
      have q1 : f1 = _ := q1
      have q2 : kD r1 = _ := q2
      have q3 : f2 = _ := q3
      subst q1
      subst q3
      have HB := hide hB.out
      clear hB hR hS hS2 hp1 hp2 d1 d2 d3 hs1 hs2
      by_cases h16 : 16 < N
      · rw [if_pos h16] at HP1
        rw [if_pos h16] at q2
        simp only [q2] at HP1
        clear q2
        have g16 : (16 : Int) < (N : Int) := by omega
        go_wp2_with fail
        refine (HP1.out _).mono ?_; rintro e w2 ⟨a2, c2, a2', c2', rfl, hP2, hB2⟩
        have hRY2 := HRY.out w2 hB2
        have HB2 := hide (HB.out.trans (hB2.mono HB.out.size))
        clear hP2 hB2 hcv HB HRY HP1
        go_upto_region 9 with fail
        obtain ⟨w3, g3, f3, e1, e2, e3, hB3, hR3, hF3⟩ := boxDF w2 0 (nD r1) (sD r1) (.slice a2 (iD r1).length c2) (.slice a2' (mD r1).length c2') 9 0
        rw [e1, e2, show g3 + 1 = f3 by omega]
        have hRY3 : RowY w3 g (dL N N) := Row.below hRY2 hB3
        have hcv := HCV.out _ hRY3
        have HB3 := hide (HB2.out.trans (hB3.mono HB2.out.size))
        have HR3 := hide (And.intro hR3 hF3)
        clear e1 e2 e3 hB3 hR3 hF3 HB2 hRY2 hRY3 HCV
        go_wp2_with fail
        refine (HP2.out _).mono ?_; rintro e w4 ⟨a4, c4, a4', c4', rfl, hP4, hB4⟩
        have HR4 := hide (And.intro (HR3.out.1.below hB4) (HR3.out.2.below hB4))
        have HB4 := hide (HB3.out.trans (hB4.mono HB3.out.size))
        clear hP4 hB4 hcv HB3 HR3 HP2
        go_upto_region 10 with fail
        obtain ⟨w5, g5, f5, e1, e2, e3, hB5, hR5, hF5⟩ := boxDF w4 (kD r2) (nD r2) (sD r2) (.slice a4 (iD r2).length c4) (.slice a4' (mD r2).length c4') 19 N
        rw [e1, e2, show g5 + 1 = f5 by omega]
        have HB5 := hide (HB4.out.trans (hB5.mono HB4.out.size))
        have hRR := HR4.out.1.below hB5
        have hFF := HR4.out.2.below hB5
        obtain ⟨z0, z1, z2, z3, z4⟩ := row5 hRR
        have y0 : w5.cell? ⟨f3, 0, none⟩ = some (.int .i64 9) := hFF.cell 0
        have y1 : w5.cell? ⟨f3, 1, none⟩ = some (.int .i64 0) := hFF.cell 1
        have x0 : w5.cell? ⟨f5, 0, none⟩ = some (.int .i64 19) := hF5.cell 0
        have x1 : w5.cell? ⟨f5, 1, none⟩ = some (.int .i64 N) := hF5.cell 1
        have HX := hide (HE.out _ HB5.out)
        clear e1 e2 e3 hB5 hR5 hF5 HB4 HR4 hRR hFF HE
        go_wp2_with fail
        refine HX.out.mono ?_; rintro e w6 ⟨rfl, hB6⟩
        have HB6 := hide (HB5.out.trans (hB6.mono HB5.out.size))
        clear hB6
        go_wp2_with fail
        go_ret
        exact ⟨rfl, HB6.out⟩
      · rw [if_neg h16] at HP1
        rw [if_neg h16] at q2
        simp only [q2] at HP1
        clear q2
        have g16 : ¬ (16 : Int) < (N : Int) := by omega
        go_wp2_with fail
        refine (HP1.out _).mono ?_; rintro e w2 ⟨a2, c2, a2', c2', rfl, hP2, hB2⟩
        have hRY2 := HRY.out w2 hB2
        have HB2 := hide (HB.out.trans (hB2.mono HB.out.size))
        clear hP2 hB2 hcv HB HRY HP1
        go_upto_region 9 with fail
        obtain ⟨w3, g3, f3, e1, e2, e3, hB3, hR3, hF3⟩ := boxDF w2 5 (nD r1) (sD r1) (.slice a2 (iD r1).length c2) (.slice a2' (mD r1).length c2') 0 0
        rw [e1, e2, show g3 + 1 = f3 by omega]
        have hRY3 : RowY w3 g (dL N N) := Row.below hRY2 hB3
        have hcv := HCV.out _ hRY3
        have HB3 := hide (HB2.out.trans (hB3.mono HB2.out.size))
        have HR3 := hide (And.intro hR3 hF3)
        clear e1 e2 e3 hB3 hR3 hF3 HB2 hRY2 hRY3 HCV
        go_wp2_with fail
        refine (HP2.out _).mono ?_; rintro e w4 ⟨a4, c4, a4', c4', rfl, hP4, hB4⟩
        have HR4 := hide (And.intro (HR3.out.1.below hB4) (HR3.out.2.below hB4))
        have HB4 := hide (HB3.out.trans (hB4.mono HB3.out.size))
        clear hP4 hB4 hcv HB3 HR3 HP2
        go_upto_region 10 with fail
        obtain ⟨w5, g5, f5, e1, e2, e3, hB5, hR5, hF5⟩ := boxDF w4 (kD r2) (nD r2) (sD r2) (.slice a4 (iD r2).length c4) (.slice a4' (mD r2).length c4') 19 N
        rw [e1, e2, show g5 + 1 = f5 by omega]
        have HB5 := hide (HB4.out.trans (hB5.mono HB4.out.size))
        have hRR := HR4.out.1.below hB5
        have hFF := HR4.out.2.below hB5
        obtain ⟨z0, z1, z2, z3, z4⟩ := row5 hRR
        have y0 : w5.cell? ⟨f3, 0, none⟩ = some (.int .i64 0) := hFF.cell 0
        have y1 : w5.cell? ⟨f3, 1, none⟩ = some (.int .i64 0) := hFF.cell 1
        have x0 : w5.cell? ⟨f5, 0, none⟩ = some (.int .i64 19) := hF5.cell 0
        have x1 : w5.cell? ⟨f5, 1, none⟩ = some (.int .i64 N) := hF5.cell 1
        have HX := hide (HE.out _ HB5.out)
        clear e1 e2 e3 hB5 hR5 hF5 HB4 HR4 hRR hFF HE
        go_wp2_with fail
        refine HX.out.mono ?_; rintro e w6 ⟨rfl, hB6⟩
        have HB6 := hide (HB5.out.trans (hB6.mono HB5.out.size))
        clear hB6
        go_wp2_with fail
        go_ret
        exact ⟨rfl, HB6.out⟩
end Go.Proofs.YtmmbbndoimleaaaDoor

/- The law of sizes. -/
namespace Go.Proofs.YtmmbbndoimleaaaDoor
open Go.RowKit

set_option maxRecDepth 20000 in
set_option maxHeartbeats 2000000 in
theorem Sizes_law (n : Int) (w : World) (ht : Tab w) :
    Calls Tryd.prog 4 #[.int .i64 n] w (JFine w) := by
  have HE := hide fun W (h : Below w.heap.size w W) => jexample_run W (tab_below ht h)
  clear ht
  by_cases h1 : n < 65531
  · go_enter Tryd.func4, Tryd.ntmps4
    go_wp2_with fail
    refine (HE.out _ (Below.refl _ _)).mono ?_; rintro e w1 ⟨rfl, hB1⟩
    go_wp2_with fail
    go_ret
    exact ⟨rfl, hB1⟩
  by_cases h2 : 65541 < n
  · go_enter Tryd.func4, Tryd.ntmps4
    go_wp2_with fail
    refine (HE.out _ (Below.refl _ _)).mono ?_; rintro e w1 ⟨rfl, hB1⟩
    go_wp2_with fail
    go_ret
    exact ⟨rfl, hB1⟩
  obtain ⟨N, rfl⟩ : ∃ N : Nat, n = N := ⟨n.toNat, by omega⟩
  have hN1 : 65531 ≤ N := by omega
  have hN2 : N ≤ 65541 := by omega
  have hmk := fun W => run_make_row' (P := Tryd.prog) 23 5 (.int .u8 0) 1 Tryd.underlying23 infoB rfl .i64 .i64 N (by omega) (by omega) W
  obtain ⟨g, hg⟩ : ∃ g, g = w.heap.size := ⟨_, rfl⟩
  have HG := Lib.hid hg
  go_enter Tryd.func4, Tryd.ntmps4
  go_upto_region 5 with fail
  obtain ⟨w1, hw1⟩ : ∃ x, x = w.alloc (.cells (madeCells #[.int .u8 0] N) 5) := ⟨_, rfl⟩
  have HR0 := hide (show RowY w1 g (aL N 0) by rw [hg, hw1, aL_zero]; exact RowY.made w _)
  have HB0 := hide (show Below w.heap.size w w1 by rw [hw1]; exact below_al (Below.refl _ _) _)
  rw [← hw1, ← hg]
  clear hw1 hg hmk h1 h2
  go_loopw [4] (fun i wr => ∃ k : Nat, i = .int .i64 k ∧ k ≤ N ∧ Hid (RowY wr g (aL N k)) ∧ Hid (Below w.heap.size w wr)) (fun i _ => N - (intOf i).toNat)
  case atStart => exact ⟨0, rfl, by omega, HR0, HB0⟩
  case round =>
    clear HR0 HB0
    obtain ⟨k, rfl, hk, hR, hB⟩ := hrel
    by_cases hlt : k < N
    · have c1 := hR.out.at_ (i := k) (by rw [aL_len]; omega)
      have f1 : wr.frozen? ⟨g, k, none⟩ = false := Row.frozen hR.out k
      go_wp2_with fail
      go_roundw
      case rel =>
        refine ⟨k + 1, by go_num, by omega, hide ?_, hide (hB.out.setCell (by rw [HG.out]; exact Nat.le_refl _) _)⟩
        have := hR.out.put k 97
        rw [aL_step hlt] at this
        exact this
      case measure => simp [intOf]; omega
    · obtain rfl : N = k := by omega
      obtain ⟨M, hM⟩ : ∃ M, N = M + 1 := ⟨N - 1, by omega⟩
      have c1 := hR.out.at_ (i := 0) (by rw [aL_len]; omega)
      have c2 := hR.out.at_ (i := M) (by rw [aL_len]; omega)
      have f1 : wr.frozen? ⟨g, 0, none⟩ = false := Row.frozen hR.out 0
      have f2 : wr.frozen? ⟨g, M, none⟩ = false := Row.frozen hR.out M
      have hM1 : (N : Int) - 1 = (M : Int) := by omega
      have hMlt : M < N := by omega
      have hwr : IntKind.i64.wrap ((N : Int) - 1) = (M : Int) := by rw [IntWalk.i64_in _ (by omega)]; exact hM1
      go_upto_region 9 with fail
      obtain ⟨wb, hwb⟩ : ∃ W, W = (wr.setCell ⟨g, 0, none⟩ (Value.int .u8 34)).setCell ⟨g, M, none⟩ (Value.int .u8 34) := ⟨_, rfl⟩
      have hRb : RowY wb g (qL N) := by
        have := (hR.out.put 0 34).put M 34
        rw [hwb]
        unfold qL
        rw [show N - 1 = M by omega]
        exact this
      have HB := hide (show Below w.heap.size w wb by rw [hwb]; exact (hB.out.setCell (p := ⟨g, 0, none⟩) (by rw [HG.out]; exact Nat.le_refl _) _).setCell (p := ⟨g, M, none⟩) (by rw [HG.out]; exact Nat.le_refl _) _)
      rw [← hwb]
      clear hwb c1 c2 f1 f2 hB hR
      obtain ⟨S, hS⟩ : ∃ S : ByteArray, S = ⟨(qL N).toArray⟩ := ⟨_, rfl⟩
      have hcv := hRb.str N N (by rw [qL_len]; exact Nat.le_refl _)
      rw [List.take_of_length_le (by rw [qL_len]; exact Nat.le_refl _), ← hS] at hcv
      have hs1 : S.size = N := by rw [hS, mk_size, qL_len]
      obtain ⟨d1, d2, d3⟩ := qL_nx (n := N) (by omega)
      rw [← hS] at d1 d2 d3
      have hlaw := sizes_ok (by omega) d1 d2 d3 hs1
      have HP1 := hide fun W => Parse_run S W
      obtain ⟨p1, hp1⟩ : ∃ p, p = parseF S := ⟨_, rfl⟩
      rw [← hp1] at HP1 hlaw
      obtain ⟨r1, f1⟩ := p1
      unfold ParsePost datV datCs at HP1
      clear hS hp1 d1 d2 d3 hs1 hRb
      by_cases hb : 65536 < N
      · rw [if_pos hb] at hlaw
        obtain ⟨q1, q2⟩ := hlaw
        have q1 : f1 = _ := q1
        have q2 : kD r1 = _ := q2
        subst q1
        simp only [q2] at HP1
        have g16 : (65536 : Int) < (N : Int) := by omega
        clear hb hM hM1 hwr hMlt
        go_wp2_with fail
        refine (HP1.out _).mono ?_; rintro e w2 ⟨a2, c2, a2', c2', rfl, hP2, hB2⟩
        have HB2 := hide (HB.out.trans (hB2.mono HB.out.size))
        clear hP2 hB2 hcv HB HP1
        go_upto_region 10 with fail
        obtain ⟨w3, g3, f3, e1, e2, e3, hB3, hR3, hF3⟩ := boxDF w2 0 (nD r1) (sD r1) (.slice a2 (iD r1).length c2) (.slice a2' (mD r1).length c2') 2 0
        rw [e1, e2, show g3 + 1 = f3 by omega]
        have HB3 := hide (HB2.out.trans (hB3.mono HB2.out.size))
        obtain ⟨z0, z1, z2, z3, z4⟩ := row5 hR3
        have y0 : w3.cell? ⟨f3, 0, none⟩ = some (.int .i64 2) := hF3.cell 0
        have y1 : w3.cell? ⟨f3, 1, none⟩ = some (.int .i64 0) := hF3.cell 1
        have HX := hide (HE.out _ HB3.out)
        clear e1 e2 e3 hB3 hR3 hF3 HB2 HE
        go_wp2_with fail
        refine HX.out.mono ?_; rintro e w6 ⟨rfl, hB6⟩
        have HB6 := hide (HB3.out.trans (hB6.mono HB3.out.size))
        clear hB6
        go_wp2_with fail
        go_ret
        exact ⟨rfl, HB6.out⟩
      · rw [if_neg hb] at hlaw
        obtain ⟨q1, q2⟩ := hlaw
        have q1 : f1 = _ := q1
        have q2 : (sD r1).size = _ := q2
        subst q1
        obtain ⟨T, hT⟩ : ∃ T, T = sD r1 := ⟨_, rfl⟩
        rw [← hT] at HP1 q2
        have g16 : ¬ (65536 : Int) < (N : Int) := by omega
        have hw2 : IntKind.i64.wrap ((N : Int) - 2) = (T.size : Int) := by rw [IntWalk.i64_in _ (by omega)]; omega
        clear hT q2
        clear hb hM hM1 hwr hMlt
        go_wp2_with fail
        refine (HP1.out _).mono ?_; rintro e w2 ⟨a2, c2, a2', c2', rfl, hP2, hB2⟩
        have HB2 := hide (HB.out.trans (hB2.mono HB.out.size))
        clear hP2 hB2 hcv HB HP1
        go_upto_region 10 with fail
        obtain ⟨w3, g3, f3, e1, e2, e3, hB3, hR3, hF3⟩ := boxDF w2 (kD r1) (nD r1) T (.slice a2 (iD r1).length c2) (.slice a2' (mD r1).length c2') 0 0
        rw [e1, e2, show g3 + 1 = f3 by omega]
        have HB3 := hide (HB2.out.trans (hB3.mono HB2.out.size))
        obtain ⟨z0, z1, z2, z3, z4⟩ := row5 hR3
        have y0 : w3.cell? ⟨f3, 0, none⟩ = some (.int .i64 0) := hF3.cell 0
        have y1 : w3.cell? ⟨f3, 1, none⟩ = some (.int .i64 0) := hF3.cell 1
        have HX := hide (HE.out _ HB3.out)
        clear e1 e2 e3 hB3 hR3 hF3 HB2 HE
        go_wp2_with fail
        refine HX.out.mono ?_; rintro e w6 ⟨rfl, hB6⟩
        have HB6 := hide (HB3.out.trans (hB6.mono HB3.out.size))
        clear hB6
        go_wp2_with fail
        go_ret
        exact ⟨rfl, HB6.out⟩
end Go.Proofs.YtmmbbndoimleaaaDoor
