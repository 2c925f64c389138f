/- The law of Text. -/
import Derived.Test.YtajpgmacabeeeaaDoorGL
import Derived.Test.YtajpgmacabeeeaaDoorGR
import Derived.Test.YtajpgmacabeeeaaDoorGF

/- The law of Text. -/
namespace Go.Proofs.YtajpgmacabeeeaaDoor
open Go.RowKit

theorem sumN_sumL {α : Type} (f : α → Nat) (g : Dt → Int) (k : α → Dt) : ∀ (l : List α), (∀ x ∈ l, (f x : Int) ≤ 710 * g (k x)) → (sumN f l : Int) ≤ 710 * sumL g (l.map k)
  | [], _ => by simp [sumN, sumL]
  | x :: l, h => by
    have h1 := h x (List.mem_cons_self ..)
    have h2 := sumN_sumL f g k l (fun y hy => h y (List.mem_cons_of_mem _ hy))
    rw [sumN, List.map_cons, sumL]; omega
theorem sumL_app (g : Dt → Int) : ∀ (l k : List Dt), sumL g (l ++ k) = sumL g l + sumL g k
  | [], k => by simp [sumL]
  | x :: l, k => by rw [List.cons_append, sumL, sumL, sumL_app g l k]; omega
theorem tb_small {w : World} {B : Nat} : ∀ (m : Nat) {d : Dt} {A c A' c'}, Parts w B m d A c A' c' → shortF m d = true → (tbF m d : Int) + 330 ≤ 710 * partsF m d
  | 0, _, _, _, _, _, hp, _ => hp.elim
  | m + 1, d, A, c, A', c', hp, h => by
    unfold shortF at h
    rw [Bool.and_eq_true, Bool.and_eq_true, List.all_eq_true, List.all_eq_true] at h
    obtain ⟨hs, hi, hm⟩ := h
    have hs' : (sD d).size ≤ 80 := by simpa using hs
    have h1 := sumN_sumL (tbF m) (partsF m) id (iD d) fun x hx => by
      obtain ⟨a, q, a', q', hq⟩ := parts_kid hp (is_kid hx)
      have := tb_small m hq (hi x hx)
      simp only [id]; omega
    have h2 := sumN_sumL (fun x : ByteArray × Dt => 10 + 4 * x.1.size + tbF m x.2) (partsF m) Prod.snd (mD d) fun x hx => by
      obtain ⟨a, q, a', q', hq⟩ := parts_kid hp (ms_kid hx)
      have h3 := hm x hx
      unfold shortM at h3
      rw [Bool.and_eq_true] at h3
      have := tb_small m hq h3.2
      have h4 : x.1.size ≤ 80 := by simpa using h3.1
      omega
    have e : partsF (m + 1) d = 1 + (sumL (partsF m) (iD d) + sumL (partsF m) ((mD d).map Prod.snd)) := by
      show 1 + sumL (partsF m) (kids d) = _
      unfold kids; rw [sumL_app]
    have e2 : tbF (m + 1) d = 60 + 4 * (sD d).size + sumN (tbF m) (iD d) + sumN (fun x : ByteArray × Dt => 10 + 4 * x.1.size + tbF m x.2) (mD d) := rfl
    rw [List.map_id] at h1
    rw [e, e2]; omega
theorem small_tb {w : World} {B m : Nat} {d : Dt} {A c A' c'} (hp : Parts w B m d A c A' c') (h : smallF m d = true) : tbF m d ≤ 1000000000 := by
  have h1 := small_parts hp h
  unfold smallF at h
  rw [Bool.and_eq_true] at h
  have h2 := tb_small m hp h.2
  omega

set_option maxRecDepth 20000 in
set_option maxHeartbeats 1000000 in
theorem Texts_run (m : Nat) (d : Dt) (A : Option Addr) (c : Nat) (A' : Option Addr) (c' : Nat) (w : World) (hp : Parts w w.heap.size m d A c A' c') (ht : Tab w) :
    Calls Tryd.prog 9 #[datV d A c A' c'] w (Fine w) := by
  have HS := hide fun w' (hB : Below w.heap.size w w') => Small_run m d A c A' c' w' (hp.turn (Same.of_below hB) hB.size)
  have HA := hide fun w' (hB : Below w.heap.size w w') => awake_run w' (tab_below ht hB)
  have HC := hide fun (h : smallF m d = true) w' (hB : Below w.heap.size w w') => And.intro (Text_run m d A c A' c' w' (hp.turn (Same.of_below hB) hB.size) (fit_of_parts m 16 hp (by have := small_parts hp h; omega)) (small_tb hp h) (tab_below ht hB)) (refText_run m d A c A' c' w' (hp.turn (Same.of_below hB) hB.size) (small_tb hp h))
  obtain ⟨z, hz⟩ : ∃ z, z = checkD d := ⟨_, rfl⟩
  obtain ⟨T, hT⟩ : ∃ z, z = textD m d := ⟨_, rfl⟩
  obtain ⟨b, hb⟩ : ∃ b, b = smallF m d := ⟨_, rfl⟩
  rw [← hz, ← hT] at HC
  rw [← hb] at HC HS
  unfold datV datCs at HS HC
  unfold datV datCs
  obtain ⟨k, hk⟩ : ∃ k, k = kD d := ⟨_, rfl⟩
  obtain ⟨n, hn⟩ : ∃ k, k = nD d := ⟨_, rfl⟩
  obtain ⟨s, hs⟩ : ∃ k, k = sD d := ⟨_, rfl⟩
  obtain ⟨x, hx⟩ : ∃ k, k = (iD d).length := ⟨_, rfl⟩
  obtain ⟨y, hy⟩ : ∃ k, k = (mD d).length := ⟨_, rfl⟩
  rw [← hk, ← hn, ← hs, ← hx, ← hy] at HS HC ⊢
  clear hp hz hT hb hk hn hs hx hy ht
  go_enter Tryd.func9, Tryd.ntmps9
  go_upto_region 1 with fail
  obtain ⟨w1, g, e1, e2, hBL, c0, c1, c2, c3, c4, hROW⟩ := boxD w k n s (.slice A x c) (.slice A' y c')
  rw [e1, e2]
  have HBL := hide hBL; have HROW := hide hROW
  clear e1 e2 hBL hROW
  go_wp2_with fail
  refine (HS.out _ HBL.out).mono ?_; rintro e w2 ⟨rfl, hB2⟩
  have HB2 := hide (HBL.out.trans (hB2.mono HBL.out.size))
  have HR2 := hide (HROW.out.below hB2)
  clear c0 c1 c2 c3 c4 hB2 HROW HS HBL
  cases b with
  | false =>
    go_wp2_with fail
    refine (HA.out _ HB2.out).mono ?_; rintro e w3 ⟨rfl, hB3⟩
    have HB3 := hide (HB2.out.trans (hB3.mono HB2.out.size))
    clear hB3
    go_wp2_with fail
    go_ret
    exact ⟨rfl, HB3.out⟩
  | true =>
    have HC1 := hide (HC.out rfl)
    clear HC
    obtain ⟨c0, c1, c2, c3, c4⟩ := row5 HR2.out
    go_wp2_with fail
    refine (HC1.out _ HB2.out).1.mono ?_; rintro e w3 ⟨rfl, hB3⟩
    have HB3 := hide (HB2.out.trans (hB3.mono HB2.out.size))
    have HR3 := hide (HR2.out.below hB3)
    clear hB3 c0 c1 c2 c3 c4 HR2 HB2
    obtain ⟨c0, c1, c2, c3, c4⟩ := row5 HR3.out
    go_wp2_with fail
    refine (HC1.out _ HB3.out).2.mono ?_; rintro e w4 ⟨rfl, hB4⟩
    have HB4 := hide (HB3.out.trans (hB4.mono HB3.out.size))
    clear hB4 c0 c1 c2 c3 c4 HR3 HB3 HC1
    have g0 : (T.toList == T.toList) = true := by simp
    have g1 : (z == z) = true := by simp
    go_wp2_with fail
    refine (HA.out _ HB4.out).mono ?_; rintro e w5 ⟨rfl, hB5⟩
    have HB5 := hide (HB4.out.trans (hB5.mono HB4.out.size))
    clear hB5
    go_wp2_with fail
    go_ret
    exact ⟨rfl, HB5.out⟩
end Go.Proofs.YtajpgmacabeeeaaDoor
