/- The order of data is antisymmetric and transitive: plain; The law of three pieces of data: the order is antisymmetric and transitive. -/
import Derived.Test.YtajpgmacabeeeaaDoorGC
import Derived.Test.YtajpgmacabeeeaaDoorGG
import Derived.Test.YtajpgmacabeeeaaDoorGN

/- The order of data is antisymmetric and transitive: plain. -/
namespace Go.Proofs.YtajpgmacabeeeaaDoor
open Go.RowKit

/-- A comparison by three results that is antisymmetric and transitive. -/
structure O3 {α : Type} (f : α → α → Int) : Prop where
  rng : ∀ a b, -1 ≤ f a b ∧ f a b ≤ 1
  anti : ∀ a b, f b a = - f a b
  trans : ∀ a b c, f a b ≤ 0 → f b c ≤ 0 → f a c ≤ 0 ∧ (f a c = 0 → f a b = 0 ∧ f b c = 0)
theorem O3.refl {α : Type} {f : α → α → Int} (h : O3 f) (a : α) : f a a = 0 := by have := h.anti a a; omega
theorem O3.eq_trans {α : Type} {f : α → α → Int} (h : O3 f) {a b c : α} (h1 : f a b = 0) (h2 : f b c = 0) : f a c = 0 := by
  have t1 := (h.trans a b c (by omega) (by omega)).1
  have t2 := (h.trans c b a (by have := h.anti b c; omega) (by have := h.anti a b; omega)).1
  have := h.anti a c
  omega
theorem O3.zero {α : Type} : O3 (fun _ _ : α => (0 : Int)) := ⟨fun _ _ => by omega, fun _ _ => by omega, fun _ _ _ _ _ => by simp⟩
theorem O3.pull {α β : Type} {f : β → β → Int} (h : O3 f) (g : α → β) : O3 (fun a b => f (g a) (g b)) := ⟨fun _ _ => h.rng _ _, fun _ _ => h.anti _ _, fun _ _ _ => h.trans _ _ _⟩
theorem O3.lex {α : Type} {f g : α → α → Int} (h : O3 f) (h' : O3 g) : O3 (fun a b => orI (f a b) (g a b)) := by
  refine ⟨fun a b => ?_, fun a b => ?_, fun a b c h1 h2 => ?_⟩
  · unfold orI; have := h.rng a b; have := h'.rng a b; split <;> omega
  · have e1 := h.anti a b; have e2 := h'.anti a b
    unfold orI; split <;> split <;> omega
  · have t1 := h.trans a b c
    have t2 := h'.trans a b c
    have r0 := fun h1 h2 => h.eq_trans (a := a) (b := b) (c := c) h1 h2
    unfold orI at h1 h2 ⊢
    have f1 : f a b ≤ 0 := by split at h1 <;> omega
    have f2 : f b c ≤ 0 := by split at h2 <;> omega
    obtain ⟨f3, f4⟩ := t1 f1 f2
    by_cases hz : f a c = 0
    · obtain ⟨z1, z2⟩ := f4 hz
      rw [z1] at h1
      rw [z2] at h2
      simp at h1 h2
      obtain ⟨g3, g4⟩ := t2 h1 h2
      rw [hz, z1, z2]
      simp
      exact ⟨g3, g4⟩
    · simp [hz]
      exact f3
theorem O3.list {α : Type} {f : α → α → Int} (h : O3 f) : O3 (cmpL f) := by
  refine ⟨fun a => ?_, fun a => ?_, fun a => ?_⟩
  · induction a with
    | nil => intro b; cases b <;> simp [cmpL]
    | cons x a ih =>
      intro b
      cases b with
      | nil => simp [cmpL]
      | cons y b =>
        unfold cmpL
        have := h.rng x y
        split
        · exact ih b
        · exact this
  · induction a with
    | nil => intro b; cases b <;> simp [cmpL]
    | cons x a ih =>
      intro b
      cases b with
      | nil => simp [cmpL]
      | cons y b =>
        unfold cmpL
        have e := h.anti x y
        have e2 := ih b
        by_cases hz : f x y = 0
        · rw [if_pos hz, if_pos (by omega)]; exact e2
        · rw [if_neg hz, if_neg (by omega)]; exact e
  · induction a with
    | nil => intro b c; cases b <;> cases c <;> simp [cmpL]
    | cons x a ih =>
      intro b c
      cases b with
      | nil => intro h1; simp [cmpL] at h1
      | cons y b =>
        cases c with
        | nil => intro _ h2; simp [cmpL] at h2
        | cons z c =>
          intro h1 h2
          unfold cmpL at h1 h2 ⊢
          have t := h.trans x y z
          have t2 := ih b c
          have f1 : f x y ≤ 0 := by split at h1 <;> omega
          have f2 : f y z ≤ 0 := by split at h2 <;> omega
          obtain ⟨f3, f4⟩ := t f1 f2
          by_cases hz : f x z = 0
          · obtain ⟨z1, z2⟩ := f4 hz
            rw [if_pos z1] at h1
            rw [if_pos z2] at h2
            rw [if_pos hz, if_pos z1, if_pos z2]
            exact t2 h1 h2
          · rw [if_neg hz]
            exact ⟨f3, fun e => absurd e hz⟩
theorem O3.int : O3 cmpI := by
  refine ⟨fun a b => ?_, fun a b => ?_, fun a b c h1 h2 => ?_⟩
  · unfold cmpI; split <;> (try split) <;> omega
  · unfold cmpI; split <;> (try split) <;> (try split) <;> (try split) <;> omega
  · have e1 : a ≤ b := by unfold cmpI at h1; split at h1 <;> (try split at h1) <;> omega
    have e2 : b ≤ c := by unfold cmpI at h2; split at h2 <;> (try split at h2) <;> omega
    unfold cmpI
    constructor
    · split <;> (try split) <;> omega
    · intro hz
      have : a = c := by split at hz <;> (try split at hz) <;> omega
      have e3 : a = b := by omega
      subst e3 this
      simp
theorem cmpS_cases (a b : ByteArray) : (ltB a b = true ∧ ltB b a = false ∧ cmpS a b = -1) ∨ (ltB a b = false ∧ ltB b a = true ∧ cmpS a b = 1) ∨ (a = b ∧ ltB a b = false ∧ cmpS a b = 0) := by
  by_cases h : ltB a b = true
  · exact .inl ⟨h, bl_asymm _ _ h, if_pos h⟩
  · have h' : ltB a b = false := by simpa using h
    have e : cmpS a b = if gtB a b = true then 1 else 0 := if_neg h
    by_cases hab : a = b
    · subst hab
      refine .inr (.inr ⟨rfl, h', ?_⟩)
      rw [e]; unfold gtB; simp
    · have hg : gtB a b = true := by
        unfold gtB
        have h1 : Op.bytesLess a.toList b.toList = false := h'
        rw [h1, Bool.false_or, Bool.not_eq_true', beq_eq_false_iff_ne]
        intro e2
        rw [ba_toList, ba_toList] at e2
        refine hab ?_
        cases a; cases b
        simp at e2
        exact congrArg _ e2
      refine .inr (.inl ⟨h', ?_, by rw [e, if_pos hg]⟩)
      rcases Bool.eq_false_or_eq_true (ltB b a) with h2 | h2
      · exact h2
      · exact absurd (ltB_antisymm h' h2) hab
theorem cmpS_le {a b : ByteArray} (h : cmpS a b ≤ 0) : ltB b a = false := by
  rcases cmpS_cases a b with ⟨_, h2, _⟩ | ⟨_, _, h3⟩ | ⟨rfl, h2, _⟩
  · exact h2
  · omega
  · exact h2
theorem O3.str : O3 cmpS := by
  refine ⟨fun a b => ?_, fun a b => ?_, fun a b c h1 h2 => ?_⟩
  · rcases cmpS_cases a b with ⟨_, _, h⟩ | ⟨_, _, h⟩ | ⟨_, _, h⟩ <;> rw [h] <;> omega
  · rcases cmpS_cases a b with ⟨u, v, h⟩ | ⟨u, v, h⟩ | ⟨rfl, v, h⟩
    · rcases cmpS_cases b a with ⟨u', v', h'⟩ | ⟨u', v', h'⟩ | ⟨e', v', h'⟩
      · rw [u'] at v; cases v
      · rw [h, h']; rfl
      · subst e'; rw [u] at v'; cases v'
    · rcases cmpS_cases b a with ⟨u', v', h'⟩ | ⟨u', v', h'⟩ | ⟨e', v', h'⟩
      · rw [h, h']
      · rw [v'] at u; cases u
      · subst e'; rw [v] at v'; cases v'
    · rw [h]; rfl
  · have l1 := cmpS_le h1
    have l2 := cmpS_le h2
    have l3 : ltB c a = false := bl_trans _ _ _ l1 l2
    rcases cmpS_cases a c with ⟨u, v, h⟩ | ⟨u, v, h⟩ | ⟨rfl, v, h⟩
    · rw [h]; exact ⟨by omega, fun e => by omega⟩
    · rw [v] at l3; cases l3
    · have : a = b := ltB_antisymm l2 l1
      subst this
      rw [h]; simp
theorem compF_ord : ∀ m : Nat, O3 (compF m)
  | 0 => O3.zero
  | m + 1 => by
    have ih := compF_ord m
    have hM : O3 (compM (compF m)) := (O3.str.pull Prod.fst).lex (ih.pull Prod.snd)
    have h1 := (O3.int.pull nD).lex (O3.str.pull sD)
    have h2 := (ih.list.pull iD).lex (hM.list.pull mD)
    have h3 := (O3.int.pull kD).lex (h1.lex h2)
    have e : compF (m + 1) = fun a b => orI (cmpI (kD a) (kD b)) (orI (orI (cmpI (nD a) (nD b)) (cmpS (sD a) (sD b))) (orI (cmpL (compF m) (iD a) (iD b)) (cmpL (compM (compF m)) (mD a) (mD b)))) := by
      funext a b
      show (if kD a = kD b then _ else _) = _
      by_cases hk : kD a = kD b
      · rw [if_pos hk, show cmpI (kD a) (kD b) = 0 by rw [hk]; unfold cmpI; simp]
        unfold orI
        rw [if_pos rfl]
      · rw [if_neg hk]
        have : cmpI (kD a) (kD b) ≠ 0 := by unfold cmpI; split <;> (try split) <;> omega
        show _ = if cmpI (kD a) (kD b) = 0 then _ else _
        rw [if_neg this]
    rw [e]; exact h3
end Go.Proofs.YtajpgmacabeeeaaDoor

/- The law of three pieces of data: the order is antisymmetric and transitive. -/
namespace Go.Proofs.YtajpgmacabeeeaaDoor
open Go.RowKit

theorem compareD_ok {m : Nat} {d e : Dt} (h : checkD d = 0) (h' : checkD e = 0) : compareD m d e = compF m d e := by unfold compareD; rw [if_pos h, if_pos h']
theorem equalD_ok {m : Nat} {d e : Dt} (h : checkD d = 0) (h' : checkD e = 0) : equalD m d e = (compF m d e == 0) := by unfold equalD; rw [h, h']; simp

set_option maxRecDepth 20000 in
set_option maxHeartbeats 4000000 in
theorem Orders_run (m : Nat) (d : Dt) (A : Option Addr) (c : Nat) (A' : Option Addr) (c' : Nat) (e : Dt) (E : Option Addr) (f : Nat) (E' : Option Addr) (f' : Nat) (h : Dt) (G : Option Addr) (q : Nat) (G' : Option Addr) (q' : Nat) (w : World)
    (hp : Parts w w.heap.size m d A c A' c') (hp2 : Parts w w.heap.size m e E f E' f') (hp3 : Parts w w.heap.size m h G q G' q') (ht : Tab w) :
    Calls Tryd.prog 10 #[datV d A c A' c', datV e E f E' f', datV h G q G' q'] w (Fine w) := by
  have HS := hide fun w' (hB : Below w.heap.size w w') => And.intro (Small_run m d A c A' c' w' (hp.turn (Same.of_below hB) hB.size)) (And.intro (Small_run m e E f E' f' w' (hp2.turn (Same.of_below hB) hB.size)) (Small_run m h G q G' q' w' (hp3.turn (Same.of_below hB) hB.size)))
  have HA := hide fun w' (hB : Below w.heap.size w w') => awake_run w' (tab_below ht hB)
  have HK := hide fun (h1 : smallF m d = true) (h2 : smallF m e = true) (h3 : smallF m h = true) w' (hB : Below w.heap.size w w') =>
    And.intro (Check_run m d A c A' c' w' (hp.turn (Same.of_below hB) hB.size) (fit_of_parts m 16 hp (by have := small_parts hp h1; omega)))
      (And.intro (Check_run m e E f E' f' w' (hp2.turn (Same.of_below hB) hB.size) (fit_of_parts m 16 hp2 (by have := small_parts hp2 h2; omega)))
        (Check_run m h G q G' q' w' (hp3.turn (Same.of_below hB) hB.size) (fit_of_parts m 16 hp3 (by have := small_parts hp3 h3; omega))))
  have HC := hide fun (h1 : smallF m d = true) (h2 : smallF m e = true) (h3 : smallF m h = true) (k1 : checkD d = 0) (k2 : checkD e = 0) (k3 : checkD h = 0) =>
    have f1 := fit_of_parts m 16 hp (by have := small_parts hp h1; omega)
    have f2 := fit_of_parts m 16 hp2 (by have := small_parts hp2 h2; omega)
    have f3 := fit_of_parts m 16 hp3 (by have := small_parts hp3 h3; omega)
    show ∃ X Y Z : Int, (-1 ≤ X ∧ X ≤ 1) ∧ (X ≤ 0 → Y ≤ 0 → Z ≤ 0 ∧ (Z = 0 → X = 0 ∧ Y = 0) ∧ (X = 0 → Y = 0 → Z = 0)) ∧ ∀ w' (hB : Below w.heap.size w w'),
        (Calls Tryd.prog 24 #[datV d A c A' c', datV e E f E' f'] w' fun r w'' => r = .returned (.int .i64 X) ∧ Below w'.heap.size w' w'') ∧
        (Calls Tryd.prog 24 #[datV e E f E' f', datV h G q G' q'] w' fun r w'' => r = .returned (.int .i64 Y) ∧ Below w'.heap.size w' w'') ∧
        (Calls Tryd.prog 24 #[datV d A c A' c', datV h G q G' q'] w' fun r w'' => r = .returned (.int .i64 Z) ∧ Below w'.heap.size w' w'') ∧
        (Calls Tryd.prog 24 #[datV e E f E' f', datV d A c A' c'] w' fun r w'' => r = .returned (.int .i64 (-X)) ∧ Below w'.heap.size w' w'') ∧
        (Calls Tryd.prog 24 #[datV d A c A' c', datV d A c A' c'] w' fun r w'' => r = .returned (.int .i64 0) ∧ Below w'.heap.size w' w'') ∧
        (Calls Tryd.prog 26 #[datV d A c A' c', datV d A c A' c'] w' fun r w'' => r = .returned (.bool true) ∧ Below w'.heap.size w' w'') ∧
        (Calls Tryd.prog 26 #[datV d A c A' c', datV e E f E' f'] w' fun r w'' => r = .returned (.bool (X == 0)) ∧ Below w'.heap.size w' w'') from
    have o := compF_ord m
    ⟨compF m d e, compF m e h, compF m d h, o.rng d e, fun a b => ⟨(o.trans d e h a b).1, (o.trans d e h a b).2, fun a b => o.eq_trans a b⟩, fun w' hB =>
      have p1 := hp.turn (Same.of_below hB) hB.size
      have p2 := hp2.turn (Same.of_below hB) hB.size
      have p3 := hp3.turn (Same.of_below hB) hB.size
      ⟨by have := Compare_run m d A c A' c' e E f E' f' w' p1 p2 f1 f2; rwa [compareD_ok k1 k2] at this,
       by have := Compare_run m e E f E' f' h G q G' q' w' p2 p3 f2 f3; rwa [compareD_ok k2 k3] at this,
       by have := Compare_run m d A c A' c' h G q G' q' w' p1 p3 f1 f3; rwa [compareD_ok k1 k3] at this,
       by have := Compare_run m e E f E' f' d A c A' c' w' p2 p1 f2 f1; rwa [compareD_ok k2 k1, o.anti d e] at this,
       by have := Compare_run m d A c A' c' d A c A' c' w' p1 p1 f1 f1; rwa [compareD_ok k1 k1, o.refl d] at this,
       by have := Equal_run m d A c A' c' d A c A' c' w' p1 p1 f1 f1; rwa [equalD_ok k1 k1, o.refl d] at this,
       by have := Equal_run m d A c A' c' e E f E' f' w' p1 p2 f1 f2; rwa [equalD_ok k1 k2] at this⟩⟩
  obtain ⟨b1, hb1⟩ : ∃ b, b = smallF m d := ⟨_, rfl⟩
  obtain ⟨b2, hb2⟩ : ∃ b, b = smallF m e := ⟨_, rfl⟩
  obtain ⟨b3, hb3⟩ : ∃ b, b = smallF m h := ⟨_, rfl⟩
  obtain ⟨k01, hk01⟩ : ∃ b, b = checkD d := ⟨_, rfl⟩
  obtain ⟨k02, hk02⟩ : ∃ b, b = checkD e := ⟨_, rfl⟩
  obtain ⟨k03, hk03⟩ : ∃ b, b = checkD h := ⟨_, rfl⟩
  rw [← hb1, ← hb2, ← hb3] at HS HK HC
  rw [← hk01, ← hk02, ← hk03] at HK HC
  unfold datV datCs at HS HK HC
  unfold datV datCs
  obtain ⟨k, hk⟩ : ∃ u, u = kD d := ⟨_, rfl⟩
  obtain ⟨n, hn⟩ : ∃ u, u = nD d := ⟨_, rfl⟩
  obtain ⟨s, hs⟩ : ∃ u, u = sD d := ⟨_, rfl⟩
  obtain ⟨x, hx⟩ : ∃ u, u = (iD d).length := ⟨_, rfl⟩
  obtain ⟨y, hy⟩ : ∃ u, u = (mD d).length := ⟨_, rfl⟩
  obtain ⟨k2, hk2⟩ : ∃ u, u = kD e := ⟨_, rfl⟩
  obtain ⟨n2, hn2⟩ : ∃ u, u = nD e := ⟨_, rfl⟩
  obtain ⟨s2, hs2⟩ : ∃ u, u = sD e := ⟨_, rfl⟩
  obtain ⟨x2, hx2⟩ : ∃ u, u = (iD e).length := ⟨_, rfl⟩
  obtain ⟨y2, hy2⟩ : ∃ u, u = (mD e).length := ⟨_, rfl⟩
  obtain ⟨k3, hk3⟩ : ∃ u, u = kD h := ⟨_, rfl⟩
  obtain ⟨n3, hn3⟩ : ∃ u, u = nD h := ⟨_, rfl⟩
  obtain ⟨s3, hs3⟩ : ∃ u, u = sD h := ⟨_, rfl⟩
  obtain ⟨x3, hx3⟩ : ∃ u, u = (iD h).length := ⟨_, rfl⟩
  obtain ⟨y3, hy3⟩ : ∃ u, u = (mD h).length := ⟨_, rfl⟩
  rw [← hk, ← hn, ← hs, ← hx, ← hy, ← hk2, ← hn2, ← hs2, ← hx2, ← hy2, ← hk3, ← hn3, ← hs3, ← hx3, ← hy3] at HS HK HC ⊢
  clear hp hp2 hp3 hb1 hb2 hb3 hk01 hk02 hk03 hk hn hs hx hy hk2 hn2 hs2 hx2 hy2 hk3 hn3 hs3 hx3 hy3 ht
  go_enter Tryd.func10, Tryd.ntmps10
  go_upto_region 1 with fail
  obtain ⟨w1, g1, e1, e2, hB1, _, _, _, _, _, hR1⟩ := boxD w k n s (.slice A x c) (.slice A' y c')
  obtain ⟨w2, g2, e3, e4, hB2, _, _, _, _, _, hR2⟩ := boxD w1 k2 n2 s2 (.slice E x2 f) (.slice E' y2 f')
  obtain ⟨w3, g3, e5, e6, hB3, _, _, _, _, _, hR3⟩ := boxD w2 k3 n3 s3 (.slice G x3 q) (.slice G' y3 q')
  have e7 : g1 + 1 = g2 := by rw [← e4, ← e1, ← e2]; simp
  have e8 : g2 + 1 = g3 := by rw [← e6, ← e3, ← e4]; simp
  rw [e1, e2, e3, e7, e8, e5]
  have HB3 := hide ((hB1.trans (hB2.mono hB1.size)).trans (hB3.mono (Nat.le_trans hB1.size hB2.size)))
  have HRR := hide fun W (h : Below w3.heap.size w3 W) => And.intro (row5 (((hR1.below hB2).below hB3).below h)) (And.intro (row5 ((hR2.below hB3).below h)) (row5 (hR3.below h)))
  have HBW := hide fun W (h : Below w3.heap.size w3 W) => HB3.out.trans (h.mono HB3.out.size)
  have HX0 := hide (Below.refl w3.heap.size w3)
  obtain ⟨⟨z0, z1, z2, z3, z4⟩, ⟨v0, v1, v2, v3, v4⟩, ⟨t0, t1, t2, t3, t4⟩⟩ := HRR.out _ HX0.out
  clear e1 e2 e3 e4 e5 e6 e7 e8 hB1 hB2 hB3 hR1 hR2 hR3
  go_wp2_with fail
  refine (HS.out _ (HBW.out _ HX0.out)).1.mono ?_; rintro r wz0 ⟨rfl, hBz⟩
  have HX1 := hide (HX0.out.trans (hBz.mono HX0.out.size))
  clear hBz z0 z1 z2 z3 z4 v0 v1 v2 v3 v4 t0 t1 t2 t3 t4
  obtain ⟨⟨z0, z1, z2, z3, z4⟩, ⟨v0, v1, v2, v3, v4⟩, ⟨t0, t1, t2, t3, t4⟩⟩ := HRR.out _ HX1.out
  cases b1 with
  | false =>
    go_wp2_with fail
    refine (HA.out _ (HBW.out _ HX1.out)).mono ?_; rintro r wz ⟨rfl, hBz⟩
    have HBZ := hide (HBW.out _ (HX1.out.trans (hBz.mono HX1.out.size)))
    clear hBz
    go_wp2_with fail
    go_ret
    exact ⟨rfl, HBZ.out⟩
  | true =>
    go_wp2_with fail
    refine (HS.out _ (HBW.out _ HX1.out)).2.1.mono ?_; rintro r wz1 ⟨rfl, hBz⟩
    have HX2 := hide (HX1.out.trans (hBz.mono HX1.out.size))
    clear hBz z0 z1 z2 z3 z4 v0 v1 v2 v3 v4 t0 t1 t2 t3 t4
    obtain ⟨⟨z0, z1, z2, z3, z4⟩, ⟨v0, v1, v2, v3, v4⟩, ⟨t0, t1, t2, t3, t4⟩⟩ := HRR.out _ HX2.out
    cases b2 with
    | false =>
      go_wp2_with fail
      refine (HA.out _ (HBW.out _ HX2.out)).mono ?_; rintro r wz ⟨rfl, hBz⟩
      have HBZ := hide (HBW.out _ (HX2.out.trans (hBz.mono HX2.out.size)))
      clear hBz
      go_wp2_with fail
      go_ret
      exact ⟨rfl, HBZ.out⟩
    | true =>
      go_wp2_with fail
      refine (HS.out _ (HBW.out _ HX2.out)).2.2.mono ?_; rintro r wz2 ⟨rfl, hBz⟩
      have HX3 := hide (HX2.out.trans (hBz.mono HX2.out.size))
      clear hBz z0 z1 z2 z3 z4 v0 v1 v2 v3 v4 t0 t1 t2 t3 t4
      obtain ⟨⟨z0, z1, z2, z3, z4⟩, ⟨v0, v1, v2, v3, v4⟩, ⟨t0, t1, t2, t3, t4⟩⟩ := HRR.out _ HX3.out
      cases b3 with
      | false =>
        go_wp2_with fail
        refine (HA.out _ (HBW.out _ HX3.out)).mono ?_; rintro r wz ⟨rfl, hBz⟩
        have HBZ := hide (HBW.out _ (HX3.out.trans (hBz.mono HX3.out.size)))
        clear hBz
        go_wp2_with fail
        go_ret
        exact ⟨rfl, HBZ.out⟩
      | true =>
        have HK1 := hide (HK.out (by trivial) (by trivial) (by trivial))
        have HC1 := hide (HC.out (by trivial) (by trivial) (by trivial))
        clear HK HC HS
        go_wp2_with fail
        refine (HK1.out _ (HBW.out _ HX3.out)).1.mono ?_; rintro r wz3 ⟨rfl, hBz⟩
        have HX4 := hide (HX3.out.trans (hBz.mono HX3.out.size))
        clear hBz z0 z1 z2 z3 z4 v0 v1 v2 v3 v4 t0 t1 t2 t3 t4
        obtain ⟨⟨z0, z1, z2, z3, z4⟩, ⟨v0, v1, v2, v3, v4⟩, ⟨t0, t1, t2, t3, t4⟩⟩ := HRR.out _ HX4.out
        by_cases z1' : k01 = 0
        · subst z1'
          go_wp2_with fail
          refine (HK1.out _ (HBW.out _ HX4.out)).2.1.mono ?_; rintro r wz4 ⟨rfl, hBz⟩
          have HX5 := hide (HX4.out.trans (hBz.mono HX4.out.size))
          clear hBz z0 z1 z2 z3 z4 v0 v1 v2 v3 v4 t0 t1 t2 t3 t4
          obtain ⟨⟨z0, z1, z2, z3, z4⟩, ⟨v0, v1, v2, v3, v4⟩, ⟨t0, t1, t2, t3, t4⟩⟩ := HRR.out _ HX5.out
          by_cases z2' : k02 = 0
          · subst z2'
            go_wp2_with fail
            refine (HK1.out _ (HBW.out _ HX5.out)).2.2.mono ?_; rintro r wz5 ⟨rfl, hBz⟩
            have HX6 := hide (HX5.out.trans (hBz.mono HX5.out.size))
            clear hBz z0 z1 z2 z3 z4 v0 v1 v2 v3 v4 t0 t1 t2 t3 t4
            obtain ⟨⟨z0, z1, z2, z3, z4⟩, ⟨v0, v1, v2, v3, v4⟩, ⟨t0, t1, t2, t3, t4⟩⟩ := HRR.out _ HX6.out
            by_cases z3' : k03 = 0
            · subst z3'
              obtain ⟨X, Y, Z, hX, hXY, hC⟩ := HC1.out (by trivial) (by trivial) (by trivial)
              have HCC := hide hC
              clear HC1 HK1 hC
              have hBB := HX6.out.drew
              go_wp2_with fail
              go_region_held3 (fun W => (W.cell? ⟨g1, 0, none⟩ = some (.int .i64 k) ∧ W.cell? ⟨g1, 1, none⟩ = some (.int .i64 n) ∧ W.cell? ⟨g1, 2, none⟩ = some (.string s) ∧ W.cell? ⟨g1, 3, none⟩ = some (.slice A x c) ∧ W.cell? ⟨g1, 4, none⟩ = some (.slice A' y c')) ∧ (W.cell? ⟨g2, 0, none⟩ = some (.int .i64 k2) ∧ W.cell? ⟨g2, 1, none⟩ = some (.int .i64 n2) ∧ W.cell? ⟨g2, 2, none⟩ = some (.string s2) ∧ W.cell? ⟨g2, 3, none⟩ = some (.slice E x2 f) ∧ W.cell? ⟨g2, 4, none⟩ = some (.slice E' y2 f')) ∧ (W.cell? ⟨g3, 0, none⟩ = some (.int .i64 k3) ∧ W.cell? ⟨g3, 1, none⟩ = some (.int .i64 n3) ∧ W.cell? ⟨g3, 2, none⟩ = some (.string s3) ∧ W.cell? ⟨g3, 3, none⟩ = some (.slice G x3 q) ∧ W.cell? ⟨g3, 4, none⟩ = some (.slice G' y3 q')))
                (first | exact HRR.out _ hBB)
                (first
                  | (go_at_call 24; with_reducible refine (HCC.out _ (HBW.out _ hBB)).1.mono ?_; rintro r wx ⟨rfl, hBx⟩; have hBB := hBB.trans (hBx.mono hBB.size))
                  | (go_at_call 24; with_reducible refine (HCC.out _ (HBW.out _ hBB)).2.1.mono ?_; rintro r wx ⟨rfl, hBx⟩; have hBB := hBB.trans (hBx.mono hBB.size))
                  | (go_at_call 24; with_reducible refine (HCC.out _ (HBW.out _ hBB)).2.2.1.mono ?_; rintro r wx ⟨rfl, hBx⟩; have hBB := hBB.trans (hBx.mono hBB.size)))
              all_goals
                have HX7 := hide hBB
                clear hBB hBx z0 z1 z2 z3 z4 v0 v1 v2 v3 v4 t0 t1 t2 t3 t4
                obtain ⟨⟨z0, z1, z2, z3, z4⟩, ⟨v0, v1, v2, v3, v4⟩, ⟨t0, t1, t2, t3, t4⟩⟩ := HRR.out _ HX7.out
                have n1 : decide (X < -1) = false := by simp; omega
                have n2' : decide (X > 1) = false := by simp; omega
                have n3' : IntKind.i64.wrap (-X) = -X := IntWalk.i64_in _ (by omega)
                go_wp2_with fail
                refine (HCC.out _ (HBW.out _ HX7.out)).2.2.2.1.mono ?_; rintro r wz7 ⟨rfl, hBz⟩
                have HX8 := hide (HX7.out.trans (hBz.mono HX7.out.size))
                clear hBz z0 z1 z2 z3 z4 v0 v1 v2 v3 v4 t0 t1 t2 t3 t4
                obtain ⟨⟨z0, z1, z2, z3, z4⟩, ⟨v0, v1, v2, v3, v4⟩, ⟨t0, t1, t2, t3, t4⟩⟩ := HRR.out _ HX8.out
                go_wp2_with fail
                refine (HCC.out _ (HBW.out _ HX8.out)).2.2.2.2.1.mono ?_; rintro r wz8 ⟨rfl, hBz⟩
                have HX9 := hide (HX8.out.trans (hBz.mono HX8.out.size))
                clear hBz z0 z1 z2 z3 z4 v0 v1 v2 v3 v4 t0 t1 t2 t3 t4
                obtain ⟨⟨z0, z1, z2, z3, z4⟩, ⟨v0, v1, v2, v3, v4⟩, ⟨t0, t1, t2, t3, t4⟩⟩ := HRR.out _ HX9.out
                go_wp2_with fail
                refine (HCC.out _ (HBW.out _ HX9.out)).2.2.2.2.2.1.mono ?_; rintro r wz9 ⟨rfl, hBz⟩
                have HX10 := hide (HX9.out.trans (hBz.mono HX9.out.size))
                clear hBz z0 z1 z2 z3 z4 v0 v1 v2 v3 v4 t0 t1 t2 t3 t4
                obtain ⟨⟨z0, z1, z2, z3, z4⟩, ⟨v0, v1, v2, v3, v4⟩, ⟨t0, t1, t2, t3, t4⟩⟩ := HRR.out _ HX10.out
                go_wp2_with fail
                refine (HCC.out _ (HBW.out _ HX10.out)).2.2.2.2.2.2.mono ?_; rintro r wz10 ⟨rfl, hBz⟩
                have HX11 := hide (HX10.out.trans (hBz.mono HX10.out.size))
                clear hBz z0 z1 z2 z3 z4 v0 v1 v2 v3 v4 t0 t1 t2 t3 t4
                obtain ⟨⟨z0, z1, z2, z3, z4⟩, ⟨v0, v1, v2, v3, v4⟩, ⟨t0, t1, t2, t3, t4⟩⟩ := HRR.out _ HX11.out
                clear HCC
                by_cases hx : X > 0
                · have r1 : decide (X > 0) = true := by simpa using hx
                  clear hXY
                  go_wp2_with fail
                  refine (HA.out _ (HBW.out _ HX11.out)).mono ?_; rintro r wz ⟨rfl, hBz⟩
                  have HBZ := hide (HBW.out _ (HX11.out.trans (hBz.mono HX11.out.size)))
                  clear hBz
                  go_wp2_with fail
                  go_ret
                  exact ⟨rfl, HBZ.out⟩
                · have r1 : decide (X > 0) = false := by simpa using hx
                  by_cases hy : Y > 0
                  · have r2 : decide (Y > 0) = true := by simpa using hy
                    clear hXY
                    go_wp2_with fail
                    refine (HA.out _ (HBW.out _ HX11.out)).mono ?_; rintro r wz ⟨rfl, hBz⟩
                    have HBZ := hide (HBW.out _ (HX11.out.trans (hBz.mono HX11.out.size)))
                    clear hBz
                    go_wp2_with fail
                    go_ret
                    exact ⟨rfl, HBZ.out⟩
                  · have r2 : decide (Y > 0) = false := by simpa using hy
                    obtain ⟨hz, hz2, hz3⟩ := hXY (by omega) (by omega)
                    have r3 : decide (Z ≤ 0) = true := by simpa using hz
                    by_cases x0 : X = 0
                    · by_cases y0 : Y = 0
                      · have q1 : (X == 0) = true := by simpa using x0
                        have q2 : (Y == 0) = true := by simpa using y0
                        have q3 : (Z == 0) = true := by simpa using hz3 x0 y0
                        clear hz2 hz3 x0 y0
                        go_wp2_with fail
                        refine (HA.out _ (HBW.out _ HX11.out)).mono ?_; rintro r wz ⟨rfl, hBz⟩
                        have HBZ := hide (HBW.out _ (HX11.out.trans (hBz.mono HX11.out.size)))
                        clear hBz
                        go_wp2_with fail
                        go_ret
                        exact ⟨rfl, HBZ.out⟩
                      · have q1 : (X == 0) = true := by simpa using x0
                        have q2 : (Y == 0) = false := by simpa using y0
                        have q3 : (Z == 0) = false := by simpa using fun e => y0 (hz2 e).2
                        clear hz2 hz3 x0 y0
                        go_wp2_with fail
                        refine (HA.out _ (HBW.out _ HX11.out)).mono ?_; rintro r wz ⟨rfl, hBz⟩
                        have HBZ := hide (HBW.out _ (HX11.out.trans (hBz.mono HX11.out.size)))
                        clear hBz
                        go_wp2_with fail
                        go_ret
                        exact ⟨rfl, HBZ.out⟩
                    · have q1 : (X == 0) = false := by simpa using x0
                      have q3 : (Z == 0) = false := by simpa using fun e => x0 (hz2 e).1
                      clear hz2 hz3 x0
                      go_wp2_with fail
                      refine (HA.out _ (HBW.out _ HX11.out)).mono ?_; rintro r wz ⟨rfl, hBz⟩
                      have HBZ := hide (HBW.out _ (HX11.out.trans (hBz.mono HX11.out.size)))
                      clear hBz
                      go_wp2_with fail
                      go_ret
                      exact ⟨rfl, HBZ.out⟩
            · have g3' : (k03 != 0) = true := by simpa using z3'
              go_wp2_with fail
              refine (HA.out _ (HBW.out _ HX6.out)).mono ?_; rintro r wz ⟨rfl, hBz⟩
              have HBZ := hide (HBW.out _ (HX6.out.trans (hBz.mono HX6.out.size)))
              clear hBz
              go_wp2_with fail
              go_ret
              exact ⟨rfl, HBZ.out⟩
          · have g2' : (k02 != 0) = true := by simpa using z2'
            go_wp2_with fail
            refine (HA.out _ (HBW.out _ HX5.out)).mono ?_; rintro r wz ⟨rfl, hBz⟩
            have HBZ := hide (HBW.out _ (HX5.out.trans (hBz.mono HX5.out.size)))
            clear hBz
            go_wp2_with fail
            go_ret
            exact ⟨rfl, HBZ.out⟩
        · have g1' : (k01 != 0) = true := by simpa using z1'
          go_wp2_with fail
          refine (HA.out _ (HBW.out _ HX4.out)).mono ?_; rintro r wz ⟨rfl, hBz⟩
          have HBZ := hide (HBW.out _ (HX4.out.trans (hBz.mono HX4.out.size)))
          clear hBz
          go_wp2_with fail
          go_ret
          exact ⟨rfl, HBZ.out⟩
end Go.Proofs.YtajpgmacabeeeaaDoor
