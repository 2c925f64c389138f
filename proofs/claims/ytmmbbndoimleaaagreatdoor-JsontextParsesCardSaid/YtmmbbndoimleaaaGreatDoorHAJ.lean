/- A valid part, cleaned, is the same part: plain; clean and clear, as plain functions: the same first error, the same data where there is none; what is cleaned stays as it is; Text of package data; Writing JSON, plain: strings, lines, values; The law of blanks, plain; The law of blanks: the three answers; The text of the reference: the plain part: digits, and texts between commas; The order of data is antisymmetric and transitive: plain. -/
import Derived.Test.YtmmbbndoimleaaaGreatDoorHAI
import Derived.Test.YtmmbbndoimleaaaGreatDoorHAE
import Derived.Test.YtmmbbndoimleaaaGreatDoorHAC

/- A valid part, cleaned, is the same part: plain. -/
namespace Go.Proofs.YtmmbbndoimleaaaGreatDoor
open Go.RowKit

theorem zipD_map {f : Dt → Dt → Bool} {g : Dt → Dt} : ∀ {l : List Dt}, (∀ x ∈ l, f (g x) x = true) → zipD f (l.map g) l = true
  | [], _ => rfl
  | x :: l, h => by
    show (f (g x) x && zipD f (l.map g) l) = true
    rw [h x (List.mem_cons_self ..), zipD_map fun y hy => h y (List.mem_cons_of_mem _ hy)]; rfl
theorem zipM_map {f : Dt → Dt → Bool} {g : Dt → Dt} : ∀ {l : List (ByteArray × Dt)}, (∀ x ∈ l, f (g x.2) x.2 = true) → zipM f (l.map fun x => (x.1, g x.2)) l = true
  | [], _ => rfl
  | x :: l, h => by
    show ((x.1.toList == x.1.toList) && f (g x.2) x.2 && zipM f (l.map fun x => (x.1, g x.2)) l) = true
    rw [h x (List.mem_cons_self ..), zipM_map fun y hy => h y (List.mem_cons_of_mem _ hy)]; simp
theorem asc_pair : ∀ {l : List (ByteArray × Dt)} {p : ByteArray}, ascL p l = true → (∀ x ∈ l, ltB p x.1 = true) ∧ l.Pairwise fun x y => ltB x.1 y.1 = true
  | [], _, _ => ⟨by simp, List.Pairwise.nil⟩
  | x :: l, p, h => by
    unfold ascL at h
    split at h
    · rename_i hp
      obtain ⟨h1, h2⟩ := asc_pair h
      refine ⟨fun y hy => ?_, List.pairwise_cons.2 ⟨fun y hy => h1 y hy, h2⟩⟩
      rcases List.mem_cons.1 hy with rfl | hy
      · exact hp
      · rcases Bool.eq_false_or_eq_true (ltB p y.1) with e | e
        · exact e
        · have : ltB p x.1 = false := bl_trans _ _ _ (bl_asymm _ _ (h1 y hy)) e
          rw [hp] at this; cases this
    · cases h
theorem asc_srt {l : List (ByteArray × Dt)} (h : ascB l = true) : SrtK Prod.fst l := by
  cases l with
  | nil => exact List.Pairwise.nil
  | cons x l =>
    have := asc_pair (l := l) (p := x.1) h
    exact (List.pairwise_cons.2 ⟨fun y hy => this.1 y hy, this.2⟩).imp fun h => bl_asymm _ _ h
theorem sorted_id {l : List (ByteArray × Dt)} (h : SrtK Prod.fst l) : sortK Prod.fst l = l := (eq_sortK h (StaK.refl l)).symm
theorem own_zero {d : Dt} (h : ownD d = 0) : plainB d = true ∧ ascB (mD d) = true := by
  unfold ownD at h
  split at h
  · exact absurd h (by decide)
  · rename_i h1
    split at h
    · exact absurd h (by decide)
    · split at h
      · exact absurd h (by decide)
      · rename_i h3; exact ⟨by simpa using h1, by simpa using h3⟩
theorem check_zero' {r : Nat} {d : Dt} (h : checkF r d = 0) : ∃ r', r = r' + 1 ∧ ownD d = 0 ∧ ∀ x ∈ kids d, checkF r' x = 0 := by
  cases r with
  | zero => exact absurd (show (9 : Int) = 0 from h) (by decide)
  | succ r =>
    refine ⟨r, rfl, ?_, (plain_of h).2⟩
    unfold checkF at h
    split at h
    · assumption
    · rename_i h2; exact absurd h h2
theorem plain_fields {d : Dt} (h : plainB d = true) : (kD d = 2 ∨ kD d = 3 ∨ nD d = 0) ∧ (kD d = 4 ∨ (sD d).toList = []) ∧ (kD d = 5 ∨ iD d = []) ∧ (kD d = 6 ∨ mD d = []) := by
  unfold plainB plainQ at h
  simp at h
  obtain ⟨⟨⟨⟨_, h1⟩, h2⟩, h3⟩, h4⟩ := h
  exact ⟨by omega, h2, h3, h4⟩
theorem clean_same {w : World} {B : Nat} : ∀ (m r : Nat) (lv : Int) {d : Dt} {A c A' c'}, Parts w B m d A c A' c' → checkF r d = 0 → lv = 17 - r → sameF m (cleanF m lv d) d = true
  | 0, _, _, _, _, _, _, _, hp, _, _ => hp.elim
  | m + 1, r, lv, d, _, _, _, _, hp, hc, hl => by
    obtain ⟨r', rfl, ho, hk⟩ := check_zero' hc
    obtain ⟨hpl, hasc⟩ := own_zero ho
    obtain ⟨p1, p2, p3, p4⟩ := plain_fields hpl
    have hkid : ∀ x ∈ kids d, sameF m (cleanF m (lv + 1) x) x = true := fun x hx => by
      obtain ⟨a, q, a', q', hq⟩ := parts_kid hp hx
      exact clean_same m r' (lv + 1) hq (hk x hx) (by omega)
    have hsort : sortK Prod.fst ((mD d).map fun x => (x.1, cleanF m (lv + 1) x.2)) = (mD d).map fun x => (x.1, cleanF m (lv + 1) x.2) :=
      sorted_id ((asc_srt hasc).map (k' := Prod.fst) (fun x : ByteArray × Dt => (x.1, cleanF m (lv + 1) x.2)) fun _ => rfl)
    have e : cleanF (m + 1) lv d = mkD (kD d) (if kD d = 2 ∨ kD d = 3 then nD d else 0) (if kD d = 4 then sD d else ⟨#[]⟩) (if kD d = 5 then (iD d).map (cleanF m (lv + 1)) else []) (if kD d = 6 then (mD d).map fun x => (x.1, cleanF m (lv + 1) x.2) else []) := by
      rw [cleanF, if_neg (by omega), hsort]
    have e1 : (if kD d = 2 ∨ kD d = 3 then nD d else 0) = nD d := by split <;> omega
    have e2 : (if kD d = 4 then sD d else ⟨#[]⟩ : ByteArray).toList = (sD d).toList := by
      split
      · rfl
      · rcases p2 with h | h
        · contradiction
        · rw [h, ByteArray.toList_eq]
    have e3 : (if kD d = 5 then (iD d).map (cleanF m (lv + 1)) else []) = (iD d).map (cleanF m (lv + 1)) := by
      split
      · rfl
      · rcases p3 with h | h
        · contradiction
        · rw [h]; rfl
    have e4 : (if kD d = 6 then (mD d).map fun x => (x.1, cleanF m (lv + 1) x.2) else []) = (mD d).map fun x => (x.1, cleanF m (lv + 1) x.2) := by
      split
      · rfl
      · rcases p4 with h | h
        · contradiction
        · rw [h]; rfl
    rw [e, e1, e3, e4]
    unfold sameF
    rw [kD_mk, nD_mk, sD_mk, iD_mk, mD_mk, zipD_map fun x hx => hkid x (is_kid hx), zipM_map fun x hx => hkid x.2 (ms_kid hx)]
    unfold diffQ
    rw [e2]
    simp
theorem same_zero (m : Nat) : sameF m zeroD zeroD = true := by
  cases m with
  | zero => rfl
  | succ m => unfold sameF; simp [zeroD, diffQ, zipD, zipM]
/-- Where steps lead in valid data, the data is valid. -/
theorem go_valid {w : World} {B m : Nat} : ∀ (l : List Sp) (r n : Nat) {d x : Dt} {A c A' c'}, Parts w B n d A c A' c' → n ≤ m → r ≤ 16 → checkF r d = 0 → goD d l = some x → ∃ r' n' a q a' q', r' ≤ 16 ∧ checkF r' x = 0 ∧ n' ≤ m ∧ Parts w B n' x a q a' q'
  | [], r, n, d, x, A, c, A', c', hp, hn, hr, hc, h => by
    injection h with h; subst h
    exact ⟨r, n, A, c, A', c', hr, hc, hn, hp⟩
  | s :: l, r, n, d, x, A, c, A', c', hp, hn, hr, hc, h => by
    rw [goD] at h
    split at h
    · cases h
    · rename_i y hy
      obtain ⟨r', rfl, _, hk⟩ := check_zero' hc
      have hkid := stepD_kid hy
      cases n with
      | zero => exact hp.elim
      | succ n =>
        obtain ⟨a, q, a', q', hq⟩ := parts_kid hp hkid
        exact go_valid l r' n hq (by omega) (by omega) (hk y hkid) h
/-- Fuel beyond the depth makes no difference to Same. -/
theorem clean_level {w : World} {B : Nat} : ∀ (m r : Nat) (lv lv' : Int) {d : Dt} {A c A' c'}, Parts w B m d A c A' c' → checkF r d = 0 → lv ≤ 17 - r → lv' ≤ 17 - r → cleanF m lv d = cleanF m lv' d
  | 0, _, _, _, _, _, _, _, _, hp, _, _, _ => hp.elim
  | m + 1, r, lv, lv', d, _, _, _, _, hp, hc, h1, h2 => by
    obtain ⟨r', rfl, ho, hk⟩ := check_zero' hc
    have hkid : ∀ x ∈ kids d, cleanF m (lv + 1) x = cleanF m (lv' + 1) x := fun x hx => by
      obtain ⟨a, q, a', q', hq⟩ := parts_kid hp hx
      exact clean_level m r' (lv + 1) (lv' + 1) hq (hk x hx) (by omega) (by omega)
    have e3 : (iD d).map (cleanF m (lv + 1)) = (iD d).map (cleanF m (lv' + 1)) := List.map_congr_left fun x hx => hkid x (is_kid hx)
    have e4 : ((mD d).map fun x => (x.1, cleanF m (lv + 1) x.2)) = (mD d).map fun x => (x.1, cleanF m (lv' + 1) x.2) := List.map_congr_left fun x hx => by rw [hkid x.2 (ms_kid hx)]
    have n1 : ¬ 16 < lv := by omega
    have n2 : ¬ 16 < lv' := by omega
    simp only [cleanF]
    rw [if_neg n1, if_neg n2, e3, e4]
end Go.Proofs.YtmmbbndoimleaaaGreatDoor

/- clean and clear, as plain functions: the same first error, the same data where there is none; what is cleaned stays as it is. -/
namespace Go.Proofs.YtmmbbndoimleaaaGreatDoor
open Go.RowKit

theorem sort_map {f : Dt → Dt} (l : List (ByteArray × Dt)) : sortK Prod.fst (l.map fun x => (x.1, f x.2)) = (sortK Prod.fst l).map fun x => (x.1, f x.2) :=
  (eq_sortK (k := Prod.fst) (SrtK.map (k := Prod.fst) (k' := Prod.fst) (fun x : ByteArray × Dt => (x.1, f x.2)) (fun _ => rfl) (sortK_ok (k := Prod.fst) l).1) (StaK.map (k := Prod.fst) (k' := Prod.fst) (fun x : ByteArray × Dt => (x.1, f x.2)) (fun _ => rfl) (sortK_ok (k := Prod.fst) l).2)).symm
theorem firstE_map {f : Dt → Int} {g g' : Dt → Dt} : ∀ (l : List Dt), (∀ x ∈ l, f (g x) = f (g' x)) → firstE f (l.map g) = firstE f (l.map g')
  | [], _ => rfl
  | x :: l, h => by
    show (if f (g x) = 0 then firstE f (l.map g) else f (g x)) = if f (g' x) = 0 then firstE f (l.map g') else f (g' x)
    rw [h x (List.mem_cons_self ..), firstE_map l fun y hy => h y (List.mem_cons_of_mem _ hy)]
theorem ascL_map {f g : Dt → Dt} : ∀ (p : ByteArray) (l : List (ByteArray × Dt)), ascL p (l.map fun x => (x.1, f x.2)) = ascL p (l.map fun x => (x.1, g x.2))
  | _, [] => rfl
  | p, x :: l => by
    show (if ltB p x.1 = true then ascL x.1 (l.map _) else false) = if ltB p x.1 = true then ascL x.1 (l.map _) else false
    rw [ascL_map x.1 l]
theorem ascB_map {f g : Dt → Dt} (l : List (ByteArray × Dt)) : ascB (l.map fun x => (x.1, f x.2)) = ascB (l.map fun x => (x.1, g x.2)) := by
  cases l with
  | nil => rfl
  | cons x l => exact ascL_map x.1 l
/-- The parts of data, with what is done to each. -/
def doneI (d : Dt) (f : Dt → Dt) : List Dt := if kD d = 5 then (iD d).map f else []
def doneM (d : Dt) (f : Dt → Dt) : List (ByteArray × Dt) := if kD d = 6 then (sortK Prod.fst (mD d)).map (fun x => (x.1, f x.2)) else []
def doneD (d : Dt) (f : Dt → Dt) : Dt := mkD (kD d) (if kD d = 2 ∨ kD d = 3 then nD d else 0) (if kD d = 4 then sD d else ⟨#[]⟩) (doneI d f) (doneM d f)
theorem clean_done {m : Nat} {lv : Int} {d : Dt} (h : ¬ 16 < lv) : cleanF (m + 1) lv d = doneD d (cleanF m (lv + 1)) := by
  unfold cleanF doneD doneI doneM
  rw [if_neg h, sort_map]
theorem clear_done {m : Nat} {d : Dt} : clearF (m + 1) d = doneD d (clearF m) := by
  unfold clearF doneD doneI doneM
  rw [sort_map]
theorem doneI_len {d : Dt} (f g : Dt → Dt) : (doneI d f).length = (doneI d g).length := by unfold doneI; split <;> simp
theorem doneM_len {d : Dt} (f g : Dt → Dt) : (doneM d f).length = (doneM d g).length := by unfold doneM; split <;> simp
theorem done_own {d : Dt} (f g : Dt → Dt) : ownD (doneD d f) = ownD (doneD d g) := by
  have e1 : plainB (doneD d f) = plainB (doneD d g) := by
    unfold plainB doneD
    simp only [kD_mk, nD_mk, sD_mk, iD_mk, mD_mk]
    rw [doneI_len f g, doneM_len f g]
  have e2 : rangeB (doneD d f) = rangeB (doneD d g) := rfl
  have e3 : ascB (mD (doneD d f)) = ascB (mD (doneD d g)) := by
    unfold doneD
    simp only [mD_mk]
    unfold doneM
    split
    · exact ascB_map _
    · rfl
  unfold ownD
  rw [e1, e2, e3]
/-- What is done to the parts, as one list. -/
def kidL (d : Dt) : List Dt := (if kD d = 5 then iD d else []) ++ (if kD d = 6 then (sortK Prod.fst (mD d)).map Prod.snd else [])
theorem done_kids {d : Dt} (f : Dt → Dt) : kids (doneD d f) = (kidL d).map f := by
  unfold doneD kidL
  rw [kids_mk, List.map_append]
  congr 1
  · unfold doneI; split <;> simp
  · unfold doneM
    split
    · simp [List.map_map, Function.comp_def]
    · rfl
theorem done_check {r : Nat} {d : Dt} {f g : Dt → Dt} (h : ∀ x, checkF r (f x) = checkF r (g x)) : checkF (r + 1) (doneD d f) = checkF (r + 1) (doneD d g) := by
  unfold checkF
  rw [done_own f g, done_kids, done_kids, firstE_map _ fun x _ => h x]
theorem check_clean : ∀ (r m : Nat) (lv : Int) (d : Dt), lv = 17 - r → checkF r (cleanF m lv d) = checkF r (clearF m d)
  | 0, _, _, _, _ => rfl
  | _ + 1, 0, _, _, _ => rfl
  | r + 1, m + 1, lv, d, h => by
    rw [clean_done (by omega), clear_done]
    exact done_check fun x => check_clean r m (lv + 1) x (by omega)
theorem done_eq {d : Dt} {f g : Dt → Dt} (h : ∀ x ∈ kidL d, f x = g x) : doneD d f = doneD d g := by
  unfold kidL at h
  unfold doneD
  congr 1
  · unfold doneI
    split
    · rename_i h5
      exact List.map_congr_left fun x hx => h x (List.mem_append.2 (.inl (by rw [if_pos h5]; exact hx)))
    · rfl
  · unfold doneM
    split
    · rename_i h6
      exact List.map_congr_left fun x hx => by rw [h x.2 (List.mem_append.2 (.inr (by rw [if_pos h6]; exact List.mem_map.2 ⟨x, hx, rfl⟩)))]
    · rfl
theorem clean_clear : ∀ (r m : Nat) (lv : Int) (d : Dt), lv = 17 - r → checkF r (clearF m d) = 0 → cleanF m lv d = clearF m d
  | 0, _, _, _, _, h => absurd (show (9 : Int) = 0 from h) (by decide)
  | _ + 1, 0, _, _, _, _ => rfl
  | r + 1, m + 1, lv, d, h, hc => by
    rw [clean_done (by omega), clear_done]
    rw [clear_done] at hc
    refine done_eq fun x hx => clean_clear r m (lv + 1) x (by omega) ?_
    obtain ⟨r', e, _, h2⟩ := check_zero' hc
    obtain rfl : r = r' := by omega
    exact h2 _ (by rw [done_kids]; exact List.mem_map.2 ⟨x, hx, rfl⟩)
theorem done_twice {d : Dt} {f : Dt → Dt} (h : ∀ x, f (f x) = f x) : doneD (doneD d f) f = doneD d f := by
  have hk : kD (doneD d f) = kD d := rfl
  have hn : nD (doneD d f) = if kD d = 2 ∨ kD d = 3 then nD d else 0 := rfl
  have hs : sD (doneD d f) = if kD d = 4 then sD d else ⟨#[]⟩ := rfl
  have hi : iD (doneD d f) = doneI d f := rfl
  have hm : mD (doneD d f) = doneM d f := by unfold doneD; rw [mD_mk]
  have e1 : doneI (doneD d f) f = doneI d f := by
    unfold doneI at hi ⊢
    rw [hk, hi]
    split
    · rw [List.map_map]
      exact List.map_congr_left fun x _ => h x
    · rfl
  have e2 : doneM (doneD d f) f = doneM d f := by
    unfold doneM at hm ⊢
    rw [hk, hm]
    split
    · rw [sort_map, sorted_id (sortK_ok (k := Prod.fst) (mD d)).1, List.map_map]
      exact List.map_congr_left fun x _ => by show (x.1, f (f x.2)) = _; rw [h]
    · rfl
  show mkD _ _ _ (doneI (doneD d f) f) (doneM (doneD d f) f) = _
  rw [e1, e2, hk, hn, hs]
  unfold doneD
  congr 1
  · split <;> rfl
  · split <;> rfl
theorem clean_twice : ∀ (m : Nat) (lv : Int) (d : Dt), cleanF m lv (cleanF m lv d) = cleanF m lv d
  | 0, _, _ => rfl
  | m + 1, lv, d => by
    by_cases h : 16 < lv
    · have e : ∀ d, cleanF (m + 1) lv d = mkD (kD d) 0 ⟨#[]⟩ [] [] := fun d => by unfold cleanF; rw [if_pos h]
      rw [e d, e]; rfl
    · rw [clean_done h, clean_done h]
      exact done_twice (clean_twice m (lv + 1))
theorem diff_self (k n : Int) (s : ByteArray) (x y : Nat) : diffQ k k n n s s x x y y = false := by unfold diffQ; simp
theorem same_self : ∀ (m : Nat) (d : Dt), sameF m d d = true
  | 0, _ => rfl
  | m + 1, d => by
    have h1 : ∀ l : List Dt, zipD (sameF m) l l = true := fun l => by
      induction l with
      | nil => rfl
      | cons x l ih => unfold zipD; rw [same_self m x, ih]; rfl
    have h2 : ∀ l : List (ByteArray × Dt), zipM (sameF m) l l = true := fun l => by
      induction l with
      | nil => rfl
      | cons x l ih => unfold zipM; rw [same_self m x.2, ih]; simp
    unfold sameF
    rw [diff_self, h1, h2]; rfl
/-- Both ways to make data. -/
theorem makes_same (m : Nat) (d : Dt) : checkD (cleanF m 1 d) = checkD (clearF m d) ∧ (checkD (clearF m d) = 0 → cleanF m 1 d = clearF m d ∧ cleanF m 1 (clearF m d) = clearF m d) := by
  refine ⟨check_clean 16 m 1 d rfl, fun h => ?_⟩
  have e := clean_clear 16 m 1 d rfl h
  exact ⟨e, by rw [← e]; exact clean_twice m 1 d⟩
end Go.Proofs.YtmmbbndoimleaaaGreatDoor

/- Text of package data. -/
namespace Go.Proofs.YtmmbbndoimleaaaGreatDoor
open Go.RowKit

def textD (m : Nat) (d : Dt) : ByteArray := if checkD d = 0 then textF m d else ByteArray.empty
set_option maxRecDepth 20000 in
theorem Text_run (m : Nat) (d : Dt) (A : Option Addr) (c : Nat) (A' : Option Addr) (c' : Nat) (w : World) (hp : Parts w w.heap.size m d A c A' c') (hf : FitD 16 d) (hb : tbF m d ≤ 1000000000) (ht : Tab w) :
    Calls Tryz.prog 59 #[datV d A c A' c'] w fun e w' => e = .returned (.tuple #[.string (textD m d), .int .i64 (checkD d)]) ∧ Below w.heap.size w w' := by
  have HC := hide fun w' (hB : Below w.heap.size w w') => Check_run m d A c A' c' w' (hp.turn (Same.of_below hB) hB.size) hf
  have HT := hide fun w' (hB : Below w.heap.size w w') => text_run m d A c A' c' w' (hp.turn (Same.of_below hB) hB.size) hb (tab_below ht hB)
  unfold textD
  obtain ⟨z, hz⟩ : ∃ z, z = checkD d := ⟨_, rfl⟩
  rw [← hz] at HC ⊢
  obtain ⟨T, hT⟩ : ∃ z, z = textF m d := ⟨_, rfl⟩
  rw [← hT] at HT ⊢
  unfold datV datCs at HC HT
  unfold datV datCs
  obtain ⟨h1, h2, h3, h4⟩ := hp.lens
  have hm := maxLen_le h2; have hm' := maxLen_le h4
  obtain ⟨k, hk⟩ : ∃ k, k = kD d := ⟨_, rfl⟩
  obtain ⟨n, hn'⟩ : ∃ k, k = nD d := ⟨_, rfl⟩
  obtain ⟨s, hs⟩ : ∃ k, k = sD d := ⟨_, rfl⟩
  obtain ⟨x, hx⟩ : ∃ k, k = (iD d).length := ⟨_, rfl⟩
  obtain ⟨y, hy⟩ : ∃ k, k = (mD d).length := ⟨_, rfl⟩
  rw [← hk, ← hn', ← hs, ← hx, ← hy] at HC HT ⊢
  rw [← hx] at h1
  rw [← hy] at h3
  clear hp hf hb ht hz hT hk hn' hs hx hy h2 h4
  go_enter Tryz.func59, Tryz.ntmps59
  go_upto_region 1 with fail
  obtain ⟨w1, g, e1, e2, hBL, c0, c1, c2, c3, c4, hROW⟩ := boxD w k n s (.slice A x c) (.slice A' y c')
  rw [e1, e2]
  have HBL := hide hBL; have HROW := hide hROW
  clear e1 e2 hBL hROW
  go_wp2_with fail
  refine (HC.out _ HBL.out).mono ?_; rintro e w2 ⟨rfl, hB2⟩
  obtain ⟨c0', c1', c2', c3', c4'⟩ := row5 (HROW.out.below hB2)
  have HB2 := hide (HBL.out.trans (hB2.mono HBL.out.size))
  clear c0 c1 c2 c3 c4 hB2 HROW HBL HC
  by_cases hz : z = 0
  · subst hz
    go_wp2_with fail
    refine (HT.out _ HB2.out).mono ?_; rintro e w3 ⟨rfl, hB3⟩
    have HB3 := hide (HB2.out.trans (hB3.mono HB2.out.size))
    clear hB3
    go_wp2_with fail
    go_ret2
    exact ⟨rfl, HB3.out⟩
  · have g1 : (z != 0) = true := by simpa using hz
    go_wp2_with fail
    go_ret2
    exact ⟨by first | rfl | (rw [if_neg hz]; rfl) | (simp [hz]; rfl), HB2.out⟩
end Go.Proofs.YtmmbbndoimleaaaGreatDoor

/- Writing JSON, plain: strings, lines, values. -/
namespace Go.Proofs.YtmmbbndoimleaaaGreatDoor
open Go.RowKit

/-- The letter of a short escape, or 0. -/
def jshN (c : Nat) : Nat := if c = 34 ∨ c = 92 then c else if c = 8 then 98 else if c = 9 then 116 else if c = 10 then 110 else if c = 12 then 102 else if c = 13 then 114 else 0
/-- What stands for a byte. -/
def jqL (c : Nat) : List UInt8 :=
  if jshN c ≠ 0 then [92, UInt8.ofNat (jshN c)] else if c < 32 ∨ 126 < c then [92, 117, 48, 48, hexN (c / 16), hexN (c % 16)] else [UInt8.ofNat c]
def jqS (l : List UInt8) : List UInt8 := l.flatMap fun b => jqL b.toNat
/-- A string in quotes. -/
def jqB (S : ByteArray) : ByteArray := ⟨(34 :: (jqS S.data.toList ++ [34])).toArray⟩
/-- What separates items. -/
def lineB (b : Bool) (lv : Nat) : ByteArray := if b = true then ⟨(10 :: List.replicate lv 9).toArray⟩ else ByteArray.empty
def colB (b : Bool) : ByteArray := if b = true then ⟨#[58, 32]⟩ else ⟨#[58]⟩
def openB (k : Int) : ByteArray := if k = 6 then ⟨#[123]⟩ else ⟨#[91]⟩
def shutB (k : Int) : ByteArray := if k = 6 then ⟨#[125]⟩ else ⟨#[93]⟩
def joinC (l : List ByteArray) : ByteArray := ⟨(Lib.join (l.map (·.data.toList)) [44]).toArray⟩
def wrapB (b : Bool) (lv : Nat) (k : Int) (L : List ByteArray) : ByteArray := if L.length = 0 then openB k ++ shutB k else openB k ++ joinC L ++ lineB b lv ++ shutB k
def jpartI (b : Bool) (lv : Nat) (f : Dt → ByteArray) (x : Dt) : ByteArray := lineB b (lv + 1) ++ f x
def jpartM (b : Bool) (lv : Nat) (f : Dt → ByteArray) (x : ByteArray × Dt) : ByteArray := lineB b (lv + 1) ++ jqB x.1 ++ colB b ++ f x.2
def jparts (b : Bool) (lv : Nat) (f : Dt → ByteArray) (d : Dt) : List ByteArray := (iD d).map (jpartI b lv f) ++ (mD d).map (jpartM b lv f)
/-- The text of data at a level. -/
def jtF (b : Bool) : Nat → Nat → Dt → ByteArray
  | 0, _, _ => ByteArray.empty
  | m + 1, lv, d => if kD d = 4 then jqB (sD d) else if kD d = 1 ∨ kD d = 2 ∨ kD d = 3 then textD (m + 1) d else wrapB b lv (kD d) (jparts b lv (jtF b m (lv + 1)) d)
/-- A bound for the text, and for all that is made on the way. -/
def jbF : Nat → Dt → Nat
  | 0, _ => 200
  | m + 1, d => 200 + 6 * (sD d).size + tbF (m + 1) d + sumN (fun x => 100 + jbF m x) (iD d) + sumN (fun x : ByteArray × Dt => 100 + 6 * x.1.size + jbF m x.2) (mD d)

theorem jqL_len (c : Nat) : (jqL c).length ≤ 6 := by unfold jqL; split; simp; split <;> simp
theorem jqS_len : ∀ l : List UInt8, (jqS l).length ≤ 6 * l.length
  | [] => by simp [jqS]
  | b :: l => by
    have h1 := jqL_len b.toNat
    have h2 := jqS_len l
    unfold jqS at h2 ⊢
    rw [List.flatMap_cons, List.length_append, List.length_cons]; omega
theorem jqB_size (S : ByteArray) : (jqB S).size ≤ 2 + 6 * S.size := by
  have h := jqS_len S.data.toList
  have h2 : S.data.toList.length = S.size := Array.length_toList
  show (34 :: (jqS S.data.toList ++ [34])).toArray.size ≤ _
  rw [List.size_toArray, List.length_cons, List.length_append, List.length_singleton]; omega
theorem lineB_size (b : Bool) (lv : Nat) : (lineB b lv).size ≤ lv + 1 := by
  unfold lineB; split
  · show (10 :: List.replicate lv 9 : List UInt8).toArray.size ≤ _; simp
  · show 0 ≤ _; omega
theorem colB_size (b : Bool) : (colB b).size ≤ 2 := by cases b <;> decide
theorem openB_size (k : Int) : (openB k).size = 1 := by unfold openB; split <;> rfl
theorem shutB_size (k : Int) : (shutB k).size = 1 := by unfold shutB; split <;> rfl
theorem joinC_len (l : List ByteArray) : (Lib.join (l.map (·.data.toList)) [44]).length ≤ sumN (fun x => x.size + 1) l := by
  cases l with
  | nil => simp [Lib.join_nil]
  | cons x l =>
    rw [List.map_cons, Lib.join_length]
    show _ + Lib.lens ((x :: l).map (fun y : ByteArray => y.data.toList)) ≤ _
    rw [lens_sumN]
    have : ∀ k : List ByteArray, sumN (fun x => x.size + 1) k = sumN (·.size) k + k.length := by
      intro k
      induction k with
      | nil => rfl
      | cons y k ih => rw [sumN, sumN, ih, List.length_cons]; omega
    rw [this]; simp; omega
theorem joinC_size (l : List ByteArray) : (joinC l).size ≤ sumN (fun x => x.size + 1) l := by
  have h := joinC_len l
  unfold joinC
  show (Lib.join (l.map (·.data.toList)) [44]).toArray.size ≤ _
  simpa using h
theorem textD_size (m : Nat) (d : Dt) : (textD m d).size ≤ tbF m d := by
  have := textF_le m d
  unfold textD; split
  · omega
  · show 0 ≤ _; omega
theorem firstE_all {f : Dt → Int} : ∀ {l : List Dt}, firstE f l = 0 → ∀ x ∈ l, f x = 0
  | y :: l, h, x, hx => by
    unfold firstE at h
    split at h
    · rename_i hy
      rcases List.mem_cons.1 hx with rfl | hx
      · exact hy
      · exact firstE_all h x hx
    · rename_i hy; exact absurd h hy
/-- The parts of valid data are valid, a level less. -/
theorem valid_kid {r : Nat} {d : Dt} (h : checkF r d = 0) : ∃ r', r = r' + 1 ∧ ownD d = 0 ∧ ∀ x ∈ kids d, checkF r' x = 0 := by
  cases r with
  | zero => exact absurd (show (9 : Int) = 0 from h) (by decide)
  | succ r =>
    unfold checkF at h
    split at h
    · rename_i ho; exact ⟨r, rfl, ho, firstE_all h⟩
    · rename_i ho; exact absurd h ho
/-- The fields of valid data. -/
theorem valid_fields {d : Dt} (h : ownD d = 0) : (1 ≤ kD d ∧ kD d ≤ 6) ∧ (kD d = 2 ∨ kD d = 3 ∨ nD d = 0) ∧ (kD d = 4 ∨ (sD d).toList = []) ∧ (kD d = 5 ∨ iD d = []) ∧ (kD d = 6 ∨ mD d = []) ∧ ascB (mD d) = true := by
  unfold ownD at h
  split at h
  · exact absurd h (by decide)
  · rename_i h1
    split at h
    · exact absurd h (by decide)
    · split at h
      · exact absurd h (by decide)
      · rename_i h3
        have hp : plainB d = true := by simpa using h1
        have ha : ascB (mD d) = true := by simpa using h3
        unfold plainB plainQ at hp
        simp at hp
        obtain ⟨⟨⟨⟨h0, h1⟩, h2⟩, h3⟩, h4⟩ := hp
        exact ⟨h0, by omega, h2, h3, h4, ha⟩
theorem leaf_fit {d : Dt} (hi : iD d = []) (hm : mD d = []) : FitD 16 d := by
  have e : kids d = [] := by unfold kids; rw [hi, hm]; rfl
  unfold FitD
  rw [e]
  exact ⟨by simp, fun x hx => by simp at hx⟩
/-- All parts are no longer than the bound. -/
theorem jparts_le (b : Bool) (m lv : Nat) (hlv : lv ≤ 20) (f : Dt → ByteArray) (d : Dt) (hf : ∀ x ∈ kids d, (f x).size ≤ jbF m x) : 200 + 6 * (sD d).size + tbF (m + 1) d + sumN (fun x => x.size + 50) (jparts b lv f d) ≤ jbF (m + 1) d := by
  unfold jparts
  rw [sumN_append, sumN_map, sumN_map, jbF]
  have h1 : sumN (fun x => (jpartI b lv f x).size + 50) (iD d) ≤ sumN (fun x => 100 + jbF m x) (iD d) := sumN_mono fun x hx => by
    unfold jpartI
    rw [bsize_append]
    have := lineB_size b (lv + 1)
    have := hf x (is_kid hx)
    omega
  have h2 : sumN (fun x => (jpartM b lv f x).size + 50) (mD d) ≤ sumN (fun x : ByteArray × Dt => 100 + 6 * x.1.size + jbF m x.2) (mD d) := sumN_mono fun x hx => by
    unfold jpartM
    rw [bsize_append, bsize_append, bsize_append]
    have := lineB_size b (lv + 1)
    have := jqB_size x.1
    have := colB_size b
    have := hf x.2 (ms_kid hx)
    omega
  omega
theorem wrapB_size (b : Bool) (lv : Nat) (k : Int) (L : List ByteArray) : (wrapB b lv k L).size ≤ 3 + lv + sumN (fun x => x.size + 1) L := by
  have h1 := joinC_size L
  have h2 := lineB_size b lv
  unfold wrapB
  split
  · rw [bsize_append, openB_size, shutB_size]; omega
  · rw [bsize_append, bsize_append, bsize_append, openB_size, shutB_size]; omega
theorem jtF_le (b : Bool) : ∀ (m r lv : Nat) (d : Dt), lv + r ≤ 20 → checkF r d = 0 → (jtF b m lv d).size ≤ jbF m d
  | 0, r, lv, d, _, _ => by rw [jtF, jbF]; show 0 ≤ _; omega
  | m + 1, r, lv, d, hlv, hc => by
    obtain ⟨r', rfl, _, hk⟩ := valid_kid hc
    have h := jparts_le b m lv (by omega) (jtF b m (lv + 1)) d (fun x hx => jtF_le b m r' (lv + 1) x (by omega) (hk x hx))
    rw [jtF]
    split
    · have := jqB_size (sD d); omega
    split
    · have := textD_size (m + 1) d; omega
    · have h1 := wrapB_size b lv (kD d) (jparts b lv (jtF b m (lv + 1)) d)
      have h2 : sumN (fun x : ByteArray => x.size + 1) (jparts b lv (jtF b m (lv + 1)) d) ≤ sumN (fun x => x.size + 50) (jparts b lv (jtF b m (lv + 1)) d) := sumN_mono fun x _ => by omega
      omega
end Go.Proofs.YtmmbbndoimleaaaGreatDoor

/- The law of blanks, plain. -/
namespace Go.Proofs.YtmmbbndoimleaaaGreatDoor
open Go.RowKit

theorem asc_of_srt : ∀ {l : List (ByteArray × Dt)}, SrtK Prod.fst l → (∀ s, (filK Prod.fst s l).length ≤ 1) → ascB l = true
  | [], _, _ => rfl
  | [x], _, _ => rfl
  | x :: y :: l, h, hd => by
    obtain ⟨h1, h2⟩ := List.pairwise_cons.1 h
    have hd2 : ∀ s, (filK Prod.fst s (y :: l)).length ≤ 1 := fun s => by
      have h3 := hd s
      unfold filK at h3 ⊢
      rw [List.filter_cons] at h3
      split at h3
      · rw [List.length_cons] at h3; omega
      · exact h3
    have ih := asc_of_srt h2 hd2
    have hlt : ltB x.1 y.1 = true := by
      cases hc : ltB x.1 y.1 with
      | true => rfl
      | false =>
        have e : x.1 = y.1 := ltB_antisymm hc (h1 y (List.mem_cons_self ..))
        have h3 := hd x.1
        unfold filK at h3
        rw [List.filter_cons, if_pos (by simp), List.filter_cons, if_pos (by simp [e])] at h3
        simp at h3
    show ascL x.1 (y :: l) = true
    unfold ascL
    rw [if_pos hlt]
    exact ih
theorem first_two {f : Dt → Int} : ∀ {l : List Dt}, (∀ x ∈ l, f x = 0 ∨ f x = 9) → firstE f l = 0 ∨ firstE f l = 9
  | [], _ => .inl rfl
  | x :: l, h => by
    unfold firstE
    rcases h x (List.mem_cons_self ..) with h1 | h1
    · rw [if_pos h1]; exact first_two fun y hy => h y (List.mem_cons_of_mem _ hy)
    · rw [if_neg (by omega)]; exact .inr h1
theorem str_nil {s : ByteArray} (h : s.toList = []) : s = ⟨#[]⟩ := by
  rw [ba_toList] at h
  apply ByteArray.ext
  exact Array.toList_inj.1 h
theorem leaf_clean {m : Nat} {lv : Int} {d : Dt} (hlv : ¬ 16 < lv) (h0 : d = mkD (kD d) (nD d) (sD d) (iD d) (mD d)) (hk : kD d = 1 ∨ kD d = 2 ∨ kD d = 3 ∨ kD d = 4) (hi : iD d = []) (hm : mD d = []) (ho : ownD d = 0) : cleanF (m + 1) lv d = d := by
  obtain ⟨_, p1, p2, _, _, _⟩ := valid_fields ho
  have e1 : (if kD d = 2 ∨ kD d = 3 then nD d else 0) = nD d := by split <;> omega
  have e2 : (if kD d = 4 then sD d else ⟨#[]⟩ : ByteArray) = sD d := by
    split
    · rfl
    · rcases p2 with h | h
      · contradiction
      · exact (str_nil h).symm
  have e3 : (if kD d = 5 then (iD d).map (cleanF m (lv + 1)) else []) = iD d := by rw [if_neg (by omega), hi]
  have e4 : (if kD d = 6 then sortK Prod.fst ((mD d).map fun x => (x.1, cleanF m (lv + 1) x.2)) else []) = mD d := by rw [if_neg (by omega), hm]
  rw [cleanF, if_neg hlv, e1, e2, e3, e4]
  exact h0.symm
theorem list_clean {m : Nat} {lv : Int} {d : Dt} (hlv : ¬ 16 < lv) (hk : kD d = 5) : cleanF (m + 1) lv d = mkD 5 0 ⟨#[]⟩ ((iD d).map (cleanF m (lv + 1))) [] := by
  rw [cleanF, if_neg hlv, hk, if_neg (by omega), if_neg (by omega), if_pos rfl, if_neg (by omega)]
theorem struct_clean {m : Nat} {lv : Int} {d : Dt} (hlv : ¬ 16 < lv) (hk : kD d = 6) : cleanF (m + 1) lv d = mkD 6 0 ⟨#[]⟩ [] (sortK Prod.fst ((mD d).map fun x => (x.1, cleanF m (lv + 1) x.2))) := by
  rw [cleanF, if_neg hlv, hk, if_neg (by omega), if_neg (by omega), if_neg (by omega), if_pos rfl]
theorem list_own (L : List Dt) : ownD (mkD 5 0 ⟨#[]⟩ L []) = 0 := by kernel_rfl
theorem struct_own {L : List (ByteArray × Dt)} (h : ascB L = true) : ownD (mkD 6 0 ⟨#[]⟩ [] L) = 0 := by
  have h1 : plainB (mkD 6 0 ⟨#[]⟩ [] L) = true := by kernel_rfl
  have h2 : rangeB (mkD 6 0 ⟨#[]⟩ [] L) = false := by kernel_rfl
  unfold ownD
  rw [h1, h2, mD_mk, h]; rfl
/-- What a reader made is sound, or too deep. -/
theorem good_check : ∀ (m : Nat) {d : Dt}, Good m d → ∀ (r m' : Nat) (lv : Int), lv = 17 - r → m ≤ m' → checkF r (cleanF m' lv d) = 0 ∨ checkF r (cleanF m' lv d) = 9
  | 0, _, h, _, _, _, _, _ => h.elim
  | m + 1, d, ⟨h0, hG⟩, 0, m', lv, _, _ => .inr rfl
  | m + 1, d, ⟨h0, hG⟩, r + 1, m', lv, hl, hm => by
    obtain ⟨m', rfl⟩ : ∃ q, m' = q + 1 := ⟨m' - 1, by omega⟩
    have hlv : ¬ 16 < lv := by omega
    rcases hG with ⟨hk, hi, hm0, ho⟩ | ⟨hk, hm0, hx⟩ | ⟨hk, hi, hx, hd⟩
    · rw [leaf_clean hlv h0 hk hi hm0 ho]
      refine .inl ?_
      unfold checkF
      rw [if_pos ho]
      unfold kids
      rw [hi, hm0]; rfl
    · rw [list_clean hlv hk]
      unfold checkF
      rw [if_pos (list_own _)]
      have e : kids (mkD 5 0 ⟨#[]⟩ ((iD d).map (cleanF m' (lv + 1))) []) = (iD d).map (cleanF m' (lv + 1)) := by unfold kids; simp
      rw [e]
      refine first_two fun y hy => ?_
      obtain ⟨x, hx2, rfl⟩ := List.mem_map.1 hy
      exact good_check m (hx x hx2) r m' (lv + 1) (by omega) (by omega)
    · rw [struct_clean hlv hk]
      obtain ⟨s1, s2⟩ := sortK_ok (k := Prod.fst) ((mD d).map fun x => (x.1, cleanF m' (lv + 1) x.2))
      have hasc : ascB (sortK Prod.fst ((mD d).map fun x => (x.1, cleanF m' (lv + 1) x.2))) = true := asc_of_srt s1 fun s => by
        rw [s2 s]
        have : filK Prod.fst s ((mD d).map fun x => (x.1, cleanF m' (lv + 1) x.2)) = (filK Prod.fst s (mD d)).map fun x => (x.1, cleanF m' (lv + 1) x.2) := by
          unfold filK; rw [List.filter_map]; rfl
        rw [this, List.length_map]; exact hd s
      unfold checkF
      rw [if_pos (struct_own hasc)]
      refine first_two fun y hy => ?_
      unfold kids at hy
      rw [iD_mk, mD_mk, List.nil_append] at hy
      obtain ⟨z, hz, rfl⟩ := List.mem_map.1 hy
      have hz2 := StaK.mem s2 hz
      obtain ⟨x, hx2, rfl⟩ := List.mem_map.1 hz2
      exact good_check m (hx x hx2) r m' (lv + 1) (by omega) (by omega)
theorem good_fuel : ∀ (m : Nat) {d : Dt}, Good m d → ∀ (m' : Nat) (lv : Int), m ≤ m' → cleanF m' lv d = cleanF m lv d
  | 0, _, h, _, _, _ => h.elim
  | m + 1, d, ⟨h0, hG⟩, m', lv, hm => by
    obtain ⟨m', rfl⟩ : ∃ q, m' = q + 1 := ⟨m' - 1, by omega⟩
    have hI : (iD d).map (cleanF m' (lv + 1)) = (iD d).map (cleanF m (lv + 1)) := List.map_congr_left fun x hx => by
      rcases hG with ⟨hk, hi, hm0, ho⟩ | ⟨hk, hm0, hx2⟩ | ⟨hk, hi, hx2, hd⟩
      · rw [hi] at hx; cases hx
      · exact good_fuel m (hx2 x hx) m' (lv + 1) (by omega)
      · rw [hi] at hx; cases hx
    have hM : ((mD d).map fun x => (x.1, cleanF m' (lv + 1) x.2)) = (mD d).map fun x => (x.1, cleanF m (lv + 1) x.2) := List.map_congr_left fun x hx => by
      rcases hG with ⟨hk, hi, hm0, ho⟩ | ⟨hk, hm0, hx2⟩ | ⟨hk, hi, hx2, hd⟩
      · rw [hm0] at hx; cases hx
      · rw [hm0] at hx; cases hx
      · rw [good_fuel m (hx2 x hx) m' (lv + 1) (by omega)]
    rw [cleanF, cleanF, hI, hM]
theorem val_err {S : ByteArray} {m i : Nat} {e a : Int} (hi : i < S.size) (hm : S.size < i + m) (h : valF S m i = .error (e, a)) : e ≠ 0 := by
  have H : Shift S (S ++ ⟨#[93]⟩) 0 false := by
    have hs : (S ++ ⟨#[93]⟩ : ByteArray).size = S.size + 1 := by rw [bsize_append]; rfl
    have hin : ∀ i, i < S.size → nx (S ++ ⟨#[93]⟩) (0 + i) = nx S i := fun i hi => by
      rw [Nat.zero_add, nx_at (S := S ++ ⟨#[93]⟩) (by omega), nx_at hi, ByteArray.getElem_append_left hi]
    have hend : nx (S ++ ⟨#[93]⟩) (0 + S.size) = 93 := by
      rw [Nat.zero_add, nx_at (S := S ++ ⟨#[93]⟩) (by omega), ByteArray.getElem_append_right (Nat.le_refl _)]
      simp
      rfl
    exact ⟨hin, by omega, by rw [hend]; rfl, by rw [hend]; decide, fun h => (by cases h), fun h => (by cases h)⟩
  have := sh_val H m m i hm (Nat.le_refl _) hi
  rw [h] at this
  exact this.1.1
end Go.Proofs.YtmmbbndoimleaaaGreatDoor

/- The law of blanks: the three answers. -/
namespace Go.Proofs.YtmmbbndoimleaaaGreatDoor
open Go.RowKit

def preB : ByteArray := ⟨#[32, 9]⟩
def sufB : ByteArray := ⟨#[13, 10, 32]⟩
theorem nx_app_l {A B : ByteArray} {i : Nat} (h : i < A.size) : nx (A ++ B) i = nx A i := by
  rw [nx_at (S := A ++ B) (by rw [bsize_append]; omega), nx_at h, ByteArray.getElem_append_left h]
theorem nx_app_r (A B : ByteArray) (i : Nat) : nx (A ++ B) (A.size + i) = nx B i := by
  by_cases h : i < B.size
  · rw [nx_at (S := A ++ B) (by rw [bsize_append]; omega), nx_at h, ByteArray.getElem_append_right (by omega)]
    simp
  · rw [nx_past (S := A ++ B) (by rw [bsize_append]; omega), nx_past h]
theorem nx_in3 (A S B : ByteArray) {i : Nat} (h : i < S.size) : nx (A ++ S ++ B) (A.size + i) = nx S i := by
  rw [nx_app_l (by rw [bsize_append]; omega), nx_app_r]
theorem nx_behind (A S B : ByteArray) (i : Nat) : nx (A ++ S ++ B) (A.size + S.size + i) = nx B i := by
  have := nx_app_r (A ++ S) B i
  rw [bsize_append] at this; exact this
theorem shift_blank (S : ByteArray) : Shift S (preB ++ S ++ sufB) 2 true := by
  have hs : (preB ++ S ++ sufB).size = 2 + S.size + 3 := by rw [bsize_append, bsize_append]; rfl
  have h0 : nx (preB ++ S ++ sufB) (2 + S.size) = 13 := nx_behind preB S sufB 0
  have h1 : nx (preB ++ S ++ sufB) (2 + S.size + 1) = 10 := nx_behind preB S sufB 1
  have h2 : nx (preB ++ S ++ sufB) (2 + S.size + 2) = 32 := nx_behind preB S sufB 2
  refine ⟨fun i hi => nx_in3 preB S sufB hi, by omega, by rw [h0]; rfl, by rw [h0]; decide, fun _ => h0, fun _ => ?_⟩
  show runF blkB _ _ = _
  rw [run_step rfl (by rw [h0]; rfl), run_step rfl (by rw [h1]; rfl), run_step rfl (by rw [show 2 + S.size + 1 + 1 = 2 + S.size + 2 by omega, h2]; rfl), run_stop (by rw [nx_past (by omega)]; rfl), hs]
theorem shift_list (S : ByteArray) : Shift S (⟨#[91]⟩ ++ S ++ ⟨#[93]⟩) 1 false := by
  have hs : (⟨#[91]⟩ ++ S ++ ⟨#[93]⟩ : ByteArray).size = 1 + S.size + 1 := by rw [bsize_append, bsize_append]; rfl
  have h0 : nx (⟨#[91]⟩ ++ S ++ ⟨#[93]⟩) (1 + S.size) = 93 := nx_behind ⟨#[91]⟩ S ⟨#[93]⟩ 0
  exact ⟨fun i hi => nx_in3 ⟨#[91]⟩ S ⟨#[93]⟩ hi, by omega, by rw [h0]; rfl, by rw [h0]; decide, fun h => (by cases h), fun h => (by cases h)⟩
/-- What the first text and the second answer. -/
def BlankB (n : Nat) (r t : Dt × Flt) : Prop :=
  (r.2 = (0, 0) → t.2 = (0, 0) ∧ t.1 = r.1) ∧ (r.2 ≠ (0, 0) → (0 ≤ r.2.2 ∧ r.2.2 ≤ (n : Int)) ∧ ((r.2.1 = 9 ∨ r.2.2 = (n : Int)) → t.2.1 ≠ 0) ∧ (¬ (r.2.1 = 9 ∨ r.2.2 = (n : Int)) → t.2 = (r.2.1, r.2.2 + 2)))
theorem parse_small {S : ByteArray} (h : S.size ≤ 65536) : parseF S = match valF S (S.size + 1) (blk S 0) with
  | .error f => (zeroD, f)
  | .ok (d, j) => if blk S j < S.size then (zeroD, (19, (blk S j : Nat))) else
    if checkD (cleanF (S.size + 1) 1 d) = 0 then (cleanF (S.size + 1) 1 d, (0, 0)) else (zeroD, (checkD (cleanF (S.size + 1) 1 d), 0)) := by
  unfold parseF
  rw [if_neg (by omega)]
  rfl
theorem blank_b {n : Nat} {e a : Int} {D : Dt} {t : Dt × Flt} (he : e ≠ 0 ∧ 0 ≤ a ∧ a ≤ (n : Int)) (h1 : a = (n : Int) → t.2.1 ≠ 0) (h2 : a ≠ (n : Int) → t.2 = (e, a + 2)) : BlankB n (D, (e, a)) t := by
  refine ⟨fun h => absurd (congrArg Prod.fst h) he.1, fun _ => ⟨he.2, fun h => ?_, fun h => h2 fun e => h (.inr e)⟩⟩
  by_cases ha : a = (n : Int)
  · exact h1 ha
  · rw [h2 ha]; exact he.1
theorem blanks_law {S : ByteArray} (hn : S.size ≤ 300) : BlankB S.size (parseF S) (parseF (preB ++ S ++ sufB)) := by
  have H := shift_blank S
  have hs : (preB ++ S ++ sufB).size = 2 + S.size + 3 := by rw [bsize_append, bsize_append]; rfl
  obtain ⟨T, hT⟩ : ∃ T, T = preB ++ S ++ sufB := ⟨_, rfl⟩
  have q0 : nx T 0 = 32 := by
    rw [hT, nx_app_l (by rw [bsize_append]; show 0 < 2 + _; omega), nx_app_l (by decide)]; rfl
  have q1 : nx T 1 = 9 := by
    rw [hT, nx_app_l (by rw [bsize_append]; show 1 < 2 + _; omega), nx_app_l (by decide)]; rfl
  rw [← hT] at H hs ⊢
  have b0 : blk T 0 = blk T (2 + 0) := by
    show runF blkB T 0 = runF blkB T 2
    rw [run_step rfl (by rw [q0]; rfl), run_step rfl (by rw [q1]; rfl)]
  obtain ⟨c1, c2⟩ := sh_blk H (i := 0) (Nat.zero_le _)
  have hle : blk S 0 ≤ S.size := run_le _ (Nat.zero_le _)
  rw [parse_small (S := S) (by omega), parse_small (S := T) (by omega), b0]
  rcases Nat.eq_or_lt_of_le hle with he | he
  · rw [he, val_end, c2 he, H.tail rfl, val_end]
    exact blank_b ⟨by decide, by omega, by omega⟩ (fun _ => by show (19 : Int) ≠ 0; decide) (fun h => absurd rfl h)
  · rw [c1 he]
    have hv := sh_val H (S.size + 1) (T.size + 1) (blk S 0) (by omega) (by omega) he
    cases hq : valF S (S.size + 1) (blk S 0) with
    | error f =>
      obtain ⟨e, a⟩ := f
      rw [hq] at hv
      obtain ⟨h0, hv⟩ := hv
      obtain ⟨w1, w2⟩ := hv rfl
      refine blank_b h0 (fun h => ?_) (fun h => ?_)
      · obtain ⟨g, hg, hg2⟩ := w1 h
        rw [hg]; exact hg2
      · rw [w2 h]; rfl
    | ok q =>
      obtain ⟨d, j⟩ := q
      rw [hq] at hv
      have hv : valF T (T.size + 1) (2 + blk S 0) = .ok (d, 2 + j) := hv
      rw [hv]
      simp only
      obtain ⟨g1, g2⟩ := val_gain _ hq
      have hG := val_good _ hq
      obtain ⟨d1, d2⟩ := sh_blk H g2
      have hjl : blk S j ≤ S.size := run_le _ g2
      rcases Nat.eq_or_lt_of_le hjl with hj | hj
      · rw [hj, if_neg (Nat.lt_irrefl _), d2 hj, H.tail rfl, if_neg (Nat.lt_irrefl _), good_fuel _ hG (T.size + 1) 1 (by omega)]
        have hc : checkD (cleanF (S.size + 1) 1 d) = 0 ∨ checkD (cleanF (S.size + 1) 1 d) = 9 := good_check _ hG 16 (S.size + 1) 1 rfl (Nat.le_refl _)
        rcases hc with hc | hc
        · rw [if_pos hc]
          exact ⟨fun _ => ⟨rfl, rfl⟩, fun h => absurd rfl h⟩
        · rw [if_neg (by omega), hc]
          exact ⟨fun h => absurd (congrArg Prod.fst h) (by decide), fun _ => ⟨⟨by show (0 : Int) ≤ 0; omega, by show (0 : Int) ≤ _; omega⟩, fun _ => by show (9 : Int) ≠ 0; decide, fun h => absurd (.inl rfl) h⟩⟩
      · rw [if_pos hj, d1 hj, if_pos (by omega)]
        exact blank_b ⟨by decide, by omega, by omega⟩ (fun h => absurd h (by omega)) (fun _ => by show ((19 : Int), _) = _; congr 1; omega)
theorem blk_idem (T : ByteArray) (i : Nat) : blk T (blk T i) = blk T i := blk_stay (run_end blkB rfl T _ i rfl)
/-- What the list around the first text answers. -/
theorem list_law {S : ByteArray} (hn : S.size ≤ 300) (h : (parseF S).2 = (0, 0)) : (parseF (⟨#[91]⟩ ++ S ++ ⟨#[93]⟩)).2 = (9, 0) ∧ (parseF (⟨#[91]⟩ ++ S ++ ⟨#[93]⟩)).1 = zeroD ∨ (parseF (⟨#[91]⟩ ++ S ++ ⟨#[93]⟩)).2 = (0, 0) ∧ iD (parseF (⟨#[91]⟩ ++ S ++ ⟨#[93]⟩)).1 = [(parseF S).1] := by
  have H := shift_list S
  have hs : (⟨#[91]⟩ ++ S ++ ⟨#[93]⟩ : ByteArray).size = 1 + S.size + 1 := by rw [bsize_append, bsize_append]; rfl
  have h93 : nx (⟨#[91]⟩ ++ S ++ ⟨#[93]⟩) (1 + S.size) = 93 := nx_behind ⟨#[91]⟩ S ⟨#[93]⟩ 0
  obtain ⟨T, hT⟩ : ∃ T : ByteArray, T = ⟨#[91]⟩ ++ S ++ ⟨#[93]⟩ := ⟨_, rfl⟩
  have q0 : nx T 0 = 91 := by
    rw [hT, nx_app_l (by rw [bsize_append]; show 0 < 1 + _; omega), nx_app_l (by decide)]; rfl
  rw [← hT] at H hs h93 ⊢
  have hle : blk S 0 ≤ S.size := run_le _ (Nat.zero_le _)
  rw [parse_small (S := S) (by omega)] at h ⊢
  rw [parse_small (S := T) (by omega), blk_stay (S := T) (i := 0) (by rw [q0]; rfl)]
  rcases Nat.eq_or_lt_of_le hle with he | he
  · rw [he, val_end] at h
    exact absurd (congrArg Prod.fst h) (show ¬ (19 : Int) = 0 by decide)
  have hv := sh_val H (S.size + 1) T.size (blk S 0) (by omega) (by omega) he
  cases hq : valF S (S.size + 1) (blk S 0) with
  | error f =>
    obtain ⟨e, a⟩ := f
    rw [hq] at h hv
    exact absurd (congrArg Prod.fst h) hv.1.1
  | ok q =>
    obtain ⟨d, j⟩ := q
    rw [hq] at h hv
    have hv : valF T T.size (1 + blk S 0) = .ok (d, 1 + j) := hv
    simp only at h ⊢
    obtain ⟨g1, g2⟩ := val_gain _ hq
    have hG := val_good _ hq
    have hjl : blk S j ≤ S.size := run_le _ g2
    rcases Nat.eq_or_lt_of_le hjl with hj | hj
    · rw [hj, if_neg (Nat.lt_irrefl _)] at h ⊢
      have hc0 : checkD (cleanF (S.size + 1) 1 d) = 0 := by
        by_cases hc : checkD (cleanF (S.size + 1) 1 d) = 0
        · exact hc
        · rw [if_neg hc] at h
          exact absurd (congrArg Prod.fst h) hc
      rw [if_pos hc0]
      obtain ⟨c1, _⟩ := sh_blk H (i := 0) (Nat.zero_le _)
      obtain ⟨_, d2⟩ := sh_blk H g2
      have e1 : blk T (0 + 1) = 1 + blk S 0 := c1 he
      have hne : nx T (1 + blk S 0) ≠ 93 := by
        rw [H.in_ _ he]
        intro e
        unfold valF at hq
        rw [e] at hq
        cases hq
      have e2 : blk T (1 + blk S 0) = 1 + blk S 0 := by rw [← e1]; exact blk_idem T 1
      have e3 : blk T (1 + j) = 1 + S.size := by rw [d2 hj]; exact blk_stay (by rw [h93]; rfl)
      have hval : valF T (T.size + 1) 0 = .ok (mkD 5 0 ⟨#[]⟩ [d] [], T.size) := by
        rw [val_list q0]
        unfold sevF
        rw [e1, if_neg hne, sevR_eq (val_ig T T.size) _ (by omega), e2]
        unfold itemS
        rw [hv]
        simp only
        rw [e3, h93, if_pos rfl, hs]; rfl
      rw [hval]
      simp only
      rw [blk_stay (S := T) (i := T.size) (by rw [nx_past (by omega)]; rfl), if_neg (Nat.lt_irrefl _)]
      have hGL : Good (S.size + 1 + 1) (mkD 5 0 ⟨#[]⟩ [d] []) := ⟨by simp, .inr (.inl ⟨rfl, by simp, fun x hx => by
        have : x = d := by simpa using hx
        subst this; exact hG⟩)⟩
      have hcl : cleanF (T.size + 1) 1 (mkD 5 0 ⟨#[]⟩ [d] []) = mkD 5 0 ⟨#[]⟩ [cleanF T.size 2 d] [] := list_clean (by decide) rfl
      have hck : checkD (cleanF (T.size + 1) 1 (mkD 5 0 ⟨#[]⟩ [d] [])) = checkF 15 (cleanF T.size 2 d) := by
        rw [hcl]
        unfold checkD checkF
        rw [if_pos (list_own _)]
        have e : kids (mkD 5 0 ⟨#[]⟩ [cleanF T.size 2 d] []) = [cleanF T.size 2 d] := by unfold kids; simp
        rw [e]
        show (if _ = 0 then 0 else _) = _
        split
        · rename_i hz; exact hz.symm
        · rfl
      rw [hck]
      rcases good_check _ hG 15 T.size 2 rfl (by omega) with hc | hc
      · rw [if_pos hc]
        refine .inr ⟨rfl, ?_⟩
        show iD (cleanF _ 1 (mkD 5 0 ⟨#[]⟩ [d] [])) = [cleanF (S.size + 1) 1 d]
        rw [hcl, iD_mk]
        rw [check_clean 15 T.size 2 d rfl] at hc
        have hc0' : checkF 16 (cleanF (T.size) 1 d) = 0 := by rw [good_fuel _ hG T.size 1 (by omega)]; exact hc0
        rw [check_clean 16 T.size 1 d rfl] at hc0'
        rw [clean_clear 15 T.size 2 d rfl hc, ← clean_clear 16 T.size 1 d rfl hc0', good_fuel _ hG T.size 1 (by omega)]
      · rw [if_neg (by omega), hc]
        exact .inl ⟨rfl, rfl⟩
    · rw [if_pos hj] at h
      exact absurd (congrArg Prod.fst h) (show ¬ (19 : Int) = 0 by decide)
end Go.Proofs.YtmmbbndoimleaaaGreatDoor

/- The text of the reference: the plain part: digits, and texts between commas. -/
namespace Go.Proofs.YtmmbbndoimleaaaGreatDoor
open Go.RowKit Go.Shelf

/-- Digits of the reference. -/
def digF : Nat → Nat → Nat → List UInt8 → List UInt8
  | 0, _, _, s => s
  | f + 1, n, l, s => if 0 < n ∨ s.length < l then digF f (n / 10) l (UInt8.ofNat (48 + n % 10) :: s) else s
theorem digF_one : ∀ (f n : Nat) (s : List UInt8), n < 10 ^ f → s ≠ [] → digF f n 1 s = (if n = 0 then s else Lib.decDigits n ++ s)
  | 0, n, s, h, hs => by
    have : n = 0 := by simpa using h
    subst this; rfl
  | f + 1, n, s, h, hs => by
    unfold digF
    have hl : ¬ s.length < 1 := by
      cases s with
      | nil => exact absurd rfl hs
      | cons x s => simp
    by_cases h0 : n = 0
    · subst h0; rw [if_neg (by omega), if_pos rfl]
    · rw [if_pos (.inl (by omega)), digF_one f (n / 10) _ (by rw [Nat.pow_succ] at h; omega) (by simp), if_neg h0]
      by_cases h1 : n < 10
      · rw [if_pos (by omega), Lib.decDigits_one h1, Nat.mod_eq_of_lt h1]; rfl
      · have hd : Lib.decDigits n = Lib.decDigits (n / 10) ++ [UInt8.ofNat (48 + n % 10)] := by rw [Lib.decDigits, dif_neg h1]
        rw [if_neg (by omega), hd]; simp
theorem digF_dec (n : Nat) (h : n < 10000000000000000000) : digF 20 n 1 [] = Lib.decDigits n := by
  show (if 0 < n ∨ ([] : List UInt8).length < 1 then digF 19 (n / 10) 1 [UInt8.ofNat (48 + n % 10)] else []) = _
  rw [if_pos (.inr (by simp)), digF_one 19 (n / 10) _ (by omega) (by simp)]
  by_cases h1 : n < 10
  · rw [if_pos (by omega), Lib.decDigits_one h1, Nat.mod_eq_of_lt h1]
  · have hd : Lib.decDigits n = Lib.decDigits (n / 10) ++ [UInt8.ofNat (48 + n % 10)] := by rw [Lib.decDigits, dif_neg h1]
    rw [if_neg (by omega), hd]
theorem dec_split {n : Nat} (h : ¬ n < 10) : Lib.decDigits n = Lib.decDigits (n / 10) ++ [UInt8.ofNat (48 + n % 10)] := by rw [Lib.decDigits, dif_neg h]
theorem dec_five (n : Nat) (h : n < 10000) : Lib.decDigits (n + 10000) = [49, UInt8.ofNat (48 + n / 1000), UInt8.ofNat (48 + n / 100 % 10), UInt8.ofNat (48 + n / 10 % 10), UInt8.ofNat (48 + n % 10)] := by
  rw [dec_split (by omega), dec_split (by omega), dec_split (by omega), dec_split (by omega), Lib.decDigits_one (by omega)]
  have e1 : (n + 10000) / 10 / 10 / 10 / 10 = 1 := by omega
  have e2 : (n + 10000) / 10 / 10 / 10 % 10 = n / 1000 := by omega
  have e3 : (n + 10000) / 10 / 10 % 10 = n / 100 % 10 := by omega
  have e4 : (n + 10000) / 10 % 10 = n / 10 % 10 := by omega
  have e5 : (n + 10000) % 10 = n % 10 := by omega
  rw [e1, e2, e3, e4, e5]; rfl
theorem digF_four (n : Nat) (h : n < 10000) : digF 20 n 4 [] = (Lib.decDigits (n + 10000)).drop 1 := by
  rw [dec_five n h]
  unfold digF; rw [if_pos (.inr (by simp))]
  unfold digF; rw [if_pos (.inr (by simp))]
  unfold digF; rw [if_pos (.inr (by simp))]
  unfold digF; rw [if_pos (.inr (by simp))]
  unfold digF
  rw [if_neg (by simp; omega)]
  have e2 : n / 10 / 10 / 10 % 10 = n / 1000 := by omega
  have e3 : n / 10 / 10 % 10 = n / 100 % 10 := by omega
  rw [e2, e3]; rfl
theorem digF_len : ∀ (f n l : Nat) (s : List UInt8), (digF f n l s).length ≤ f + s.length
  | 0, _, _, _ => by simp [digF]
  | f + 1, n, l, s => by
    unfold digF
    split
    · have := digF_len f (n / 10) l (UInt8.ofNat (48 + n % 10) :: s)
      rw [List.length_cons] at this; omega
    · omega
/-- Trimmed away means all were zeros. -/
theorem trim_none : ∀ (n : Nat) (s : ByteArray), s.size = n → (trimF n s).toList = [] → ∀ i, i < n → s.get! i = 48
  | 0, s, _, _, i, hi => by omega
  | n + 1, s, hs, h, i, hi => by
    unfold trimF at h
    split at h
    · rename_i h48
      rcases Nat.lt_or_ge i n with h1 | h1
      · have := trim_none n (s.extract 0 n) (by rw [ByteArray.size_extract]; omega) h i h1
        have e : (s.extract 0 n).get! i = s.get! i := by
          rw [get_eq _ i (by rw [ByteArray.size_extract]; omega), get_eq s i (by omega), ByteArray.getElem_extract]
          simp
        rw [← e]; exact this
      · obtain rfl : i = n := by omega
        exact h48
    · rw [Lib.toList_data] at h
      have h2 : s.data.toList.length = s.size := by rw [Array.length_toList]; rfl
      rw [h] at h2; simp at h2; omega
theorem frac_some {r : Nat} (h : r < 10000) (h0 : r ≠ 0) : (fracB r).toList ≠ [] := by
  intro e
  unfold fracB trimB at e
  have hs : ((decB (r + 10000)).extract 1 (decB (r + 10000)).size).size = 4 := by
    have : (decB (r + 10000)).size = 5 := by rw [decB_size]; exact Lib.nDigits_unique 4 _ (by omega) (by omega)
    rw [ByteArray.size_extract]; omega
  have hd : (decB (r + 10000)).extract 1 (decB (r + 10000)).size = ⟨#[UInt8.ofNat (48 + r / 1000), UInt8.ofNat (48 + r / 100 % 10), UInt8.ofNat (48 + r / 10 % 10), UInt8.ofNat (48 + r % 10)]⟩ := by
    unfold decB; rw [dec_five r h]; rfl
  have key := trim_none _ _ rfl e
  rw [hs, hd] at key
  have k0 := key 0 (by omega); have k1 := key 1 (by omega); have k2 := key 2 (by omega); have k3 := key 3 (by omega)
  have f : ∀ x : Nat, x < 10 → UInt8.ofNat (48 + x) = 48 → x = 0 := by
    intro x hx hh
    have := congrArg UInt8.toNat hh
    simp at this; omega
  have a0 := f (r / 1000) (by omega) k0
  have a1 := f (r / 100 % 10) (by omega) k1
  have a2 := f (r / 10 % 10) (by omega) k2
  have a3 := f (r % 10) (by omega) k3
  omega
theorem frac_zero : fracB 0 = ByteArray.empty := by
  have : (decB (0 + 10000)).extract 1 (decB (0 + 10000)).size = ⟨#[48, 48, 48, 48]⟩ := by
    unfold decB; rw [dec_five 0 (by omega)]; rfl
  unfold fracB; rw [this]; rfl

/-- Texts with commas between. -/
def comB (l : List ByteArray) : ByteArray := ⟨(Lib.join (l.map (·.data.toList)) [44, 32]).toArray⟩
theorem comB_nil : comB [] = ByteArray.empty := rfl
theorem joinTail_append (a b : List (List UInt8)) (sep : List UInt8) : Lib.joinTail sep (a ++ b) = Lib.joinTail sep a ++ Lib.joinTail sep b := by simp [Lib.joinTail]
theorem comB_push (l : List ByteArray) (t : ByteArray) : comB (l ++ [t]) = (if 0 < l.length then comB l ++ ⟨#[44, 32]⟩ else comB l) ++ t := by
  cases l with
  | nil =>
    show comB [t] = ByteArray.empty ++ t
    rw [ByteArray.empty_append]
    unfold comB
    simp [Lib.join_one]
  | cons x l =>
    rw [if_pos (by simp)]
    unfold comB
    refine ByteArray.ext (Array.toList_inj.1 ?_)
    simp only [List.cons_append, List.map_cons, List.map_append, List.map_nil, Lib.join_cons, joinTail_append, ByteArray.data_append, Array.toList_append]
    simp [Lib.joinTail]
theorem comB_size (l : List ByteArray) : (comB l).size ≤ sumN (fun x => x.size + 2) l := by
  have : (comB l).size = (Lib.join (l.map (·.data.toList)) [44, 32]).length := by unfold comB; show (_ : List UInt8).toArray.size = _; simp
  rw [this]; exact join_le l
theorem sumN_take {α : Type} (f : α → Nat) : ∀ (l : List α) (i : Nat), sumN f (l.take i) ≤ sumN f l
  | [], i => by simp
  | x :: l, 0 => by simp [sumN]
  | x :: l, i + 1 => by rw [List.take_succ_cons, sumN, sumN]; have := sumN_take f l i; omega
end Go.Proofs.YtmmbbndoimleaaaGreatDoor

/- The order of data is antisymmetric and transitive: plain. -/
namespace Go.Proofs.YtmmbbndoimleaaaGreatDoor
open Go.RowKit

/-- A comparison by three results that is antisymmetric and transitive. -/
structure O3 {α : Type} (f : α → α → Int) : Prop where
  rng : ∀ a b, -1 ≤ f a b ∧ f a b ≤ 1
  anti : ∀ a b, f b a = - f a b
  trans : ∀ a b c, f a b ≤ 0 → f b c ≤ 0 → f a c ≤ 0 ∧ (f a c = 0 → f a b = 0 ∧ f b c = 0)
theorem O3.refl {α : Type} {f : α → α → Int} (h : O3 f) (a : α) : f a a = 0 := by have := h.anti a a; omega
theorem O3.eq_trans {α : Type} {f : α → α → Int} (h : O3 f) {a b c : α} (h1 : f a b = 0) (h2 : f b c = 0) : f a c = 0 := by
  have t1 := (h.trans a b c (by omega) (by omega)).1
  have t2 := (h.trans c b a (by have := h.anti b c; omega) (by have := h.anti a b; omega)).1
  have := h.anti a c
  omega
theorem O3.zero {α : Type} : O3 (fun _ _ : α => (0 : Int)) := ⟨fun _ _ => by omega, fun _ _ => by omega, fun _ _ _ _ _ => by simp⟩
theorem O3.pull {α β : Type} {f : β → β → Int} (h : O3 f) (g : α → β) : O3 (fun a b => f (g a) (g b)) := ⟨fun _ _ => h.rng _ _, fun _ _ => h.anti _ _, fun _ _ _ => h.trans _ _ _⟩
theorem O3.lex {α : Type} {f g : α → α → Int} (h : O3 f) (h' : O3 g) : O3 (fun a b => orI (f a b) (g a b)) := by
  refine ⟨fun a b => ?_, fun a b => ?_, fun a b c h1 h2 => ?_⟩
  · unfold orI; have := h.rng a b; have := h'.rng a b; split <;> omega
  · have e1 := h.anti a b; have e2 := h'.anti a b
    unfold orI; split <;> split <;> omega
  · have t1 := h.trans a b c
    have t2 := h'.trans a b c
    have r0 := fun h1 h2 => h.eq_trans (a := a) (b := b) (c := c) h1 h2
    unfold orI at h1 h2 ⊢
    have f1 : f a b ≤ 0 := by split at h1 <;> omega
    have f2 : f b c ≤ 0 := by split at h2 <;> omega
    obtain ⟨f3, f4⟩ := t1 f1 f2
    by_cases hz : f a c = 0
    · obtain ⟨z1, z2⟩ := f4 hz
      rw [z1] at h1
      rw [z2] at h2
      simp at h1 h2
      obtain ⟨g3, g4⟩ := t2 h1 h2
      rw [hz, z1, z2]
      simp
      exact ⟨g3, g4⟩
    · simp [hz]
      exact f3
theorem O3.list {α : Type} {f : α → α → Int} (h : O3 f) : O3 (cmpL f) := by
  refine ⟨fun a => ?_, fun a => ?_, fun a => ?_⟩
  · induction a with
    | nil => intro b; cases b <;> simp [cmpL]
    | cons x a ih =>
      intro b
      cases b with
      | nil => simp [cmpL]
      | cons y b =>
        unfold cmpL
        have := h.rng x y
        split
        · exact ih b
        · exact this
  · induction a with
    | nil => intro b; cases b <;> simp [cmpL]
    | cons x a ih =>
      intro b
      cases b with
      | nil => simp [cmpL]
      | cons y b =>
        unfold cmpL
        have e := h.anti x y
        have e2 := ih b
        by_cases hz : f x y = 0
        · rw [if_pos hz, if_pos (by omega)]; exact e2
        · rw [if_neg hz, if_neg (by omega)]; exact e
  · induction a with
    | nil => intro b c; cases b <;> cases c <;> simp [cmpL]
    | cons x a ih =>
      intro b c
      cases b with
      | nil => intro h1; simp [cmpL] at h1
      | cons y b =>
        cases c with
        | nil => intro _ h2; simp [cmpL] at h2
        | cons z c =>
          intro h1 h2
          unfold cmpL at h1 h2 ⊢
          have t := h.trans x y z
          have t2 := ih b c
          have f1 : f x y ≤ 0 := by split at h1 <;> omega
          have f2 : f y z ≤ 0 := by split at h2 <;> omega
          obtain ⟨f3, f4⟩ := t f1 f2
          by_cases hz : f x z = 0
          · obtain ⟨z1, z2⟩ := f4 hz
            rw [if_pos z1] at h1
            rw [if_pos z2] at h2
            rw [if_pos hz, if_pos z1, if_pos z2]
            exact t2 h1 h2
          · rw [if_neg hz]
            exact ⟨f3, fun e => absurd e hz⟩
theorem O3.int : O3 cmpI := by
  refine ⟨fun a b => ?_, fun a b => ?_, fun a b c h1 h2 => ?_⟩
  · unfold cmpI; split <;> (try split) <;> omega
  · unfold cmpI; split <;> (try split) <;> (try split) <;> (try split) <;> omega
  · have e1 : a ≤ b := by unfold cmpI at h1; split at h1 <;> (try split at h1) <;> omega
    have e2 : b ≤ c := by unfold cmpI at h2; split at h2 <;> (try split at h2) <;> omega
    unfold cmpI
    constructor
    · split <;> (try split) <;> omega
    · intro hz
      have : a = c := by split at hz <;> (try split at hz) <;> omega
      have e3 : a = b := by omega
      subst e3 this
      simp
theorem cmpS_cases (a b : ByteArray) : (ltB a b = true ∧ ltB b a = false ∧ cmpS a b = -1) ∨ (ltB a b = false ∧ ltB b a = true ∧ cmpS a b = 1) ∨ (a = b ∧ ltB a b = false ∧ cmpS a b = 0) := by
  by_cases h : ltB a b = true
  · exact .inl ⟨h, bl_asymm _ _ h, if_pos h⟩
  · have h' : ltB a b = false := by simpa using h
    have e : cmpS a b = if gtB a b = true then 1 else 0 := if_neg h
    by_cases hab : a = b
    · subst hab
      refine .inr (.inr ⟨rfl, h', ?_⟩)
      rw [e]; unfold gtB; simp
    · have hg : gtB a b = true := by
        unfold gtB
        have h1 : Op.bytesLess a.toList b.toList = false := h'
        rw [h1, Bool.false_or, Bool.not_eq_true', beq_eq_false_iff_ne]
        intro e2
        rw [ba_toList, ba_toList] at e2
        refine hab ?_
        cases a; cases b
        simp at e2
        exact congrArg _ e2
      refine .inr (.inl ⟨h', ?_, by rw [e, if_pos hg]⟩)
      rcases Bool.eq_false_or_eq_true (ltB b a) with h2 | h2
      · exact h2
      · exact absurd (ltB_antisymm h' h2) hab
theorem cmpS_le {a b : ByteArray} (h : cmpS a b ≤ 0) : ltB b a = false := by
  rcases cmpS_cases a b with ⟨_, h2, _⟩ | ⟨_, _, h3⟩ | ⟨rfl, h2, _⟩
  · exact h2
  · omega
  · exact h2
theorem O3.str : O3 cmpS := by
  refine ⟨fun a b => ?_, fun a b => ?_, fun a b c h1 h2 => ?_⟩
  · rcases cmpS_cases a b with ⟨_, _, h⟩ | ⟨_, _, h⟩ | ⟨_, _, h⟩ <;> rw [h] <;> omega
  · rcases cmpS_cases a b with ⟨u, v, h⟩ | ⟨u, v, h⟩ | ⟨rfl, v, h⟩
    · rcases cmpS_cases b a with ⟨u', v', h'⟩ | ⟨u', v', h'⟩ | ⟨e', v', h'⟩
      · rw [u'] at v; cases v
      · rw [h, h']; rfl
      · subst e'; rw [u] at v'; cases v'
    · rcases cmpS_cases b a with ⟨u', v', h'⟩ | ⟨u', v', h'⟩ | ⟨e', v', h'⟩
      · rw [h, h']
      · rw [v'] at u; cases u
      · subst e'; rw [v] at v'; cases v'
    · rw [h]; rfl
  · have l1 := cmpS_le h1
    have l2 := cmpS_le h2
    have l3 : ltB c a = false := bl_trans _ _ _ l1 l2
    rcases cmpS_cases a c with ⟨u, v, h⟩ | ⟨u, v, h⟩ | ⟨rfl, v, h⟩
    · rw [h]; exact ⟨by omega, fun e => by omega⟩
    · rw [v] at l3; cases l3
    · have : a = b := ltB_antisymm l2 l1
      subst this
      rw [h]; simp
theorem compF_ord : ∀ m : Nat, O3 (compF m)
  | 0 => O3.zero
  | m + 1 => by
    have ih := compF_ord m
    have hM : O3 (compM (compF m)) := (O3.str.pull Prod.fst).lex (ih.pull Prod.snd)
    have h1 := (O3.int.pull nD).lex (O3.str.pull sD)
    have h2 := (ih.list.pull iD).lex (hM.list.pull mD)
    have h3 := (O3.int.pull kD).lex (h1.lex h2)
    have e : compF (m + 1) = fun a b => orI (cmpI (kD a) (kD b)) (orI (orI (cmpI (nD a) (nD b)) (cmpS (sD a) (sD b))) (orI (cmpL (compF m) (iD a) (iD b)) (cmpL (compM (compF m)) (mD a) (mD b)))) := by
      funext a b
      show (if kD a = kD b then _ else _) = _
      by_cases hk : kD a = kD b
      · rw [if_pos hk, show cmpI (kD a) (kD b) = 0 by rw [hk]; unfold cmpI; simp]
        unfold orI
        rw [if_pos rfl]
      · rw [if_neg hk]
        have : cmpI (kD a) (kD b) ≠ 0 := by unfold cmpI; split <;> (try split) <;> omega
        show _ = if cmpI (kD a) (kD b) = 0 then _ else _
        rw [if_neg this]
    rw [e]; exact h3
end Go.Proofs.YtmmbbndoimleaaaGreatDoor
