/- What is printed is read back, plain: values; The chapter's example; The laws' example is as the chapter says; The laws over one piece of data: the first error; levels and parts; Letter, Digit, written, Quote, Words, Ident and Label of the reference; abs, Digits and Text of a number in the reference. -/
import Derived.Test.YtmmbbndoimleaaaGreatDoorGAK
import Derived.Test.YtmmbbndoimleaaaGreatDoorGAF
import Derived.Test.YtmmbbndoimleaaaGreatDoorGAJ
import Derived.Test.YtmmbbndoimleaaaGreatDoorGAE
import Derived.Deep.RegionHeld3
import Derived.Test.YtmmbbndoimleaaaGreatDoorGAI

/- What is printed is read back, plain: values. -/
namespace Go.Proofs.YtmmbbndoimleaaaGreatDoor
open Go.RowKit Go.Shelf

/-- Data of at most so many levels. -/
def Deep : Nat → Dt → Prop
  | 0, _ => False
  | m + 1, d => ∀ x ∈ kids d, Deep m x
theorem parts_deep {w : World} {B : Nat} : ∀ {m : Nat} {d : Dt} {A c A' c'}, Parts w B m d A c A' c' → Deep m d
  | 0, _, _, _, _, _, h => h.elim
  | m + 1, d, _, _, _, _, h => fun x hx => by
    obtain ⟨a, q, a', q', hq⟩ := parts_kid h hx
    exact parts_deep hq
/-- The same data in its form. -/
def normF : Nat → Dt → Dt
  | 0, d => d
  | m + 1, d => mkD (kD d) (nD d) (sD d) ((iD d).map (normF m)) ((mD d).map fun x => (x.1, normF m x.2))
theorem norm_leaf {m : Nat} {d : Dt} (h1 : iD d = []) (h2 : mD d = []) : normF (m + 1) d = leafD (kD d) (nD d) (sD d) := by
  unfold normF; rw [h1, h2]; rfl
theorem norm_kids (m : Nat) (d : Dt) : kids (normF (m + 1) d) = (kids d).map (normF m) := by
  unfold normF kids
  rw [iD_mk, mD_mk, List.map_append, List.map_map, List.map_map]; rfl
theorem same_norm : ∀ (m : Nat) (d : Dt), sameF m (normF m d) d = true
  | 0, _ => rfl
  | m + 1, d => by
    unfold normF sameF
    rw [kD_mk, nD_mk, sD_mk, iD_mk, mD_mk, zipD_map fun x _ => same_norm m x, zipM_map fun x _ => same_norm m x.2]
    unfold diffQ
    simp
theorem own_norm (m : Nat) (d : Dt) : ownD (normF (m + 1) d) = ownD d := by
  have h1 : plainB (normF (m + 1) d) = plainB d := by
    unfold normF plainB
    rw [kD_mk, nD_mk, sD_mk, iD_mk, mD_mk, List.length_map, List.length_map]
  have h2 : rangeB (normF (m + 1) d) = rangeB d := by
    unfold normF rangeB
    rw [kD_mk, nD_mk]
  have h3 : ascB (mD (normF (m + 1) d)) = ascB (mD d) := by
    unfold normF
    rw [mD_mk]
    have := ascB_map (f := normF m) (g := fun x => x) (mD d)
    rw [this]
    congr 1
    exact List.map_id _
  unfold ownD
  rw [h1, h2, h3]
theorem check_norm : ∀ (m r : Nat) (d : Dt), checkF r d = 0 → Deep m d → checkF r (normF m d) = 0
  | 0, _, _, _, h => h.elim
  | m + 1, r, d, h, hd => by
    obtain ⟨r', rfl, ho, hk⟩ := valid_kid h
    unfold checkF
    rw [own_norm, if_pos ho, norm_kids]
    have : ∀ l : List Dt, (∀ x ∈ l, x ∈ kids d) → firstE (checkF r') (l.map (normF m)) = 0 := by
      intro l
      induction l with
      | nil => intro _; rfl
      | cons x l ih =>
        intro hl
        rw [List.map_cons, firstE, if_pos (check_norm m r' x (hk x (hl x (List.mem_cons_self ..))) (hd x (hl x (List.mem_cons_self ..))))]
        exact ih fun y hy => hl y (List.mem_cons_of_mem _ hy)
    exact this _ fun _ h => h
/-- Norm of valid data is clean. -/
theorem norm_clean : ∀ (m M r : Nat) (lv : Int) (d : Dt), Deep m d → Good M (normF m d) → checkF r d = 0 → lv = 17 - r → cleanF M lv (normF m d) = normF m d
  | 0, _, _, _, _, h, _, _, _ => h.elim
  | _ + 1, 0, _, _, _, _, h, _, _ => h.elim
  | m + 1, M + 1, r, lv, d, hd, hg, hc, hl => by
    obtain ⟨r', rfl, ho, hk⟩ := valid_kid hc
    obtain ⟨f0, f1, f2, f3, f4, f5⟩ := valid_fields ho
    obtain ⟨_, hg⟩ := hg
    have hgk : (∀ x ∈ iD d, Good M (normF m x)) ∧ ∀ x ∈ mD d, Good M (normF m x.2) := by
      unfold normF at hg
      rw [kD_mk, iD_mk, mD_mk] at hg
      rcases hg with ⟨_, h1, h2, _⟩ | ⟨_, h1, h2⟩ | ⟨_, h1, h2, _⟩
      · rw [List.map_eq_nil_iff] at h1 h2
        rw [h1, h2]; exact ⟨by simp, by simp⟩
      · rw [List.map_eq_nil_iff] at h1
        rw [h1]
        exact ⟨fun x hx => h2 _ (List.mem_map.2 ⟨x, hx, rfl⟩), by simp⟩
      · rw [List.map_eq_nil_iff] at h1
        rw [h1]
        exact ⟨by simp, fun x hx => h2 _ (List.mem_map.2 ⟨x, hx, rfl⟩)⟩
    have e1 : (iD d).map (fun x => cleanF M (lv + 1) (normF m x)) = (iD d).map (normF m) := List.map_congr_left fun x hx => norm_clean m M r' (lv + 1) x (hd x (is_kid hx)) (hgk.1 x hx) (hk x (is_kid hx)) (by omega)
    have e2 : (mD d).map (fun x => (x.1, cleanF M (lv + 1) (normF m x.2))) = (mD d).map (fun x => (x.1, normF m x.2)) := List.map_congr_left fun x hx => by rw [norm_clean m M r' (lv + 1) x.2 (hd x.2 (ms_kid hx)) (hgk.2 x hx) (hk x.2 (ms_kid hx)) (by omega)]
    have hsort : sortK Prod.fst ((mD d).map fun x => (x.1, normF m x.2)) = (mD d).map fun x => (x.1, normF m x.2) :=
      sorted_id ((asc_srt f5).map (k' := Prod.fst) (fun x : ByteArray × Dt => (x.1, normF m x.2)) fun _ => rfl)
    rw [clean_done (by omega)]
    unfold normF doneD doneI doneM
    rw [kD_mk, nD_mk, sD_mk, iD_mk, mD_mk, hsort, List.map_map, List.map_map]
    have e3 : (cleanF M (lv + 1) ∘ normF m) = fun x => cleanF M (lv + 1) (normF m x) := rfl
    have e4 : ((fun x : ByteArray × Dt => (x.1, cleanF M (lv + 1) x.2)) ∘ fun x : ByteArray × Dt => (x.1, normF m x.2)) = fun x => (x.1, cleanF M (lv + 1) (normF m x.2)) := rfl
    rw [e3, e4, e1, e2]
    have g1 : (if kD d = 2 ∨ kD d = 3 then nD d else 0) = nD d := by split <;> omega
    have g2 : (if kD d = 4 then sD d else ⟨#[]⟩ : ByteArray) = sD d := by
      split
      · rfl
      · rcases f2 with h | h
        · contradiction
        · rw [str_nil h]
    have g3 : (if kD d = 5 then (iD d).map (normF m) else []) = (iD d).map (normF m) := by
      split
      · rfl
      · rcases f3 with h | h
        · contradiction
        · rw [h]; rfl
    have g4 : (if kD d = 6 then (mD d).map (fun x => (x.1, normF m x.2)) else []) = (mD d).map fun x => (x.1, normF m x.2) := by
      split
      · rfl
      · rcases f4 with h | h
        · contradiction
        · rw [h]; rfl
    rw [g1, g2, g3, g4]

theorem sevR_blk {α : Type} {S : ByteArray} {e : Nat} {step : α → Nat → Except Flt (α × Nat)} (hg : Gain S step) (x : α) {i : Nat} (hi : i ≤ S.size) : sevR S e step x (blk S i) = sevR S e step x i := by
  rw [sevR_eq hg x (run_le _ hi), sevR_eq hg x hi, blk_idem]
theorem stop_blank {c : Nat} (h : blkB c = true) : StopN c := by
  rcases blk_kinds' h with rfl | rfl | rfl | rfl <;> exact ⟨rfl, by decide⟩
theorem tail_cons (y : List UInt8) (r : List (List UInt8)) : Lib.joinTail [44] (y :: r) = 44 :: (y ++ Lib.joinTail [44] r) := by
  unfold Lib.joinTail; simp
section
variable {α β : Type} {S : ByteArray} {step : α → Nat → Except Flt (α × Nat)}
/-- Printed elements are read back. -/
theorem sevR_read (hg : Gain S step) (pre post : List UInt8) (ec : UInt8) (he : ec = 93 ∨ ec = 125) (hpre : ∀ c ∈ pre, blkB c.toNat = true) (hpost : ∀ c ∈ post, blkB c.toNat = true) (g : β → List UInt8) (add : α → β → α) (Q : α → List β → Prop) (i0 : Nat)
    (hs : ∀ x c L i, i0 < i → Q x (c :: L) → Sits S i (g c) → StopN (nx S (i + (g c).length)) → (blkB (nx S i) = false ∧ nx S i ≠ ec.toNat) ∧ step x i = .ok (add x c, i + (g c).length) ∧ Q (add x c) L) :
    ∀ (L : List β) (c : β) (x : α) (i : Nat), i0 < i → Q x (c :: L) → i ≤ S.size → Sits S i (pre ++ (g c ++ (Lib.joinTail [44] (L.map fun c => pre ++ g c) ++ (post ++ [ec])))) →
      (blkB (nx S (i + pre.length)) = false ∧ nx S (i + pre.length) ≠ ec.toNat) ∧ sevR S ec.toNat step x i = .ok (L.foldl add (add x c), i + (pre ++ (g c ++ (Lib.joinTail [44] (L.map fun c => pre ++ g c) ++ (post ++ [ec])))).length)
  | [], c, x, i, hi0, hq, hi, h => by
    obtain ⟨s1, s2⟩ := sits_app h
    obtain ⟨s3, s4⟩ := sits_app s2
    rw [List.map_nil, show Lib.joinTail [44] [] = ([] : List UInt8) from rfl, List.nil_append] at s4 ⊢
    obtain ⟨s5, s6⟩ := sits_app s4
    obtain ⟨q, hqq⟩ : ∃ q, q = i + pre.length + (g c).length := ⟨_, rfl⟩
    rw [← hqq] at s4 s5 s6
    have hec : nx S (q + post.length) = ec.toNat := s6.1.1
    have hecb : blkB ec.toNat = false ∧ StopN ec.toNat := by rcases he with rfl | rfl <;> exact ⟨rfl, rfl, by decide⟩
    have hstop : StopN (nx S q) := by
      cases hp : post with
      | nil => rw [hp] at hec; rw [show nx S q = ec.toNat from hec]; exact hecb.2
      | cons p k =>
        rw [hp] at s5
        rw [s5.1.1]
        exact stop_blank (hpost p (by rw [hp]; exact List.mem_cons_self ..))
    obtain ⟨⟨h1, h2⟩, h3, h4⟩ := hs x c [] (i + pre.length) (by omega) hq s3 (by rw [← hqq]; exact hstop)
    rw [← hqq] at h3
    have hb : blk S i = i + pre.length := run_over rfl s1 hpre h1
    have hb2 : blk S q = q + post.length := run_over rfl s5 hpost (by rw [hec]; exact hecb.1)
    refine ⟨⟨h1, h2⟩, ?_⟩
    rw [sevR_eq hg x hi, hb, h3]
    simp only
    rw [hb2, if_pos hec]
    have : q + post.length + 1 = i + (pre ++ (g c ++ (post ++ [ec]))).length := by
      rw [hqq]; simp only [List.length_append, List.length_singleton]; omega
    rw [this]; rfl
  | c' :: L, c, x, i, hi0, hq, hi, h => by
    obtain ⟨s1, s2⟩ := sits_app h
    obtain ⟨s3, s4⟩ := sits_app s2
    rw [List.map_cons, tail_cons, List.cons_append] at s4 ⊢
    obtain ⟨q, hqq⟩ : ∃ q, q = i + pre.length + (g c).length := ⟨_, rfl⟩
    rw [← hqq] at s4
    have h44 : nx S q = 44 := s4.1.1
    have hqs : q < S.size := s4.1.2
    obtain ⟨⟨h1, h2⟩, h3, h4⟩ := hs x c (c' :: L) (i + pre.length) (by omega) hq s3 (by rw [← hqq, h44]; exact ⟨rfl, by decide⟩)
    rw [← hqq] at h3
    have hb : blk S i = i + pre.length := run_over rfl s1 hpre h1
    have hb2 : blk S q = q := blk_stay (by rw [h44]; rfl)
    have hw : wordF S [44] q = .ok (q + 1) := by rw [wordF, if_pos (show nx S q = (44 : UInt8).toNat from h44)]; rfl
    have s5 := s4.2
    rw [List.append_assoc, List.append_assoc] at s5
    obtain ⟨_, ih⟩ := sevR_read hg pre post ec he hpre hpost g add Q i0 hs L c' (add x c) (q + 1) (by omega) h4 (by omega) s5
    refine ⟨⟨h1, h2⟩, ?_⟩
    rw [sevR_eq hg x hi, hb, h3]
    simp only
    rw [hb2, if_neg (by rw [h44]; rcases he with rfl | rfl <;> decide), hw]
    simp only
    rw [ih]
    have : q + 1 + (pre ++ (g c' ++ (Lib.joinTail [44] (L.map fun c => pre ++ g c) ++ (post ++ [ec])))).length = i + (pre ++ (g c ++ 44 :: (pre ++ g c' ++ Lib.joinTail [44] (L.map fun c => pre ++ g c) ++ (post ++ [ec])))).length := by
      rw [hqq]; simp only [List.length_append, List.length_cons]; omega
    rw [this]; rfl
theorem sevF_read (hg : Gain S step) (pre post : List UInt8) (ec : UInt8) (he : ec = 93 ∨ ec = 125) (hpre : ∀ c ∈ pre, blkB c.toNat = true) (hpost : ∀ c ∈ post, blkB c.toNat = true) (g : β → List UInt8) (add : α → β → α) (Q : α → List β → Prop) (i : Nat)
    (hs : ∀ x c L j, i < j → Q x (c :: L) → Sits S j (g c) → StopN (nx S (j + (g c).length)) → (blkB (nx S j) = false ∧ nx S j ≠ ec.toNat) ∧ step x j = .ok (add x c, j + (g c).length) ∧ Q (add x c) L)
    (L : List β) (c : β) (x : α) (hq : Q x (c :: L)) (hi : i < S.size) (h : Sits S (i + 1) (pre ++ (g c ++ (Lib.joinTail [44] (L.map fun c => pre ++ g c) ++ (post ++ [ec]))))) :
    sevF S ec.toNat step x i = .ok (L.foldl add (add x c), i + 1 + (pre ++ (g c ++ (Lib.joinTail [44] (L.map fun c => pre ++ g c) ++ (post ++ [ec])))).length) := by
  obtain ⟨⟨h1, h2⟩, h3⟩ := sevR_read hg pre post ec he hpre hpost g add Q i hs L c x (i + 1) (by omega) hq hi h
  have hb : blk S (i + 1) = i + 1 + pre.length := run_over rfl (sits_app h).1 hpre h1
  unfold sevF
  rw [if_neg (by rw [hb]; exact h2), sevR_blk hg x hi, h3]
end
theorem wrap_eq (b : Bool) (lv : Nat) (k : Int) {β : Type} (p : β → ByteArray) (pre : List UInt8) (g : β → List UInt8) (hp : ∀ c, lst (p c) = pre ++ g c) (c : β) (L : List β) :
    lst (wrapB b lv k ((c :: L).map p)) = lst (openB k) ++ (pre ++ (g c ++ (Lib.joinTail [44] (L.map fun c => pre ++ g c) ++ (lst (lineB b lv) ++ lst (shutB k))))) := by
  unfold wrapB
  rw [if_neg (by simp), lst_append, lst_append, lst_append]
  have e : lst (joinC ((c :: L).map p)) = pre ++ (g c ++ Lib.joinTail [44] (L.map fun c => pre ++ g c)) := by
    show Lib.join (((c :: L).map p).map lst) [44] = _
    rw [List.map_cons, List.map_cons, List.map_map, Lib.join_cons, hp]
    have : lst ∘ p = fun c => pre ++ g c := funext hp
    rw [this, List.append_assoc]
  rw [e]
  simp only [List.append_assoc]
theorem line_blank (b : Bool) (lv : Nat) : ∀ c ∈ lst (lineB b lv), blkB c.toNat = true := fun c hc => by
  unfold lineB at hc
  split at hc
  · rcases List.mem_cons.1 hc with rfl | hc
    · rfl
    · rw [(List.mem_replicate.1 hc).2]; rfl
  · cases hc
theorem snoc_fold {α β : Type} (f : α → β) : ∀ (L : List α) (l : List β), L.foldl (fun l x => l ++ [f x]) l = l ++ L.map f
  | [], l => by simp
  | x :: L, l => by rw [List.foldl_cons, snoc_fold f L, List.map_cons, List.append_assoc, List.singleton_append]
theorem pr_check {d : Dt} (ho : ownD d = 0) (h1 : iD d = []) (h2 : mD d = []) : checkD d = 0 := by
  unfold checkD
  rw [show (16 : Nat) = 15 + 1 from rfl, checkF, if_pos ho]
  unfold kids
  rw [h1, h2]; rfl
/-- The text of valid data, by kinds. -/
theorem pr_leaf (b : Bool) {m lv : Nat} {d : Dt} (ho : ownD d = 0) (h1 : iD d = []) (h2 : mD d = []) :
    (kD d = 1 → jtF b (m + 1) lv d = ⟨#[110, 117, 108, 108]⟩) ∧ (kD d = 2 → jtF b (m + 1) lv d = if nD d = 1 then ⟨#[116, 114, 117, 101]⟩ else ⟨#[102, 97, 108, 115, 101]⟩) ∧ (kD d = 3 → jtF b (m + 1) lv d = numB (nD d)) := by
  have hc := pr_check ho h1 h2
  obtain ⟨t1, t2, t3, _⟩ := text_kind (m := m) (d := d)
  have e : kD d = 1 ∨ kD d = 2 ∨ kD d = 3 → jtF b (m + 1) lv d = textF (m + 1) d := fun h => by
    rw [jtF, if_neg (by omega), if_pos h]
    unfold textD
    rw [if_pos hc]
  exact ⟨fun h => by rw [e (by omega), t1 h], fun h => by rw [e (by omega), t2 h], fun h => by rw [e (by omega), t3 h]⟩
theorem pr_str (b : Bool) {m lv : Nat} {d : Dt} (h : kD d = 4) : jtF b (m + 1) lv d = jqB (sD d) := by rw [jtF, if_pos h]
theorem pr_wrap (b : Bool) {m lv : Nat} {d : Dt} (h : kD d = 5 ∨ kD d = 6) : jtF b (m + 1) lv d = wrapB b lv (kD d) (jparts b lv (jtF b m (lv + 1)) d) := by
  rw [jtF, if_neg (by omega), if_neg (by omega)]
/-- How a text starts. -/
theorem pr_start (b : Bool) {m r lv : Nat} {d : Dt} (hc : checkF r d = 0) : ∃ c l, lst (jtF b (m + 1) lv d) = c :: l ∧ blkB c.toNat = false ∧ c ≠ 93 ∧ c ≠ 125 := by
  obtain ⟨r', rfl, ho, hk⟩ := valid_kid hc
  obtain ⟨f0, f1, f2, f3, f4, f5⟩ := valid_fields ho
  have hk6 : kD d = 1 ∨ kD d = 2 ∨ kD d = 3 ∨ kD d = 4 ∨ kD d = 5 ∨ kD d = 6 := by omega
  rcases hk6 with k | k | k | k | k | k
  · rw [(pr_leaf b ho (f3.resolve_left (by omega)) (f4.resolve_left (by omega))).1 k]
    exact ⟨_, _, rfl, rfl, by decide, by decide⟩
  · rw [(pr_leaf b ho (f3.resolve_left (by omega)) (f4.resolve_left (by omega))).2.1 k]
    split <;> exact ⟨_, _, rfl, rfl, by decide, by decide⟩
  · rw [(pr_leaf b ho (f3.resolve_left (by omega)) (f4.resolve_left (by omega))).2.2 k, num_list ((range_of ho).2 k)]
    split
    · exact ⟨_, _, rfl, rfl, by decide, by decide⟩
    · cases e : Lib.decDigits ((nD d).natAbs / 10000) with
      | nil => exact absurd e (dec_ne _)
      | cons c l =>
        have h := dec_dig ((nD d).natAbs / 10000) c (by rw [e]; exact List.mem_cons_self ..)
        unfold digC at h
        refine ⟨c, _, rfl, ?_, ?_, ?_⟩
        · cases hb : blkB c.toNat with
          | false => rfl
          | true => rcases blk_kinds' hb with h2 | h2 | h2 | h2 <;> omega
        · rintro rfl; revert h; decide
        · rintro rfl; revert h; decide
  · rw [pr_str b k, jqB_list]
    exact ⟨_, _, rfl, rfl, by decide, by decide⟩
  · rw [pr_wrap b (.inl k), k]
    unfold wrapB
    split
    · rw [lst_append]; exact ⟨_, _, rfl, rfl, by decide, by decide⟩
    · rw [lst_append, lst_append, lst_append]; exact ⟨91, _, rfl, rfl, by decide, by decide⟩
  · rw [pr_wrap b (.inr k), k]
    unfold wrapB
    split
    · rw [lst_append]; exact ⟨_, _, rfl, rfl, by decide, by decide⟩
    · rw [lst_append, lst_append, lst_append]; exact ⟨123, _, rfl, rfl, by decide, by decide⟩
theorem val_struct {S : ByteArray} {m i : Nat} (h : nx S i = 123) : valF S (m + 1) i = match sevF S 125 (memS S (valF S m)) [] i with
    | .error f => .error f
    | .ok (l, j) => .ok (mkD 6 0 ⟨#[]⟩ [] l, j) := by
  rw [valF, h, if_neg (by decide), if_neg (by decide), if_neg (by decide), if_neg (by decide), if_neg (by decide), if_neg (by decide), if_pos rfl]
  rfl
theorem val_mg (S : ByteArray) (n : Nat) : Gain S (memS S (valF S n)) := mem_gain fun _ _ _ h => val_gain n h
/-- A printed value is read back. -/
theorem val_read (b : Bool) {S : ByteArray} : ∀ (m r lv n i : Nat) (d : Dt), Deep m d → checkF r d = 0 → Sits S i (lst (jtF b m lv d)) → StopN (nx S (i + (lst (jtF b m lv d)).length)) → S.size < i + n → valF S n i = .ok (normF m d, i + (lst (jtF b m lv d)).length)
  | 0, _, _, _, _, _, h, _, _, _, _ => h.elim
  | m + 1, r, lv, 0, i, d, hd, hc, h, hst, hn => by
    obtain ⟨c, l, e, _⟩ := pr_start b (m := m) (lv := lv) hc
    rw [e] at h
    have := h.1.2
    omega
  | m + 1, r, lv, n + 1, i, d, hd, hc, h, hst, hn => by
    have hc0 := hc
    obtain ⟨r', rfl, ho, hk⟩ := valid_kid hc
    obtain ⟨f0, f1, f2, f3, f4, f5⟩ := valid_fields ho
    have hk6 : kD d = 1 ∨ kD d = 2 ∨ kD d = 3 ∨ kD d = 4 ∨ kD d = 5 ∨ kD d = 6 := by omega
    rcases hk6 with k | k | k | k | k | k
    · have hi : iD d = [] := f3.resolve_left (by omega)
      have hm : mD d = [] := f4.resolve_left (by omega)
      have hs : sD d = ⟨#[]⟩ := str_nil (f2.resolve_left (by omega))
      have hn0 : nD d = 0 := by omega
      rw [(pr_leaf b ho hi hm).1 k] at h ⊢
      have hw := sits_word h
      have hx : nx S i = 110 := h.1.1
      rw [valF, if_pos hx]
      rw [show wordF S [110, 117, 108, 108] i = _ from hw]
      rw [norm_leaf hi hm, k, hn0, hs]
    · have hi : iD d = [] := f3.resolve_left (by omega)
      have hm : mD d = [] := f4.resolve_left (by omega)
      have hs : sD d = ⟨#[]⟩ := str_nil (f2.resolve_left (by omega))
      rw [(pr_leaf b ho hi hm).2.1 k] at h ⊢
      rcases (range_of ho).1 k with h0 | h0
      · rw [if_neg (by omega)] at h ⊢
        have hw := sits_word h
        have hx : nx S i = 102 := h.1.1
        rw [valF, hx, if_neg (by decide), if_neg (by decide), if_pos rfl]
        rw [show wordF S [102, 97, 108, 115, 101] i = _ from hw]
        rw [norm_leaf hi hm, k, h0, hs]
      · rw [if_pos h0] at h ⊢
        have hw := sits_word h
        have hx : nx S i = 116 := h.1.1
        rw [valF, hx, if_neg (by decide), if_pos rfl]
        rw [show wordF S [116, 114, 117, 101] i = _ from hw]
        rw [norm_leaf hi hm, k, h0, hs]
    · have hi : iD d = [] := f3.resolve_left (by omega)
      have hm : mD d = [] := f4.resolve_left (by omega)
      have hs : sD d = ⟨#[]⟩ := str_nil (f2.resolve_left (by omega))
      obtain ⟨c, l, e, _⟩ := pr_start b (m := m) (lv := lv) hc0
      rw [(pr_leaf b ho hi hm).2.2 k] at h hst e ⊢
      have hu := (range_of ho).2 k
      have hx : nx S i = 45 ∨ digB (nx S i) = true := by
        have h1 := h
        rw [num_list hu] at h1
        split at h1
        · exact .inl h1.1.1
        · cases ed : Lib.decDigits ((nD d).natAbs / 10000) with
          | nil => exact absurd ed (dec_ne _)
          | cons c l =>
            rw [ed] at h1
            rw [h1.1.1]
            exact .inr (dig_digB (dec_dig ((nD d).natAbs / 10000) c (by rw [ed]; exact List.mem_cons_self ..)))
      have hx2 : nx S i = 45 ∨ 48 ≤ nx S i ∧ nx S i ≤ 57 := hx.imp id dig_bounds
      rw [lst_len] at hst ⊢
      rw [valF, if_neg (by omega), if_neg (by omega), if_neg (by omega), if_neg (by omega), if_pos hx, numE_read hu h hst, norm_leaf hi hm, k, hs]
    · have hi : iD d = [] := f3.resolve_left (by omega)
      have hm : mD d = [] := f4.resolve_left (by omega)
      have hn0 : nD d = 0 := by omega
      rw [pr_str b k] at h ⊢
      have hx : nx S i = 34 := h.1.1
      rw [lst_len, valF, hx, if_neg (by decide), if_neg (by decide), if_neg (by decide), if_pos rfl, str_read h, norm_leaf hi hm, k, hn0]
    · have hm : mD d = [] := f4.resolve_left (by omega)
      have hs : sD d = ⟨#[]⟩ := str_nil (f2.resolve_left (by omega))
      have hn0 : nD d = 0 := by omega
      have hnorm : normF (m + 1) d = mkD 5 0 ⟨#[]⟩ ((iD d).map (normF m)) [] := by rw [normF, k, hn0, hs, hm]; rfl
      have hj : jparts b lv (jtF b m (lv + 1)) d = (iD d).map (jpartI b lv (jtF b m (lv + 1))) := by unfold jparts; rw [hm]; simp
      rw [hnorm]
      rw [pr_wrap b (.inl k), hj, k] at h hst ⊢
      cases hI : iD d with
      | nil =>
        rw [hI] at h
        have e : lst (wrapB b lv 5 (([] : List Dt).map (jpartI b lv (jtF b m (lv + 1))))) = [91, 93] := rfl
        rw [e] at h ⊢
        have hx : nx S i = 91 := h.1.1
        have hx2 : nx S (i + 1) = 93 := h.2.1.1
        rw [val_list hx]
        unfold sevF
        rw [blk_stay (i := i + 1) (by rw [hx2]; rfl), if_pos hx2]
        rfl
      | cons x L =>
        rw [hI] at h hst
        have e := wrap_eq b lv 5 (jpartI b lv (jtF b m (lv + 1))) (lst (lineB b (lv + 1))) (fun x => lst (jtF b m (lv + 1) x)) (fun c => by unfold jpartI; rw [lst_append]) x L
        rw [e] at h ⊢
        have hx : nx S i = 91 := h.1.1
        have hq := sevF_read (val_ig S n) (lst (lineB b (lv + 1))) (lst (lineB b lv)) 93 (.inl rfl) (line_blank b _) (line_blank b _) (fun x => lst (jtF b m (lv + 1) x)) (fun l x => l ++ [normF m x]) (fun _ L => ∀ x ∈ L, x ∈ kids d) i
          (fun l c L j hij hQ hsj hsj2 => by
            have hck := hQ c (List.mem_cons_self ..)
            refine ⟨?_, ?_, fun x hx => hQ x (List.mem_cons_of_mem _ hx)⟩
            · obtain ⟨m', rfl⟩ : ∃ m', m = m' + 1 := by
                cases m with
                | zero => exact (hd c hck).elim
                | succ m => exact ⟨m, rfl⟩
              obtain ⟨c1, l1, e1, e2, e3, e4⟩ := pr_start b (m := m') (lv := lv + 1) (hk c hck)
              simp only [e1] at hsj
              rw [hsj.1.1]
              exact ⟨e2, fun h => e3 (UInt8.toNat_inj.1 h)⟩
            · unfold itemS
              rw [val_read b m r' (lv + 1) n j c (hd c hck) (hk c hck) hsj hsj2 (by omega)])
          L x [] (fun y hy => is_kid (by rw [hI]; exact hy)) h.1.2 h.2
        rw [val_list hx, show sevF S 93 (itemS (valF S n)) [] i = _ from hq]
        simp only
        rw [snoc_fold (normF m) L, List.nil_append, List.singleton_append, List.map_cons]
        congr 2
        simp [lst, openB, shutB]; omega
    · have hi : iD d = [] := f3.resolve_left (by omega)
      have hs : sD d = ⟨#[]⟩ := str_nil (f2.resolve_left (by omega))
      have hn0 : nD d = 0 := by omega
      have hnorm : normF (m + 1) d = mkD 6 0 ⟨#[]⟩ [] ((mD d).map fun x => (x.1, normF m x.2)) := by rw [normF, k, hn0, hs, hi]; rfl
      have hj : jparts b lv (jtF b m (lv + 1)) d = (mD d).map (jpartM b lv (jtF b m (lv + 1))) := by unfold jparts; rw [hi]; simp
      have hpw := asc_pairs f5
      rw [hnorm]
      rw [pr_wrap b (.inr k), hj, k] at h hst ⊢
      cases hI : mD d with
      | nil =>
        rw [hI] at h
        have e : lst (wrapB b lv 6 (([] : List (ByteArray × Dt)).map (jpartM b lv (jtF b m (lv + 1))))) = [123, 125] := rfl
        rw [e] at h ⊢
        have hx : nx S i = 123 := h.1.1
        have hx2 : nx S (i + 1) = 125 := h.2.1.1
        rw [val_struct hx]
        unfold sevF
        rw [blk_stay (i := i + 1) (by rw [hx2]; rfl), if_pos hx2]
        rfl
      | cons x L =>
        rw [hI] at h hst hpw
        have e := wrap_eq b lv 6 (jpartM b lv (jtF b m (lv + 1))) (lst (lineB b (lv + 1))) (fun x => lst (jqB x.1) ++ (lst (colB b) ++ lst (jtF b m (lv + 1) x.2))) (fun c => by unfold jpartM; rw [lst_append, lst_append, lst_append, List.append_assoc, List.append_assoc]) x L
        rw [e] at h ⊢
        have hx : nx S i = 123 := h.1.1
        have hq := sevF_read (val_mg S n) (lst (lineB b (lv + 1))) (lst (lineB b lv)) 125 (.inr rfl) (line_blank b _) (line_blank b _) (fun x : ByteArray × Dt => lst (jqB x.1) ++ (lst (colB b) ++ lst (jtF b m (lv + 1) x.2))) (fun l x => l ++ [(x.1, normF m x.2)])
          (fun l L => (∀ x ∈ L, x.2 ∈ kids d) ∧ (L.Pairwise fun x y => ltB x.1 y.1 = true) ∧ ∀ y ∈ l, ∀ x ∈ L, ltB y.1 x.1 = true) i
          (fun l c L j hij hQ hsj hsj2 => by
            obtain ⟨q1, q2, q3⟩ := hQ
            obtain ⟨p1, p2⟩ := List.pairwise_cons.1 q2
            have hck := q1 c (List.mem_cons_self ..)
            obtain ⟨m', rfl⟩ : ∃ m', m = m' + 1 := by
              cases m with
              | zero => exact (hd c.2 hck).elim
              | succ m => exact ⟨m, rfl⟩
            obtain ⟨c1, l1, e1, e2, e3, e4⟩ := pr_start b (m := m') (lv := lv + 1) (hk c.2 hck)
            obtain ⟨t1, t2⟩ := sits_app hsj
            obtain ⟨t3, t4⟩ := sits_app t2
            have hx34 : nx S j = 34 := t1.1.1
            refine ⟨⟨by rw [hx34]; rfl, by rw [hx34]; decide⟩, ?_, fun y hy => q1 y (List.mem_cons_of_mem _ hy), p2, fun y hy z hz => ?_⟩
            · have hstr := str_read t1
              rw [← lst_len] at hstr
              obtain ⟨a, ha⟩ : ∃ a, a = j + (lst (jqB c.1)).length := ⟨_, rfl⟩
              rw [← ha] at hstr t2 t3 t4
              have h58 : nx S a = 58 := by cases b <;> exact t3.1.1
              have hca : blk S a = a := blk_stay (by rw [h58]; rfl)
              have hcw : wordF S [58] a = .ok (a + 1) := by rw [wordF, if_pos (show nx S a = (58 : UInt8).toNat from h58)]; rfl
              obtain ⟨v, hv⟩ : ∃ v, v = a + (lst (colB b)).length := ⟨_, rfl⟩
              rw [← hv] at t4
              have hvx : nx S v = c1.toNat := by rw [e1] at t4; exact t4.1.1
              have hbv : blk S (a + 1) = v := by
                cases b with
                | false => have hv1 : v = a + 1 := hv; rw [hv1] at hvx ⊢; exact blk_stay (by rw [hvx]; exact e2)
                | true =>
                  have h32 : Sits S (a + 1) [32] := t3.2
                  have := run_over (q := blkB) rfl h32 (by decide) (by rw [show a + 1 + [(32 : UInt8)].length = v by rw [hv]; rfl, hvx]; exact e2)
                  rw [show a + 1 + [(32 : UInt8)].length = v by rw [hv]; rfl] at this
                  exact this
              have hlen : j + (lst (jqB c.1) ++ (lst (colB b) ++ lst (jtF b (m' + 1) (lv + 1) c.2))).length = v + (lst (jtF b (m' + 1) (lv + 1) c.2)).length := by
                rw [hv, ha, List.length_append, List.length_append]; omega
              rw [hlen] at hsj2
              have hav : j < v := by rw [hv, ha, jqB_list, List.length_cons]; omega
              unfold memS
              rw [hstr]
              simp only
              rw [if_neg, hca, hcw]
              · simp only
                rw [hbv, val_read b (m' + 1) r' (lv + 1) n v c.2 (hd c.2 hck) (hk c.2 hck) t4 hsj2 (by omega), hlen]
              · intro hany
                obtain ⟨y, hy, hyy⟩ := List.any_eq_true.1 hany
                have := lt_ne (q3 y hy c (List.mem_cons_self ..))
                rw [this] at hyy
                cases hyy
            · rcases List.mem_append.1 hy with hy | hy
              · exact q3 y hy z (List.mem_cons_of_mem _ hz)
              · rw [List.mem_singleton.1 hy]; exact p1 z hz)
          L x [] ⟨fun y hy => ms_kid (by rw [hI]; exact hy), hpw, fun y hy => by cases hy⟩ h.1.2 h.2
        rw [val_struct hx, show sevF S 125 (memS S (valF S n)) [] i = _ from hq]
        simp only
        rw [snoc_fold (fun x : ByteArray × Dt => (x.1, normF m x.2)) L, List.nil_append, List.singleton_append, List.map_cons]
        congr 2
        simp [lst, openB, shutB]; omega
/-- A printed document is parsed back. -/
theorem doc_read (b : Bool) {m : Nat} {d : Dt} (hd : Deep m d) (hc : checkD d = 0) : blk (jtF b m 0 d) 0 = 0 ∧ valF (jtF b m 0 d) ((jtF b m 0 d).size + 1) 0 = .ok (normF m d, (jtF b m 0 d).size) := by
  obtain ⟨S, hS⟩ : ∃ S, S = jtF b m 0 d := ⟨_, rfl⟩
  have h := sits_self S
  rw [← hS]
  rw [hS] at h
  have h2 := val_read b (S := S) m 16 0 (S.size + 1) 0 d hd hc (by rw [hS]; exact h) (by rw [← hS, lst_len, nx_past (by omega)]; exact ⟨rfl, by decide⟩) (by omega)
  rw [← hS, lst_len, Nat.zero_add] at h2
  refine ⟨?_, h2⟩
  obtain ⟨m', rfl⟩ : ∃ m', m = m' + 1 := by
    cases m with
    | zero => exact hd.elim
    | succ m => exact ⟨m, rfl⟩
  obtain ⟨c1, l1, e1, e2, e3, e4⟩ := pr_start b (m := m') (lv := 0) hc
  rw [e1, ← hS] at h
  exact blk_stay (by rw [h.1.1]; exact e2)
theorem parse_read (b : Bool) {m : Nat} {d : Dt} (hd : Deep m d) (hc : checkD d = 0) (hs : (jtF b m 0 d).size ≤ 65536) : parseF (jtF b m 0 d) = (normF m d, (0, 0)) := by
  obtain ⟨h1, h2⟩ := doc_read b hd hc
  obtain ⟨S, hS⟩ : ∃ S, S = jtF b m 0 d := ⟨_, rfl⟩
  rw [← hS] at h1 h2 hs ⊢
  have hend : blk S S.size = S.size := blk_stay (by rw [nx_past (by omega)]; rfl)
  have hcl := norm_clean m (S.size + 1) 16 1 d hd (val_good _ h2) hc (by decide)
  have hck : checkD (normF m d) = 0 := check_norm m 16 d hc hd
  rw [parse_small hs, h1, h2]
  simp only
  rw [hend, if_neg (by omega), hcl, if_pos hck]
end Go.Proofs.YtmmbbndoimleaaaGreatDoor

/- The chapter's example. -/
namespace Go.Proofs.YtmmbbndoimleaaaGreatDoor
open Go.RowKit

def exL : Dt := mkD 5 0 ⟨#[]⟩ [mkD 1 0 ⟨#[]⟩ [] [], mkD 4 0 ⟨#[120]⟩ [] []] []
def exD : Dt := mkD 6 0 ⟨#[]⟩ [] [(⟨#[97]⟩, mkD 3 10000 ⟨#[]⟩ [] []), (⟨#[98]⟩, exL)]
theorem leaf_parts (w : World) (B m : Nat) (k n : Int) (s : ByteArray) : Parts w B (m + 1) (mkD k n s [] []) none 0 none 0 :=
  ⟨⟨Nat.le_refl _, Nat.zero_le _, Nat.le_refl _, Nat.zero_le _⟩, fun i x h => by simp at h, fun i x h => by simp at h⟩

end Go.Proofs.YtmmbbndoimleaaaGreatDoor

/- The laws' example is as the chapter says. -/
namespace Go.Proofs.YtmmbbndoimleaaaGreatDoor
open Go.RowKit

abbrev xD : Dt := mkD 4 0 ⟨#[120]⟩ [] []
def exText : ByteArray := ⟨#[123, 97, 58, 32, 49, 44, 32, 98, 58, 32, 91, 110, 117, 108, 108, 44, 32, 34, 120, 34, 93, 125]⟩
theorem ex_fit {W : World} {a c a' c'} (hp : Parts W W.heap.size 3 exD a c a' c') : partsF 3 exD ≤ 1000000000 ∧ FitD 16 exD ∧ ∀ r, FitC r exD := by
  have h : partsF 3 exD = 5 := by kernel_rfl
  exact ⟨by omega, fit_of_parts 3 16 hp (by omega), fun r => fitC_of_parts 3 r hp (by omega)⟩
section
variable {W : World} {a : Option Addr} {c : Nat} {a' : Option Addr} {c' : Nat}
theorem text_ex (hp : Parts W W.heap.size 3 exD a c a' c') (ht : Tab W) : Calls Tryz.prog 59 #[datV exD a c a' c'] W fun e w' => e = .returned (.tuple #[.string exText, .int .i64 0]) ∧ Below W.heap.size W w' := by
  have h := Text_run 3 exD a c a' c' W hp (ex_fit hp).2.1 (by decide) ht
  rw [show textD 3 exD = exText by kernel_rfl, show checkD exD = 0 by kernel_rfl] at h
  exact h
theorem check_zero : Calls Tryz.prog 30 #[.agg #[.int .i64 0, .int .i64 0, .string ⟨#[]⟩, .slice none 0 0, .slice none 0 0]] W fun e w' => e = .returned (.int .i64 11) ∧ Below W.heap.size W w' := by
  have h := Check_run 1 zeroD none 0 none 0 W (zero_parts _ _ _) (fitD_of_fitC 16 (fitC_zero 16))
  rw [show checkD zeroD = 11 by kernel_rfl] at h
  exact h
theorem make_two : Calls Tryz.prog 26 #[.agg #[.int .i64 2, .int .i64 2, .string ⟨#[]⟩, .slice none 0 0, .slice none 0 0]] W fun e w' => ∃ b q b' q', e = .returned (.tuple #[.agg #[.int .i64 0, .int .i64 0, .string ⟨#[]⟩, .slice b 0 q, .slice b' 0 q'], .int .i64 1]) ∧ Below W.heap.size W w' := by
  have hp : Parts W W.heap.size 1 (mkD 2 2 ⟨#[]⟩ [] []) none 0 none 0 := leaf_parts _ _ 0 _ _ _
  refine (Make_run 1 (mkD 2 2 ⟨#[]⟩ [] []) none 0 none 0 W hp (fun r => fitC_of_parts 1 r hp (by decide))).mono ?_
  rintro e w' ⟨X, b, q, b', q', rfl, hX, hP, hB⟩
  rw [show checkD (cleanF 1 1 (mkD 2 2 ⟨#[]⟩ [] [])) = 1 by kernel_rfl] at hX ⊢
  have hX : X = zeroD := hX
  subst hX
  exact ⟨b, q, b', q', rfl, hB⟩
end

end Go.Proofs.YtmmbbndoimleaaaGreatDoor

/- The laws over one piece of data: the first error; levels and parts. -/
namespace Go.Proofs.YtmmbbndoimleaaaGreatDoor
open Go.RowKit

/-- A call of a law ends well. -/
def Fine (w : World) (e : Ending) (w' : World) : Prop := e = .returned (.bool true) ∧ Below w.heap.size w w'

end Go.Proofs.YtmmbbndoimleaaaGreatDoor

/- Letter, Digit, written, Quote, Words, Ident and Label of the reference. -/
namespace Go.Proofs.YtmmbbndoimleaaaGreatDoor
open Go.RowKit Go.Shelf

theorem refLetter_run (b : Nat) (w : World) : Calls Tryz.prog 119 #[.int .u8 b] w fun e w' => e = .returned (.bool (letterN b)) ∧ w = w' := by
  go_enter Tryz.func119, Tryz.ntmps119
  go_wp2_with fail
  all_goals
    go_ret
    refine ⟨ret_bool ?_, rfl⟩
    unfold letterN
    first
      | (rw [Bool.eq_iff_iff]; simp; omega)
      | (simp; omega)
def digitN (b : Nat) : Bool := decide (48 ≤ b) && decide (b ≤ 57)
theorem refDigit_run (b : Nat) (w : World) : Calls Tryz.prog 120 #[.int .u8 b] w fun e w' => e = .returned (.bool (digitN b)) ∧ w = w' := by
  go_enter Tryz.func120, Tryz.ntmps120
  go_wp2_with fail
  all_goals
    go_ret
    refine ⟨ret_bool ?_, rfl⟩
    unfold digitN
    first
      | (rw [Bool.eq_iff_iff]; simp; omega)
      | (simp; omega)
theorem conv_one (w : World) (n : Nat) (hn : n < 256) : (convert 73 9 (.slice (some ⟨w.heap.size, 0, none⟩) 1 1)).run Tryz.prog (w.alloc (Obj.cells #[.int .u8 (n : Int)] 5)) = .ok (.string ⟨#[UInt8.ofNat n]⟩) (w.alloc (Obj.cells #[.int .u8 (n : Int)] 5)) := by
  have e : (UInt8.ofNat n).toNat = n := by simp; omega
  exact run_convert_bytes_back (P := Tryz.prog) _ 73 9 5 ⟨w.heap.size, 0, none⟩ 1 [UInt8.ofNat n] Tryz.underlying73 Tryz.underlying5 Tryz.underlying9 (fun j hj => by
    have : j = 0 := by simpa using hj
    subst this
    show _ = some (Value.int .u8 (((UInt8.ofNat n).toNat : Nat) : Int))
    rw [e, add_head, World.cell?_alloc_mark]; rfl)
theorem hex_slice64 (h : Nat) (hh : h < 16) (W : World) :
    (Instr.sliceAt 9 (.string ⟨#[48, 49, 50, 51, 52, 53, 54, 55, 56, 57, 97, 98, 99, 100, 101, 102]⟩) (some (.int .i64 (h : Int))) (some (.int .i64 ((h : Int) + 1))) none).run Tryz.prog W = .ok (.string ⟨#[hexN h]⟩) W := by
  have : ∀ h : Fin 16, (Instr.sliceAt 9 (.string ⟨#[48, 49, 50, 51, 52, 53, 54, 55, 56, 57, 97, 98, 99, 100, 101, 102]⟩) (some (.int .i64 ((h : Nat) : Int))) (some (.int .i64 (((h : Nat) : Int) + 1))) none).run Tryz.prog W = .ok (.string ⟨#[hexN h]⟩) W := by
    intro h
    obtain ⟨h, hh⟩ := h
    match h, hh with
    | 0, _ => go_simp; rfl
    | 1, _ => go_simp; rfl
    | 2, _ => go_simp; rfl
    | 3, _ => go_simp; rfl
    | 4, _ => go_simp; rfl
    | 5, _ => go_simp; rfl
    | 6, _ => go_simp; rfl
    | 7, _ => go_simp; rfl
    | 8, _ => go_simp; rfl
    | 9, _ => go_simp; rfl
    | 10, _ => go_simp; rfl
    | 11, _ => go_simp; rfl
    | 12, _ => go_simp; rfl
    | 13, _ => go_simp; rfl
    | 14, _ => go_simp; rfl
    | 15, _ => go_simp; rfl
    | n + 16, h => omega
  exact this ⟨h, hh⟩

set_option maxRecDepth 20000 in
set_option maxHeartbeats 1000000 in
theorem written_run (b : Nat) (hb : b < 256) (w : World) : Calls Tryz.prog 105 #[.int .u8 b] w fun e w' => e = .returned (.string (escN b)) ∧ Below w.heap.size w w' := by
  go_enter Tryz.func105, Tryz.ntmps105
  by_cases h1 : b = 34 ∨ b = 92
  · rcases h1 with rfl | rfl
    · go_wp2_with fail
      go_ret
      exact ⟨ret_str (by decide), Below.refl _ _⟩
    · go_wp2_with fail
      go_ret
      exact ⟨ret_str (by decide), Below.refl _ _⟩
  · by_cases h2 : b < 32 ∨ 126 < b
    · by_cases h3 : b = 10
      · subst h3
        go_wp2_with fail
        go_ret
        exact ⟨rfl, Below.refl _ _⟩
      · by_cases h4 : b = 9
        · subst h4
          go_wp2_with fail
          go_ret
          exact ⟨rfl, Below.refl _ _⟩
        · by_cases h5 : b = 13
          · subst h5
            go_wp2_with fail
            go_ret
            exact ⟨rfl, Below.refl _ _⟩
          · have g1 : ((b : Int) == 34) = false := by simp; omega
            have g2 : ((b : Int) == 92) = false := by simp; omega
            have g3 : ((b : Int) == 10) = false := by simp; omega
            have g4 : ((b : Int) == 9) = false := by simp; omega
            have g5 : ((b : Int) == 13) = false := by simp; omega
            have he : escN b = ⟨#[92, 120, hexN (b / 16), hexN (b % 16)]⟩ := by
              unfold escN; rw [if_neg h1, if_neg h3, if_neg h4, if_neg h5, if_pos h2]
            have hg : (decide ((b : Int) < 32) = true ∧ True) ∨ (decide ((b : Int) < 32) = false ∧ decide ((b : Int) > 126) = true) := by
              rcases h2 with h | h
              · exact .inl ⟨by simp; omega, trivial⟩
              · exact .inr ⟨by simp; omega, by simp; omega⟩
            obtain ⟨hi, hhi⟩ : ∃ hi, hi = b / 16 := ⟨_, rfl⟩
            obtain ⟨lo, hlo⟩ : ∃ hi, hi = b % 16 := ⟨_, rfl⟩
            have e0 : IntKind.i64.wrap (b : Int) = (b : Int) := IntWalk.i64_in _ (by omega)
            have e1 : (b : Int).tdiv 16 = (hi : Int) := by rw [Int.tdiv_eq_ediv_of_nonneg (by omega)]; omega
            have e2 : (b : Int).tmod 16 = (lo : Int) := by rw [Int.tmod_eq_emod_of_nonneg (by omega)]; omega
            have l1 : hi < 16 := by omega
            have l2 : lo < 16 := by omega
            have e3 : IntKind.i64.wrap ((hi : Int) + 1) = (hi : Int) + 1 := IntWalk.i64_in _ (by omega)
            have e4 : IntKind.i64.wrap ((lo : Int) + 1) = (lo : Int) + 1 := IntWalk.i64_in _ (by omega)
            have e5 : IntKind.i64.wrap (hi : Int) = (hi : Int) := IntWalk.i64_in _ (by omega)
            have e6 : IntKind.i64.wrap (lo : Int) = (lo : Int) := IntWalk.i64_in _ (by omega)
            have e7 : (b : Int) / 16 = (hi : Int) := by omega
            have e8 : (b : Int) % 16 = (lo : Int) := by omega
            rw [← hhi, ← hlo] at he
            have HE := Lib.hid he
            clear he h1 h2 h3 h4 h5 hhi hlo
            rcases hg with ⟨g6, g7⟩ | ⟨g6, g7⟩
            all_goals
              have hs1 := fun W => hex_slice64 hi l1 W
              have hs2 := fun W => hex_slice64 lo l2 W
              go_wp2_with fail
              go_quiet (fail)
              go_wp2_with fail
              go_ret
              exact ⟨ret_str (by rw [HE.out]; exact ByteArray.ext rfl), below_drewN (Below.refl _ _) _⟩
    · have he : escN b = ⟨#[UInt8.ofNat b]⟩ := by
        unfold escN; rw [if_neg h1, if_neg (by omega), if_neg (by omega), if_neg (by omega), if_neg h2]
      have HE := Lib.hid he
      have g1 : ((b : Int) == 34) = false := by simp; omega
      have g2 : ((b : Int) == 92) = false := by simp; omega
      have g3 : ((b : Int) == 10) = false := by simp; omega
      have g4 : ((b : Int) == 9) = false := by simp; omega
      have g5 : ((b : Int) == 13) = false := by simp; omega
      have g6 : decide ((b : Int) < 32) = false := by simp; omega
      have g7 : decide ((b : Int) > 126) = false := by simp; omega
      have hcv := conv_one w b hb
      clear he
      go_wp2_with fail
      go_ret
      exact ⟨ret_str (by rw [HE.out]), below_al (Below.refl _ _) _⟩

/-- The literal up to a byte. -/
def qpre (S : ByteArray) (i : Nat) : ByteArray := ⟨(fB (uptoL (fun j => escZ (S.get! j).toNat) i)).toArray⟩
theorem qpre_zero (S : ByteArray) : qpre S 0 = ⟨#[34]⟩ := rfl
theorem qpre_succ (S : ByteArray) (i : Nat) : qpre S (i + 1) = qpre S i ++ escN (S.get! i).toNat := by
  refine ByteArray.ext (Array.toList_inj.1 ?_)
  rw [ByteArray.data_append, Array.toList_append]
  unfold qpre
  rw [uptoL_succ, fB_def, fB_def]
  simp [escZ]
theorem qpre_all (S : ByteArray) : qpre S S.size ++ ⟨#[34]⟩ = quoteB S := by
  refine ByteArray.ext (Array.toList_inj.1 ?_)
  rw [ByteArray.data_append, Array.toList_append]
  unfold qpre quoteB escL
  rw [fB_def]
theorem qpre_size (S : ByteArray) (i : Nat) : (qpre S i).size ≤ 1 + 4 * i := by
  have h := fB_len (uptoL (fun j => escZ (S.get! j).toNat) i)
  rw [uptoL_length] at h
  unfold qpre
  show (_ : List UInt8).toArray.size ≤ _
  simpa using h

set_option maxRecDepth 20000 in
set_option maxHeartbeats 1000000 in
theorem refQuote_run (S : ByteArray) (hS : S.size ≤ 1000000000) (w : World) : Calls Tryz.prog 84 #[.string S] w fun e w' => e = .returned (.string (quoteB S)) ∧ Below w.heap.size w w' := by
  have HW := hide fun (b : Nat) (hb : b < 256) w => written_run b hb w
  go_enter Tryz.func84, Tryz.ntmps84
  go_wp2_with fail
  go_loopw [3, 4] (fun ov iv wr => ∃ (i : Nat) (O : ByteArray), iv = .int .i64 i ∧ ov = .string O ∧ i ≤ S.size ∧ O.size ≤ 1 + 4 * i ∧ Hid (O = qpre S i) ∧ Hid (Below w.heap.size w wr)) (fun _ iv _ => S.size - (intOf iv).toNat)
  case atStart => exact ⟨0, ⟨#[34]⟩, rfl, rfl, Nat.zero_le _, by decide, hide rfl, hide (Below.refl _ _)⟩
  case round =>
    obtain ⟨i, O, rfl, rfl, hi, hO, hI, hB⟩ := hrel
    by_cases hlt : i < S.size
    · have hgk : (S.get! i).toNat = S[i].toNat := by rw [get_eq S i hlt]
      obtain ⟨c, hcc⟩ : ∃ c, c = S[i].toNat := ⟨_, rfl⟩
      have hc2 : (S[i].toNat : Int) = (c : Int) := by rw [hcc]
      have hc3 : c < 256 := by rw [hcc]; exact UInt8.toNat_lt _
      rw [← hcc] at hgk
      have HX := hide (show O ++ escN c = qpre S (i + 1) by rw [qpre_succ, hI.out, hgk])
      have HWC := hide (HW.out c hc3 wr)
      have hes : (escN c).size ≤ 4 := escN_size c
      obtain ⟨E, hE⟩ : ∃ E, E = escN c := ⟨_, rfl⟩
      rw [← hE] at HX HWC hes
      clear hcc hgk hI hE
      go_wp2_with fail
      refine HWC.out.mono ?_; rintro e w2 ⟨rfl, hB2⟩
      have HB2 := hide (hB.out.trans (hB2.mono hB.out.size))
      have hsz : (O ++ E).size ≤ 1 + 4 * (i + 1) := by rw [ByteArray.size_append]; omega
      have HSZ := hide hsz
      clear hB2 hB HWC hsz
      go_wp2_with fail
      go_roundw
      case rel => exact ⟨i + 1, O ++ E, by go_num, rfl, by omega, HSZ.out, HX, HB2⟩
      case measure => simp [intOf]; omega
    · obtain rfl : i = S.size := by omega
      have HX := hide (show O ++ ⟨#[34]⟩ = quoteB S by rw [hI.out, qpre_all])
      clear hI
      go_wp2_with fail
      go_ret
      exact ⟨ret_str HX.out, hB.out⟩

theorem Words_run (w : World) : Calls Tryz.prog 118 #[] w fun e w' => e = .returned (.slice (some ⟨w.heap.size, 0, none⟩) 13 13) ∧ w' = w.alloc (Obj.cells ((wordsL.map Value.string).toArray) 9) := by
  go_enter Tryz.func118, Tryz.ntmps118
  go_wp2_with fail
  go_ret
  exact ⟨rfl, rfl⟩

def idFrom (S : ByteArray) (p : Nat) : Bool := (List.range (S.size - p)).all fun j => idChar (S.get! (p + j)).toNat
theorem ext_get (S : ByteArray) (p j : Nat) (hj : p + j < S.size) : (S.extract p S.size).get! j = S.get! (p + j) := by
  rw [get_eq _ j (by rw [ByteArray.size_extract]; omega), get_eq S (p + j) hj, ByteArray.getElem_extract]
theorem ext_zero (S : ByteArray) : S.extract 0 S.size = S := by
  refine ByteArray.ext (Array.toList_inj.1 ?_)
  rw [ByteArray.data_extract]
  simp
  exact List.take_of_length_le (by rw [Array.length_toList]; exact Nat.le_refl _)
theorem identT_ext (S : ByteArray) (p : Nat) : identT (S.extract p S.size) = (decide (p < S.size) && letterN (S.get! p).toNat && idFrom S p) := by
  by_cases hp : p < S.size
  · have hs : (S.extract p S.size).size = S.size - p := by rw [ByteArray.size_extract]; omega
    have hall : idAll (S.extract p S.size) = idFrom S p := by
      unfold idAll idFrom
      rw [hs, Bool.eq_iff_iff, List.all_eq_true, List.all_eq_true]
      constructor
      · intro h j hj
        have := h j hj
        rwa [ext_get S p j (by have := List.mem_range.1 hj; omega)] at this
      · intro h j hj
        rw [ext_get S p j (by have := List.mem_range.1 hj; omega)]
        exact h j hj
    have hg := ext_get S p 0 (by omega)
    rw [Nat.add_zero] at hg
    unfold identT
    rw [hall, hg, hs, decide_eq_true hp, decide_eq_true (show 0 < S.size - p by omega)]
  · unfold identT
    have hs : (S.extract p S.size).size = 0 := by rw [ByteArray.size_extract]; omega
    rw [hs, decide_eq_false hp, decide_eq_false (show ¬ 0 < 0 by omega), Bool.false_and, Bool.false_and, Bool.false_and, Bool.false_and]
theorem from_yes {S : ByteArray} {p : Nat} (h : ∀ j, p ≤ j → j < S.size → idChar (S.get! j).toNat = true) : idFrom S p = true := by
  unfold idFrom
  rw [List.all_eq_true]
  intro j hj
  exact h (p + j) (by omega) (by have := List.mem_range.1 hj; omega)
theorem from_no {S : ByteArray} {p k : Nat} (hp : p ≤ k) (hk : k < S.size) (h : idChar (S.get! k).toNat = false) : idFrom S p = false := by
  unfold idFrom
  rw [List.all_eq_false]
  refine ⟨k - p, List.mem_range.2 (by omega), ?_⟩
  rw [show p + (k - p) = k by omega, h]; decide
theorem from_up {S : ByteArray} {p k : Nat} (h : ∀ j, p ≤ j → j < k → idChar (S.get! j).toNat = true) (hk : idChar (S.get! k).toNat = true) : ∀ j, p ≤ j → j < k + 1 → idChar (S.get! j).toNat = true := fun j h1 hj => by
  rcases Nat.lt_or_ge j k with h2 | h2
  · exact h j h1 h2
  · obtain rfl : j = k := by omega
    exact hk
theorem has_yes {S : ByteArray} {i : Nat} (hi : i < 13) (h : (S.toList == (wordsL.getD i ByteArray.empty).toList) = true) : Lib.containsS wordsL S = true := by
  have e : S = wordsL.getD i ByteArray.empty := by
    rw [beq_iff_eq, ByteArray.toList_eq, ByteArray.toList_eq, Array.toList_inj] at h
    exact ByteArray.ext h
  rw [Lib.containsS_iff]
  subst e
  have : i < wordsL.length := hi
  rw [List.getD_eq_getElem?_getD, List.getElem?_eq_getElem this]
  exact List.getElem_mem this
theorem has_no {S : ByteArray} (h : ∀ j, j < 13 → (S.toList == (wordsL.getD j ByteArray.empty).toList) = false) : Lib.containsS wordsL S = false := by
  rw [← Bool.not_eq_true, Lib.containsS_iff]
  intro hm
  obtain ⟨j, hj, e⟩ := List.mem_iff_getElem.1 hm
  have h2 := h j hj
  rw [List.getD_eq_getElem?_getD, List.getElem?_eq_getElem hj] at h2
  simp [e] at h2

set_option maxRecDepth 100000 in
set_option maxHeartbeats 8000000 in
theorem refIdent_run (S : ByteArray) (hS : S.size ≤ 1000000000) (w : World) : Calls Tryz.prog 106 #[.string S] w fun e w' => e = .returned (.bool (identB S)) ∧ Below w.heap.size w w' := by
  have HWD := hide fun w => Words_run w
  have HL := hide fun b w => refLetter_run b w
  have HD := hide fun b w => refDigit_run b w
  obtain ⟨res, hres⟩ : ∃ r, r = identB S := ⟨_, rfl⟩
  rw [← hres]
  unfold identB at hres
  have HID := Lib.hid hres
  clear hres
  go_enter Tryz.func106, Tryz.ntmps106
  by_cases h0 : S.size < 1
  · have HZ := hide (show res = false by rw [HID.out]; simp [headB, identT, show S.size = 0 by omega])
    have g1 : decide ((S.size : Int) < 1) = true := by simp; omega
    go_wp2_with fail
    go_ret
    exact ⟨ret_bool HZ.out.symm, Below.refl _ _⟩
  have g1 : decide ((S.size : Int) < 1) = false := by simp; omega
  by_cases h32 : S.size > 32
  · have HZ := hide (show res = false by rw [HID.out, decide_eq_false (by omega)]; rfl)
    have g2 : decide ((S.size : Int) > 32) = true := by simp; omega
    go_wp2_with fail
    go_ret
    exact ⟨ret_bool HZ.out.symm, Below.refl _ _⟩
  have g2 : decide ((S.size : Int) > 32) = false := by simp; omega
  go_wp2_with fail
  refine (HWD.out _).mono ?_; rintro e w' ⟨rfl, rfl⟩
  have HCE := hide (words_cells w)
  have HBW := hide (below_al (Below.refl w.heap.size w) (Obj.cells ((wordsL.map Value.string).toArray) 9))
  obtain ⟨wz, hwz⟩ : ∃ wz, wz = w.alloc (Obj.cells (List.map Value.string wordsL).toArray 9) := ⟨_, rfl⟩
  obtain ⟨g, hg⟩ : ∃ g, g = w.heap.size := ⟨_, rfl⟩
  rw [← hwz] at HBW HCE ⊢
  rw [← hg] at HCE ⊢
  clear hwz hg HWD
  go_wp2_with fail
  go_loopw [17] (fun iv wr => ∃ i : Nat, iv = .int .i64 i ∧ i ≤ 13 ∧ wr = wz ∧ Hid (∀ j, j < i → (S.toList == (wordsL.getD j ByteArray.empty).toList) = false)) (fun iv _ => 13 - (intOf iv).toNat)
  case atStart => exact ⟨0, rfl, by omega, rfl, hide fun j hj => by omega⟩
  case round =>
    obtain ⟨i, rfl, hi, rfl, hI⟩ := hrel
    by_cases hlt : i < 13
    · have c0 := HCE.out i hlt
      rw [Nat.zero_add] at c0
      obtain ⟨T, hT⟩ : ∃ T, T = wordsL.getD i ByteArray.empty := ⟨_, rfl⟩
      rw [← hT] at c0
      have HT := Lib.hid hT
      clear hT
      cases hs : (S.toList == T.toList) with
      | true =>
        have HZ := hide (show res = false by rw [HID.out, has_yes hlt (by rw [← HT.out]; exact hs)]; simp)
        go_wp2_with fail
        go_ret
        exact ⟨ret_bool HZ.out.symm, HBW.out⟩
      | false =>
        have HX := hide (show ∀ j, j < i + 1 → (S.toList == (wordsL.getD j ByteArray.empty).toList) = false from fun j hj => by
          rcases Nat.lt_or_ge j i with h1 | h1
          · exact hI.out j h1
          · obtain rfl : j = i := by omega
            rw [← HT.out]; exact hs)
        clear hI
        go_wp2_with fail
        go_roundw
        case rel => exact ⟨i + 1, by go_num, by omega, by first | rfl | trivial, HX⟩
        case measure => simp [intOf]; omega
    · obtain rfl : i = 13 := by omega
      have HI2 := hide (show res = identT (S.extract (if headB S then 1 else 0) S.size) by
        rw [HID.out, has_no hI.out, decide_eq_true (show S.size ≤ 32 by omega)]
        split
        · rfl
        · rw [ext_zero]; rfl)
      clear hI HCE HID hi hlt
      have h0p : 0 < S.size := by omega
      have hgk : (S.get! 0).toNat = S[0].toNat := by rw [get_eq S 0 h0p]
      obtain ⟨b, hbb⟩ : ∃ b, b = S[0].toNat := ⟨_, rfl⟩
      have hb2 : (S[0].toNat : Int) = (b : Int) := by rw [hbb]
      rw [← hbb] at hgk
      have HBC := Lib.hid (show headB S = (b == 35 || b == 95) by unfold headB; rw [hgk]; simp [h0p])
      clear hbb hgk
      obtain ⟨hb, hhb⟩ : ∃ hb, hb = headB S := ⟨_, rfl⟩
      obtain ⟨p, hp⟩ : ∃ p : Nat, p = if headB S then 1 else 0 := ⟨_, rfl⟩
      rw [← hp, identT_ext] at HI2
      rw [← hhb] at hp HBC
      have hp1 : p ≤ 1 := by rw [hp]; split <;> omega
      have HP := Lib.hid hp
      clear hp hhb
      go_upto_region 10 with fail
      go_cut [32] from 25 to 32 (fun a wc => a = .bool hb ∧ wc = wr)
      case first =>
        rcases (show b = 35 ∨ b = 95 ∨ (b ≠ 35 ∧ b ≠ 95) by omega) with rfl | rfl | ⟨g1, g2⟩
        · go_wp2_with fail
          go_meet
          exact ⟨by rw [HBC.out]; rfl, rfl⟩
        · go_wp2_with fail
          go_meet
          exact ⟨by rw [HBC.out]; rfl, rfl⟩
        · have g3 : ((b : Int) == 35) = false := by simp; omega
          have g4 : ((b : Int) == 95) = false := by simp; omega
          go_wp2_with fail
          go_meet
          exact ⟨by rw [HBC.out]; simp [g1, g2], rfl⟩
      case rest =>
        obtain ⟨rfl, ew⟩ := hcut
        obtain rfl := ew.symm
        clear hb2 HBC
        go_upto_if 32 with fail
        go_cut [5] from 32 to 32 (fun a wc => a = .int .i64 (p : Int) ∧ wc = wr)
        case first =>
          cases hb with
          | true =>
            go_wp2_with fail
            go_meet
            exact ⟨by rw [HP.out]; rfl, rfl⟩
          | false =>
            go_wp2_with fail
            go_meet
            exact ⟨by rw [HP.out]; rfl, rfl⟩
        case rest =>
        obtain ⟨rfl, ew⟩ := hcut
        obtain rfl := ew.symm
        clear HP
        by_cases hps : S.size ≤ p
        · have HZ := hide (show res = false by rw [HI2.out, decide_eq_false (by omega)]; rfl)
          have g3 : decide ((p : Int) ≥ (S.size : Int)) = true := by simp; omega
          go_wp2_with fail
          go_ret
          exact ⟨ret_bool HZ.out.symm, HBW.out⟩
        · have hps2 : p < S.size := by omega
          have g3 : decide ((p : Int) ≥ (S.size : Int)) = false := by simp; omega
          have hgk : (S.get! p).toNat = S[p].toNat := by rw [get_eq S p hps2]
          obtain ⟨c, hcc⟩ : ∃ c, c = S[p].toNat := ⟨_, rfl⟩
          have hc2 : (S[p].toNat : Int) = (c : Int) := by rw [hcc]
          rw [← hcc] at hgk
          have HI3 := hide (show res = (letterN c && idFrom S p) by rw [HI2.out, decide_eq_true hps2, hgk]; rfl)
          have HLC := hide (HL.out c)
          clear hcc hgk HI2
          obtain ⟨lb, hlb⟩ : ∃ lb, lb = letterN c := ⟨_, rfl⟩
          rw [← hlb] at HI3 HLC
          clear hlb
          cases lb with
          | false =>
            have HZ := hide (show res = false by rw [HI3.out]; rfl)
            go_wp2_with (first | (go_at_call 119; refine (HLC.out _).mono ?_; rintro e w' ⟨rfl, rfl⟩) | fail)
            go_ret
            exact ⟨ret_bool HZ.out.symm, HBW.out⟩
          | true =>
            have HI4 := hide (show res = idFrom S p by rw [HI3.out]; rfl)
            clear HI3
            go_wp2_with (first | (go_at_call 119; refine (HLC.out _).mono ?_; rintro e w' ⟨rfl, rfl⟩) | fail)
            clear hc2 HLC g3 hps
            go_loopw [6] (fun iv wr' => ∃ k : Nat, iv = .int .i64 k ∧ p ≤ k ∧ k ≤ S.size ∧ wr' = wr ∧ Hid (∀ j, p ≤ j → j < k → idChar (S.get! j).toNat = true)) (fun iv _ => S.size - (intOf iv).toNat)
            case atStart => exact ⟨p, rfl, Nat.le_refl _, by omega, rfl, hide fun j h1 hj => by omega⟩
            case round =>
              obtain ⟨k, rfl, hpk, hk, rfl, hI⟩ := hrel
              by_cases hlt : k < S.size
              · have hgk : (S.get! k).toNat = S[k].toNat := by rw [get_eq S k hlt]
                obtain ⟨c, hcc⟩ : ∃ c, c = S[k].toNat := ⟨_, rfl⟩
                have hc2 : (S[k].toNat : Int) = (c : Int) := by rw [hcc]
                rw [← hcc] at hgk
                have HGK := Lib.hid hgk
                have HLC := hide (HL.out c)
                have HDC := hide (HD.out c)
                clear hcc hgk
                have hcase : (letterN c = true ∧ idChar c = true) ∨ (letterN c = false ∧ digitN c = true ∧ idChar c = true) ∨ (letterN c = false ∧ digitN c = false ∧ ((c : Int) != 95) = false ∧ idChar c = true) ∨ (letterN c = false ∧ digitN c = false ∧ ((c : Int) != 95) = true ∧ idChar c = false) := by
                  unfold idChar digitN
                  cases letterN c with
                  | true => exact .inl ⟨rfl, rfl⟩
                  | false =>
                    right
                    by_cases hd : 48 ≤ c ∧ c ≤ 57
                    · exact .inl ⟨rfl, by simp; omega, by simp; omega⟩
                    · right
                      by_cases h95 : c = 95
                      · exact .inl ⟨rfl, by simp; omega, by subst h95; rfl, by simp; omega⟩
                      · exact .inr ⟨rfl, by simp; omega, by simp; omega, by simp; omega⟩
                rcases hcase with ⟨q1, q4⟩ | ⟨q1, q2, q4⟩ | ⟨q1, q2, q3, q4⟩ | ⟨q1, q2, q3, q4⟩
                · rw [q1] at HLC
                  have HQ := hide q4
                  clear q1 q4
                  go_wp2_with (first | (go_at_call 119; refine (HLC.out _).mono ?_; rintro e w' ⟨rfl, rfl⟩) | fail)
                  go_roundw
                  case rel => exact ⟨k + 1, by go_num, by omega, by omega, by first | trivial | rfl, hide (from_up hI.out (by rw [HGK.out]; exact HQ.out))⟩
                  case measure => simp [intOf]; omega
                · rw [q1] at HLC
                  rw [q2] at HDC
                  have HQ := hide q4
                  clear q1 q2 q4
                  go_wp2_with (first | (go_at_call 119; refine (HLC.out _).mono ?_; rintro e w' ⟨rfl, rfl⟩) | (go_at_call 120; refine (HDC.out _).mono ?_; rintro e w' ⟨rfl, rfl⟩) | fail)
                  go_roundw
                  case rel => exact ⟨k + 1, by go_num, by omega, by omega, by first | trivial | rfl, hide (from_up hI.out (by rw [HGK.out]; exact HQ.out))⟩
                  case measure => simp [intOf]; omega
                · rw [q1] at HLC
                  rw [q2] at HDC
                  have HQ := hide q4
                  clear q1 q2 q4
                  go_wp2_with (first | (go_at_call 119; refine (HLC.out _).mono ?_; rintro e w' ⟨rfl, rfl⟩) | (go_at_call 120; refine (HDC.out _).mono ?_; rintro e w' ⟨rfl, rfl⟩) | fail)
                  go_roundw
                  case rel => exact ⟨k + 1, by go_num, by omega, by omega, by first | trivial | rfl, hide (from_up hI.out (by rw [HGK.out]; exact HQ.out))⟩
                  case measure => simp [intOf]; omega
                · rw [q1] at HLC
                  rw [q2] at HDC
                  have HZ := hide (show res = false by rw [HI4.out]; exact from_no hpk hlt (by rw [HGK.out]; exact q4))
                  clear q1 q2 q4
                  go_wp2_with (first | (go_at_call 119; refine (HLC.out _).mono ?_; rintro e w' ⟨rfl, rfl⟩) | (go_at_call 120; refine (HDC.out _).mono ?_; rintro e w' ⟨rfl, rfl⟩) | fail)
                  go_ret
                  exact ⟨ret_bool HZ.out.symm, HBW.out⟩
              · obtain rfl : k = S.size := by omega
                have HZ := hide (show res = true by rw [HI4.out]; exact from_yes hI.out)
                clear hI
                go_wp2_with fail
                go_ret
                exact ⟨ret_bool HZ.out.symm, HBW.out⟩

theorem refLabel_run (S : ByteArray) (hS : S.size ≤ 1000000000) (w : World) : Calls Tryz.prog 85 #[.string S] w fun e w' => e = .returned (.string (labelB S)) ∧ Below w.heap.size w w' := by
  have HI := hide fun w => refIdent_run S hS w
  have HQ := hide fun w => refQuote_run S hS w
  unfold labelB
  obtain ⟨b, hb⟩ : ∃ b, b = identB S := ⟨_, rfl⟩
  rw [← hb] at HI ⊢
  clear hb
  go_enter Tryz.func85, Tryz.ntmps85
  go_wp2_with fail
  refine (HI.out _).mono ?_; rintro e w1 ⟨rfl, hB1⟩
  have HB1 := hide hB1
  clear hB1
  cases b with
  | true =>
    go_wp2_with fail
    go_ret
    exact ⟨rfl, HB1.out⟩
  | false =>
    go_wp2_with fail
    refine (HQ.out _).mono ?_; rintro e w2 ⟨rfl, hB2⟩
    have HB2 := hide (HB1.out.trans (hB2.mono HB1.out.size))
    clear hB2
    go_wp2_with fail
    go_ret
    exact ⟨rfl, HB2.out⟩
end Go.Proofs.YtmmbbndoimleaaaGreatDoor

/- abs, Digits and Text of a number in the reference. -/
namespace Go.Proofs.YtmmbbndoimleaaaGreatDoor
open Go.RowKit Go.Shelf

theorem abs_run (u : Int) (h : validB u = true) (w : World) : Calls Tryz.prog 104 #[.int .i64 u] w fun e w' => e = .returned (.int .i64 (u.natAbs : Int)) ∧ w' = w := by
  have hv : -1000000000000000 ≤ u ∧ u ≤ 1000000000000000 := by
    unfold validB at h; simpa using h
  obtain ⟨h1, h2⟩ := hv
  by_cases hn : u < 0
  · have w1 : IntKind.i64.wrap (-u) = -u := IntWalk.i64_in _ (by omega)
    have e1 : -u = (u.natAbs : Int) := by omega
    have HE := Lib.hid e1
    clear h e1
    go_enter Tryz.func104, Tryz.ntmps104
    go_wp2_with fail
    go_ret
    exact ⟨by rw [← HE.out]; rfl, rfl⟩
  · have e1 : u = (u.natAbs : Int) := by omega
    have HE := Lib.hid e1
    clear h e1
    go_enter Tryz.func104, Tryz.ntmps104
    go_wp2_with fail
    go_ret
    exact ⟨by rw [← HE.out]; rfl, rfl⟩

set_option maxRecDepth 20000 in
set_option maxHeartbeats 1000000 in
theorem Digits_run (n l : Nat) (hn : n < 1000000000000000000) (hl : l ≤ 4) (w : World) :
    Calls Tryz.prog 103 #[.int .i64 n, .int .i64 l] w fun e w' => e = .returned (.string ⟨(digF 20 n l []).toArray⟩) ∧ Below w.heap.size w w' := by
  obtain ⟨res, hres⟩ : ∃ r, r = digF 20 n l [] := ⟨_, rfl⟩
  rw [← hres]
  have HRES := Lib.hid hres
  clear hres
  go_enter Tryz.func103, Tryz.ntmps103
  go_wp2_with fail
  go_loopw [0, 5] (fun nv sv wr => ∃ (f k : Nat) (T : ByteArray), nv = .int .i64 k ∧ sv = .string T ∧ k < 1000000000000000000 ∧ T.size + f = 20 ∧ Hid (k < 10 ^ f) ∧ Hid (res = digF f k l T.data.toList) ∧ Hid (Below w.heap.size w wr)) (fun _ sv _ => 20 - sizeOfV sv)
  case atStart => exact ⟨20, n, ⟨#[]⟩, rfl, rfl, hn, rfl, hide (by omega), HRES, hide (Below.refl _ _)⟩
  case round =>
    clear HRES
    obtain ⟨f, k, T, rfl, rfl, hk, hT, hf, hI, hB⟩ := hrel
    by_cases hc : 0 < k ∨ T.size < l
    · have hI' := hI.out
      have hf' := hf.out
      obtain ⟨f, rfl⟩ : ∃ f', f = f' + 1 := by
        cases f with
        | zero => exfalso; rw [Nat.pow_zero] at hf'; omega
        | succ f => exact ⟨f, rfl⟩
      unfold digF at hI'
      rw [if_pos (by rw [Array.length_toList]; exact hc)] at hI'
      by_cases k0 : k = 0
      · subst k0
        have g2 : decide ((T.size : Int) < (l : Int)) = true := by simp; omega
        have g3 : decide (T.size < l) = true := by simp; omega
        have g4 : T.size < l := by omega
        have hcv : (convert 73 9 (.slice (some ⟨wr.heap.size, 0, none⟩) 1 1)).run Tryz.prog (wr.alloc (Obj.cells #[.int .u8 48] 5)) = .ok (.string ⟨#[48]⟩) (wr.alloc (Obj.cells #[.int .u8 48] 5)) := conv_one wr 48 (by decide)
        have HF := hide (show 0 < 10 ^ f by exact Nat.pow_pos (by decide))
        have HT2 := hide (show ((⟨#[48]⟩ : ByteArray) ++ T).size + f = 20 by rw [ByteArray.size_append]; show 1 + T.size + f = 20; omega)
        have HI2 := hide (show res = digF f 0 l ((⟨#[48]⟩ : ByteArray) ++ T).data.toList by rw [hI', ByteArray.data_append, Array.toList_append]; rfl)
        have HB2 := hide (below_al hB.out (Obj.cells #[Value.int IntKind.u8 48] 5))
        clear hI' hf' hf hI hB hc
        go_wp2_with fail
        go_roundw
        case rel => exact ⟨f, 0, (⟨#[48]⟩ : ByteArray) ++ T, rfl, rfl, by decide, HT2.out, HF, HI2, HB2⟩
        case measure => have h2 := HT2.out; simp only [sizeOfV]; omega
      · obtain ⟨d, hd⟩ : ∃ d, d = 48 + k % 10 := ⟨_, rfl⟩
        obtain ⟨q, hq⟩ : ∃ q, q = k / 10 := ⟨_, rfl⟩
        obtain ⟨r, hr⟩ : ∃ r, r = k % 10 := ⟨_, rfl⟩
        rw [← hd, ← hq] at hI'
        have g1 : decide ((k : Int) > 0) = true := by simp; omega
        have e1 : (k : Int).tmod 10 = (r : Int) := by rw [Int.tmod_eq_emod_of_nonneg (by omega)]; omega
        have e2 : (k : Int) % 10 = (r : Int) := by omega
        have e3 : (k : Int).tdiv 10 = (q : Int) := by rw [Int.tdiv_eq_ediv_of_nonneg (by omega)]; omega
        have e4 : (k : Int) / 10 = (q : Int) := by omega
        have e5 : IntKind.i64.wrap (48 + (r : Int)) = (d : Int) := by rw [IntWalk.i64_in _ (by omega)]; omega
        have e6 : IntKind.u8.wrap (d : Int) = (d : Int) := by rw [IntKind.wrap_u8]; omega
        have e7 : IntKind.i64.wrap (r : Int) = (r : Int) := IntWalk.i64_in _ (by omega)
        have e8 : IntKind.i64.wrap (q : Int) = (q : Int) := IntWalk.i64_in _ (by omega)
        have hcv := conv_one wr d (by omega)
        have HF := hide (show q < 10 ^ f by rw [Nat.pow_succ] at hf'; omega)
        have hq2 : q < 1000000000000000000 := by omega
        have HT2 := hide (show ((⟨#[UInt8.ofNat d]⟩ : ByteArray) ++ T).size + f = 20 by rw [ByteArray.size_append]; show 1 + T.size + f = 20; omega)
        have HI2 := hide (show res = digF f q l ((⟨#[UInt8.ofNat d]⟩ : ByteArray) ++ T).data.toList by rw [hI', ByteArray.data_append, Array.toList_append]; rfl)
        have HB2 := hide (below_al hB.out (Obj.cells #[Value.int IntKind.u8 (d : Int)] 5))
        clear hd hq hr hI' hf' hf hI hB hc
        go_wp2_with fail
        go_roundw
        case rel => exact ⟨f, q, (⟨#[UInt8.ofNat d]⟩ : ByteArray) ++ T, rfl, rfl, hq2, HT2.out, HF, HI2, HB2⟩
        case measure => have h2 := HT2.out; simp only [sizeOfV]; omega
    · have g1 : decide ((k : Int) > 0) = false := by simp; omega
      have g2 : decide ((T.size : Int) < (l : Int)) = false := by simp; omega
      have g3 : decide (T.size < l) = false := by simp; omega
      have HZ := hide (show T = ⟨res.toArray⟩ by
        rw [hI.out]
        cases f with
        | zero => rfl
        | succ f => unfold digF; rw [if_neg (by rw [Array.length_toList]; exact hc)])
      clear hI hf
      go_wp2_with fail
      go_ret
      exact ⟨ret_str HZ.out, hB.out⟩

theorem drop_ext (l : List UInt8) : (⟨(l.drop 1).toArray⟩ : ByteArray) = (⟨l.toArray⟩ : ByteArray).extract 1 (⟨l.toArray⟩ : ByteArray).size := by
  refine ByteArray.ext (Array.toList_inj.1 ?_)
  rw [ByteArray.data_extract]
  have : (⟨l.toArray⟩ : ByteArray).size = l.length := by show l.toArray.size = _; simp
  rw [this]
  simp
  rw [List.take_of_length_le (by simp)]

set_option maxRecDepth 20000 in
set_option maxHeartbeats 2000000 in
theorem refNumText_run (u : Int) (w : World) : Calls Tryz.prog 83 #[.int .i64 u] w fun e w' => e = .returned (.string (numB u)) ∧ Below w.heap.size w w' := by
  obtain ⟨res, hres⟩ : ∃ r, r = numB u := ⟨_, rfl⟩
  rw [← hres]
  unfold numB at hres
  have HV := hide fun w => refValid_run u w
  cases hv : validB u with
  | false =>
    rw [hv] at HV hres
    have HZ := hide (show res = ⟨#[63]⟩ by rw [hres]; simp)
    clear hres
    go_enter Tryz.func83, Tryz.ntmps83
    go_wp2_with fail
    refine (HV.out _).mono ?_; rintro e w' ⟨rfl, rfl⟩
    go_wp2_with fail
    go_ret
    exact ⟨ret_str HZ.out.symm, Below.refl _ _⟩
  | true =>
    have HSZ := hide fun w => abs_run u hv w
    have hb : u.natAbs ≤ 1000000000000000 := by unfold validB at hv; simp at hv; omega
    rw [hv] at HV hres
    obtain ⟨n, hn⟩ : ∃ n, n = u.natAbs := ⟨_, rfl⟩
    have hnat := Int.natAbs_tmod u 10000
    have hmod : u.tmod 10000 = 0 ↔ n % 10000 = 0 := by
      rw [hn]
      constructor
      · intro h; rw [h] at hnat; exact hnat.symm
      · intro h
        have h2 : (u.tmod 10000).natAbs = 0 := hnat.trans h
        omega
    have hmb : (u.tmod 10000).natAbs < 10000 := by rw [hnat]; exact Nat.mod_lt _ (by decide)
    rw [← hn] at HSZ hb hres
    have HF1 := hide fun w' => Digits_run (n / 10000) 1 (by omega) (by omega) w'
    have HF2 := hide fun w' => Digits_run (n % 10000) 4 (by omega) (by omega) w'
    rw [digF_dec _ (by omega)] at HF1
    rw [digF_four _ (by omega), drop_ext] at HF2
    have e1 : (n : Int).tdiv 10000 = ((n / 10000 : Nat) : Int) := by rw [Int.tdiv_eq_ediv_of_nonneg (by omega)]; omega
    have e2 : (n : Int).tmod 10000 = ((n % 10000 : Nat) : Int) := by rw [Int.tmod_eq_emod_of_nonneg (by omega)]; omega
    have e3 : (n : Int) / 10000 = ((n / 10000 : Nat) : Int) := by omega
    have e4 : (n : Int) % 10000 = ((n % 10000 : Nat) : Int) := by omega
    have w4 : IntKind.i64.wrap ((n / 10000 : Nat) : Int) = ((n / 10000 : Nat) : Int) := IntWalk.i64_in _ (by omega)
    have w5 : IntKind.i64.wrap ((n % 10000 : Nat) : Int) = ((n % 10000 : Nat) : Int) := IntWalk.i64_in _ (by omega)
    have w6 : IntKind.i64.wrap (u.tmod 10000) = u.tmod 10000 := IntWalk.i64_in _ (by omega)
    obtain ⟨D, hD⟩ : ∃ D, D = decB (n / 10000) := ⟨_, rfl⟩
    obtain ⟨F, hF⟩ : ∃ D, D = decB (n % 10000 + 10000) := ⟨_, rfl⟩
    have hDs : D.size ≤ 20 := by rw [hD, decB_size]; exact nDigits_small (by omega)
    have hFs : F.size = 5 := by rw [hF, decB_size]; exact Lib.nDigits_unique 4 _ (by omega) (by omega)
    have HNE := hide (show n % 10000 ≠ 0 → (trimB (F.extract 1 F.size)).toList ≠ [] from fun h => by rw [hF]; exact frac_some (by omega) h)
    have HZE := hide (show n % 10000 = 0 → dotB (trimB (F.extract 1 F.size)) = ByteArray.empty from fun h => by
      rw [hF]
      have : trimB ((decB (n % 10000 + 10000)).extract 1 (decB (n % 10000 + 10000)).size) = ByteArray.empty := by rw [h]; exact frac_zero
      rw [this]
      have e0 : ByteArray.empty.toList = [] := by rw [ByteArray.toList_eq]; rfl
      unfold dotB; rw [if_pos e0])
    rw [show (⟨(Lib.decDigits (n / 10000)).toArray⟩ : ByteArray) = D from hD.symm] at HF1
    rw [show (⟨(Lib.decDigits (n % 10000 + 10000)).toArray⟩ : ByteArray) = F from hF.symm] at HF2
    unfold fracB at hres
    rw [← hD, ← hF] at hres
    have HRES := Lib.hid hres
    obtain ⟨q, hq⟩ : ∃ q, q = n / 10000 := ⟨_, rfl⟩
    obtain ⟨r, hr⟩ : ∃ q, q = n % 10000 := ⟨_, rfl⟩
    rw [← hq] at e1 e3 HF1 w4
    rw [← hr] at e2 e4 HF2 w5 HNE HZE hmod
    obtain ⟨tm, htm⟩ : ∃ t, t = u.tmod 10000 := ⟨_, rfl⟩
    have e9 := htm.symm
    rw [← htm] at w6 hmod
    clear hres hv hn hb hD hF hq hr htm hnat hmb
    go_enter Tryz.func83, Tryz.ntmps83
    go_wp2_with fail
    refine (HV.out _).mono ?_; rintro e w' ⟨rfl, rfl⟩
    go_wp2_with fail
    refine (HSZ.out _).mono ?_; rintro e w' ⟨rfl, rfl⟩
    go_wp2_with fail
    refine (HF1.out _).mono ?_; rintro e w2 ⟨rfl, hB2⟩
    have HB2 := hide hB2
    clear hB2 HF1
    obtain ⟨G, hG⟩ : ∃ G, G = signB u D := ⟨_, rfl⟩
    have hGs : G.size ≤ 21 := by
      rw [hG]; unfold signB; split
      · rw [ByteArray.size_append]; show 1 + D.size ≤ 21; omega
      · omega
    have hGG : (u < 0 ∧ (⟨#[45]⟩ : ByteArray) ++ D = G) ∨ (¬ u < 0 ∧ D = G) := by
      by_cases h : u < 0
      · exact .inl ⟨h, by rw [hG, signB, if_pos h]⟩
      · exact .inr ⟨h, by rw [hG, signB, if_neg h]⟩
    have HR2 := hide (show res = G ++ dotB (trimB (F.extract 1 F.size)) by rw [HRES.out, if_neg (by simp), hG])
    clear hG HRES
    obtain ⟨R, hR⟩ : ∃ R, R = F.extract 1 F.size := ⟨_, rfl⟩
    have hRs : R.size = 4 := by rw [hR, ByteArray.size_extract]; omega
    rw [← hR] at HR2 HF2 HNE HZE
    clear hR hFs
    by_cases hr0 : r = 0
    · have g3 : (tm == 0) = true := by simpa using hmod.2 hr0
      have HZ := hide (show res = G by rw [HR2.out, HZE.out hr0]; exact ByteArray.append_empty)
      clear hmod HNE HZE HF2 HR2 hr0
      rcases hGG with ⟨hu, hGG⟩ | ⟨hu, hGG⟩
      all_goals
        have HGG := Lib.hid hGG
        clear hGG
        go_wp2_with fail
        go_ret
        exact ⟨by first | (rw [HZ.out, ← HGG.out]; done) | (rw [HZ.out, ← HGG.out]; rfl), HB2.out⟩
    · have g3 : (tm == 0) = false := by
        rw [beq_eq_false_iff_ne]; exact fun h => hr0 (hmod.1 h)
      have HNE2 := hide (HNE.out hr0)
      clear hmod HNE HZE hr0
      rcases hGG with ⟨hu, hGG⟩ | ⟨hu, hGG⟩
      all_goals
        have HGG := Lib.hid hGG
        clear hGG
        go_wp2_with fail
        refine (HSZ.out _).mono ?_; rintro e w' ⟨rfl, rfl⟩
        go_wp2_with fail
        refine (HF2.out _).mono ?_; rintro e w3 ⟨rfl, hB3⟩
        have HB3 := hide (HB2.out.trans (hB3.mono HB2.out.size))
        clear hB3 HF2 HB2
        go_wp2_with fail
        go_loopw [4] (fun tv wr => ∃ (k : Nat) (T : ByteArray), tv = .string T ∧ T.size = k ∧ k ≤ 4 ∧ Hid (trimB R = trimF k T) ∧ wr = w3) (fun tv _ => sizeOfV tv)
        case atStart => exact ⟨4, R, rfl, hRs, by omega, hide (by rw [trimB, hRs]), rfl⟩
        case round =>
          obtain ⟨k, T, rfl, hTs, hk, hI, rfl⟩ := hrel
          cases k with
          | zero =>
            exfalso
            refine HNE2.out ?_
            rw [hI.out, trimF, Lib.toList_data]
            exact List.eq_nil_of_length_eq_zero (by rw [Array.length_toList]; exact hTs)
          | succ n =>
            have hn : n < T.size := by omega
            have hq := hI.out
            rw [trimF, get_eq T n hn] at hq
            have hidx : IntKind.i64.wrap (((n + 1 : Nat) : Int) - 1) = (n : Int) := by rw [IntWalk.i64_in _ (by omega)]; omega
            by_cases h48 : T[n] = 48
            · rw [if_pos h48] at hq
              have g8 : ((T[n].toNat : Int) == 48) = true := by rw [h48]; rfl
              have HQ := Lib.hid hq
              have hT2 : (T.extract 0 n).size = n := by rw [ByteArray.size_extract]; omega
              have HT2 := Lib.hid hT2
              clear hq h48 hI hT2
              go_wp2_with fail
              go_roundw
              case rel => exact ⟨n, T.extract 0 n, rfl, HT2.out, by omega, HQ, by first | rfl | trivial⟩
              case measure => simp [sizeOfV]; omega
            · rw [if_neg h48] at hq
              have g8 : ((T[n].toNat : Int) == 48) = false := by
                have : T[n].toNat ≠ 48 := fun h => h48 (UInt8.toNat_inj.1 (by rw [h]; rfl))
                simp; omega
              have hne : T.toList ≠ [] := fun h => by
                rw [Lib.toList_data] at h
                have h2 : T.data.toList.length = T.size := by rw [Array.length_toList]; rfl
                rw [h] at h2; simp at h2; omega
              have HZ := hide (show res = (G ++ ⟨#[46]⟩) ++ T by rw [HR2.out, hq, dotB, if_neg hne, ByteArray.append_assoc])
              clear hq h48 hne hI
              go_wp2_with fail
              go_ret
              exact ⟨by first | (rw [HZ.out, ← HGG.out]; done) | (rw [HZ.out, ← HGG.out]; rfl), HB3.out⟩
end Go.Proofs.YtmmbbndoimleaaaGreatDoor
