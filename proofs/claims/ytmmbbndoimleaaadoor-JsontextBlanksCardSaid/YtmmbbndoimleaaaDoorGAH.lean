/- Reading JSON, plain: values; several, by whatever element; A region that draws its order: a head under a condition that the tail may break; the tail in whatever order; The blocks of a call of value; one more item; Is the label among the members?; One more member. -/
import Derived.Test.YtmmbbndoimleaaaDoorGAE
import Derived.Test.YtmmbbndoimleaaaDoorGAG
import Derived.Test.YtmmbbndoimleaaaDoorGAC

/- Reading JSON, plain: values. -/
namespace Go.Proofs.YtmmbbndoimleaaaDoor
open Go.RowKit

/-- Elements up to a closing byte, so many at most. -/
def sevL {α : Type} (S : ByteArray) (e : Nat) (step : α → Nat → Except Flt (α × Nat)) : Nat → α → Nat → Except Flt (α × Nat)
  | 0, _, i => .error (19, i)
  | n + 1, x, i => match step x (blk S i) with
    | .error f => .error f
    | .ok (y, j) => if nx S (blk S j) = e then .ok (y, blk S j + 1) else match wordF S [44] (blk S j) with
      | .error f => .error f
      | .ok k => sevL S e step n y k
def sevR {α : Type} (S : ByteArray) (e : Nat) (step : α → Nat → Except Flt (α × Nat)) (x : α) (i : Nat) : Except Flt (α × Nat) := sevL S e step (S.size + 1 - i) x i
def sevF {α : Type} (S : ByteArray) (e : Nat) (step : α → Nat → Except Flt (α × Nat)) (x : α) (i : Nat) : Except Flt (α × Nat) :=
  if nx S (blk S (i + 1)) = e then .ok (x, blk S (i + 1) + 1) else sevR S e step x (blk S (i + 1))
/-- A step goes on. -/
def Gain {α : Type} (S : ByteArray) (step : α → Nat → Except Flt (α × Nat)) : Prop := ∀ x i y j, step x i = .ok (y, j) → i < j ∧ j ≤ S.size
theorem word1 {S : ByteArray} {c : UInt8} {i k : Nat} (hc : c.toNat ≠ 0) (h : wordF S [c] i = .ok k) : k = i + 1 ∧ i < S.size := by
  unfold wordF at h
  split at h
  · rename_i he
    injection h with h
    exact ⟨h.symm, nx_in (by rw [he]; exact hc)⟩
  · cases h
theorem word_in {S : ByteArray} : ∀ {l : List UInt8} {i j : Nat}, wordF S l i = .ok j → (∀ c ∈ l, c.toNat ≠ 0) → l ≠ [] → j ≤ S.size
  | [], _, _, _, _, h => absurd rfl h
  | [c], i, j, h, hc, _ => by have := word1 (hc c (by simp)) h; omega
  | c :: d :: l, i, j, h, hc, _ => by
    unfold wordF at h
    split at h
    · exact word_in h (fun x hx => hc x (List.mem_cons_of_mem _ hx)) (by simp)
    · cases h
section
variable {α : Type} {S : ByteArray} {e : Nat} {step : α → Nat → Except Flt (α × Nat)}
theorem sevL_fuel (hg : Gain S step) : ∀ (m n : Nat) (x : α) (i : Nat), S.size + 1 - i ≤ m → m ≤ n → i ≤ S.size → sevL S e step n x i = sevL S e step m x i
  | 0, n, x, i, h, _, hi => by omega
  | m + 1, 0, _, _, _, h, _ => by omega
  | m + 1, n + 1, x, i, h, hn, hi => by
    unfold sevL
    cases hs : step x (blk S i) with
    | error f => rfl
    | ok p =>
      obtain ⟨y, j⟩ := p
      obtain ⟨g1, g2⟩ := hg _ _ _ _ hs
      have g3 : i ≤ blk S i := run_ge _ _ _
      have g4 : j ≤ blk S j := run_ge _ _ _
      simp only
      split
      · rfl
      cases hw : wordF S [44] (blk S j) with
      | error f => rfl
      | ok k =>
        obtain ⟨g5, g6⟩ := word1 (by decide) hw
        exact sevL_fuel hg m n y k (by omega) (by omega) (by omega)
theorem sevR_eq (hg : Gain S step) (x : α) {i : Nat} (hi : i ≤ S.size) : sevR S e step x i = match step x (blk S i) with
    | .error f => .error f
    | .ok (y, j) => if nx S (blk S j) = e then .ok (y, blk S j + 1) else match wordF S [44] (blk S j) with
      | .error f => .error f
      | .ok k => sevR S e step y k := by
  unfold sevR
  rw [show S.size + 1 - i = (S.size - i) + 1 by omega, sevL]
  cases hs : step x (blk S i) with
  | error f => rfl
  | ok p =>
    obtain ⟨y, j⟩ := p
    obtain ⟨g1, g2⟩ := hg _ _ _ _ hs
    have g3 : i ≤ blk S i := run_ge _ _ _
    have g4 : j ≤ blk S j := run_ge _ _ _
    simp only
    split
    · rfl
    cases hw : wordF S [44] (blk S j) with
    | error f => rfl
    | ok k =>
      obtain ⟨g5, g6⟩ := word1 (by decide) hw
      exact sevL_fuel hg (S.size + 1 - k) (S.size - i) y k (by omega) (by omega) (by omega)
theorem sevL_inv {Q : α → Nat → Prop} (hQ : ∀ x i y j, Q x i → step x i = .ok (y, j) → Q y j) (hm : ∀ x i j, i ≤ j → Q x i → Q x j) (he : e ≠ 0) (hg : Gain S step) :
    ∀ (n : Nat) (x : α) (i : Nat) (y : α) (j : Nat), Q x i → sevL S e step n x i = .ok (y, j) → Q y j ∧ i < j ∧ j ≤ S.size
  | 0, _, _, _, _, _, h => by unfold sevL at h; cases h
  | n + 1, x, i, y, j, hx, h => by
    unfold sevL at h
    have g3 : i ≤ blk S i := run_ge _ _ _
    cases hs : step x (blk S i) with
    | error f => rw [hs] at h; cases h
    | ok p =>
      obtain ⟨z, k⟩ := p
      rw [hs] at h
      simp only at h
      obtain ⟨g1, g2⟩ := hg _ _ _ _ hs
      have g4 : k ≤ blk S k := run_ge _ _ _
      have hz := hQ _ _ _ _ (hm _ _ _ g3 hx) hs
      split at h
      · rename_i hn
        have g5 : blk S k < S.size := nx_in (by rw [hn]; exact he)
        injection h with h
        injection h with h1 h2
        subst h1; subst h2
        exact ⟨hm _ _ _ (by omega) hz, by omega, by omega⟩
      cases hw : wordF S [44] (blk S k) with
      | error f => rw [hw] at h; cases h
      | ok q =>
        rw [hw] at h
        obtain ⟨g5, g6⟩ := word1 (by decide) hw
        obtain ⟨h1, h2, h3⟩ := sevL_inv hQ hm he hg n z q y j (hm _ _ _ (by omega) hz) h
        exact ⟨h1, by omega, h3⟩
theorem sev_inv {Q : α → Nat → Prop} (hQ : ∀ x i y j, Q x i → step x i = .ok (y, j) → Q y j) (hm : ∀ x i j, i ≤ j → Q x i → Q x j) (he : e ≠ 0) (hg : Gain S step) {x : α} {i : Nat} {y : α} {j : Nat}
    (hx : Q x i) (h : sevF S e step x i = .ok (y, j)) : Q y j ∧ i < j ∧ j ≤ S.size := by
  have g3 : i + 1 ≤ blk S (i + 1) := run_ge _ _ _
  unfold sevF at h
  split at h
  · rename_i hn
    have g5 : blk S (i + 1) < S.size := nx_in (by rw [hn]; exact he)
    injection h with h
    injection h with h1 h2
    subst h1; subst h2
    exact ⟨hm _ _ _ (by omega) hx, by omega, by omega⟩
  · obtain ⟨h1, h2, h3⟩ := sevL_inv hQ hm he hg _ _ _ _ _ (hm _ _ _ (by omega) hx) h
    exact ⟨h1, by omega, h3⟩
end
/-- One more item. -/
def itemS (v : Nat → Except Flt (Dt × Nat)) (l : List Dt) (i : Nat) : Except Flt (List Dt × Nat) := match v i with
  | .error f => .error f
  | .ok (d, j) => .ok (l ++ [d], j)
/-- One more member. -/
def memS (S : ByteArray) (v : Nat → Except Flt (Dt × Nat)) (l : List (ByteArray × Dt)) (i : Nat) : Except Flt (List (ByteArray × Dt) × Nat) := match strF S i with
  | .error f => .error f
  | .ok (s, j) => if (l.any fun m => m.1.toList == s.toList) = true then .error (6, i) else match wordF S [58] (blk S j) with
    | .error f => .error f
    | .ok k => match v (blk S k) with
      | .error f => .error f
      | .ok (d, q) => .ok (l ++ [(s, d)], q)
abbrev leafD (k n : Int) (s : ByteArray) : Dt := mkD k n s [] []
/-- A value. -/
def valF (S : ByteArray) : Nat → Nat → Except Flt (Dt × Nat)
  | 0, i => .error (19, i)
  | n + 1, i =>
    if nx S i = 110 then match wordF S [110, 117, 108, 108] i with
      | .error f => .error f
      | .ok j => .ok (leafD 1 0 ⟨#[]⟩, j)
    else if nx S i = 116 then match wordF S [116, 114, 117, 101] i with
      | .error f => .error f
      | .ok j => .ok (leafD 2 1 ⟨#[]⟩, j)
    else if nx S i = 102 then match wordF S [102, 97, 108, 115, 101] i with
      | .error f => .error f
      | .ok j => .ok (leafD 2 0 ⟨#[]⟩, j)
    else if nx S i = 34 then match strF S i with
      | .error f => .error f
      | .ok (s, j) => .ok (leafD 4 0 s, j)
    else if nx S i = 45 ∨ digB (nx S i) = true then match numE S i with
      | .error f => .error f
      | .ok (u, j) => .ok (leafD 3 u ⟨#[]⟩, j)
    else if nx S i = 91 then match sevF S 93 (itemS (valF S n)) [] i with
      | .error f => .error f
      | .ok (l, j) => .ok (mkD 5 0 ⟨#[]⟩ l [], j)
    else if nx S i = 123 then match sevF S 125 (memS S (valF S n)) [] i with
      | .error f => .error f
      | .ok (l, j) => .ok (mkD 6 0 ⟨#[]⟩ [] l, j)
    else .error (19, i)
theorem strL_gain {S : ByteArray} : ∀ {n i : Nat} {o T : ByteArray} {j : Nat}, strL S n i o = .ok (T, j) → i < j ∧ j ≤ S.size
  | 0, _, _, _, _, h => by unfold strL at h; cases h
  | n + 1, i, o, T, j, h => by
    unfold strL at h
    split at h
    · rename_i hn
      have := nx_in (S := S) (i := i) (by rw [hn]; decide)
      injection h with h; injection h with h1 h2; omega
    split at h
    · cases he : escF S i with
      | error f => rw [he] at h; cases h
      | ok p =>
        obtain ⟨c, k⟩ := p
        rw [he] at h
        have := esc_ok he
        have := strL_gain h
        omega
    split at h
    · cases h
    · have := strL_gain h
      omega
theorem str_gain {S : ByteArray} {i : Nat} {T : ByteArray} {j : Nat} (h : strF S i = .ok (T, j)) : i < j ∧ j ≤ S.size := by
  unfold strF at h
  cases hw : wordF S [34] i with
  | error f => rw [hw] at h; cases h
  | ok k =>
    rw [hw] at h
    obtain ⟨g5, g6⟩ := word1 (by decide) hw
    have := strL_gain h
    omega
theorem dig_in {S : ByteArray} {i : Nat} (h : digB (nx S i) = true) : i < S.size := nx_in fun e => by rw [e] at h; cases h
theorem num_gain {S : ByteArray} {i : Nat} {u : Int} {j : Nat} (h : numE S i = .ok (u, j)) : i < j ∧ j ≤ S.size := by
  unfold numE at h
  obtain ⟨a, ha⟩ : ∃ a, a = if nx S i = 45 then i + 1 else i := ⟨_, rfl⟩
  have ha2 : i ≤ a := by rw [ha]; split <;> omega
  rw [← ha] at h
  simp only at h
  split at h
  · cases h
  rename_i hd
  have hd : digB (nx S a) = true := by simpa using hd
  have hin := dig_in hd
  obtain ⟨b, hb⟩ : ∃ b, b = if nx S a = 48 then a + 1 else dge S a := ⟨_, rfl⟩
  have hb2 : a < b ∧ b ≤ S.size := by
    rw [hb]
    split
    · omega
    · have h1 := run_step (q := digB) rfl hd
      have h2 := run_ge digB S (a + 1)
      have h3 := run_le digB (S := S) (i := a) (by omega)
      show a < runF digB S a ∧ runF digB S a ≤ S.size
      omega
  rw [← hb] at h
  split at h
  · cases h
  rename_i hf
  obtain ⟨e, he⟩ : ∃ e, e = if nx S b = 46 then dge S (b + 1) else b := ⟨_, rfl⟩
  rw [← he] at h
  split at h
  · cases h
  split at h
  · cases h
  injection h with h
  injection h with h1 h2
  subst h2
  split at he
  · rename_i h46
    have g1 : digB (nx S (b + 1)) = true := by
      cases hq : digB (nx S (b + 1)) with
      | true => rfl
      | false => exact absurd ⟨h46, hq⟩ hf
    have g2 := dig_in g1
    have h3 := run_ge digB S (b + 1)
    have h4 := run_le digB (S := S) (i := b + 1) (by omega)
    have h5 : dge S (b + 1) = runF digB S (b + 1) := rfl
    omega
  · omega
theorem item_gain {S : ByteArray} {v : Nat → Except Flt (Dt × Nat)} (hv : ∀ i d j, v i = .ok (d, j) → i < j ∧ j ≤ S.size) : Gain S (itemS v) := fun x i y j h => by
  unfold itemS at h
  cases hq : v i with
  | error f => rw [hq] at h; cases h
  | ok p =>
    obtain ⟨d, k⟩ := p
    rw [hq] at h
    injection h with h; injection h with h1 h2
    have := hv _ _ _ hq
    omega
theorem mem_gain {S : ByteArray} {v : Nat → Except Flt (Dt × Nat)} (hv : ∀ i d j, v i = .ok (d, j) → i < j ∧ j ≤ S.size) : Gain S (memS S v) := fun x i y j h => by
  unfold memS at h
  cases hs : strF S i with
  | error f => rw [hs] at h; cases h
  | ok p =>
    obtain ⟨s, a⟩ := p
    rw [hs] at h
    have g1 := str_gain hs
    have g2 : a ≤ blk S a := run_ge _ _ _
    simp only at h
    split at h
    · cases h
    cases hw : wordF S [58] (blk S a) with
    | error f => rw [hw] at h; cases h
    | ok k =>
      rw [hw] at h
      obtain ⟨g5, g6⟩ := word1 (by decide) hw
      have g3 : k ≤ blk S k := run_ge _ _ _
      simp only at h
      cases hq : v (blk S k) with
      | error f => rw [hq] at h; cases h
      | ok p =>
        obtain ⟨d, q⟩ := p
        rw [hq] at h
        injection h with h; injection h with h1 h2
        have := hv _ _ _ hq
        omega
/-- What value reads: it goes on, and no list is longer than the text. -/
theorem val_gain {S : ByteArray} : ∀ (n : Nat) {i : Nat} {d : Dt} {j : Nat}, valF S n i = .ok (d, j) → i < j ∧ j ≤ S.size
  | 0, _, _, _, h => by unfold valF at h; cases h
  | n + 1, i, d, j, h => by
    have hI := item_gain (S := S) (v := valF S n) fun _ _ _ h => val_gain n h
    have hM := mem_gain (S := S) (v := valF S n) fun _ _ _ h => val_gain n h
    unfold valF at h
    split at h
    · cases hw : wordF S [110, 117, 108, 108] i with
      | error f => rw [hw] at h; cases h
      | ok k =>
        rw [hw] at h
        injection h with h; injection h with h1 h2
        have g1 := word_len hw
        have g2 := word_in hw (by decide) (by simp)
        simp at g1
        omega
    split at h
    · cases hw : wordF S [116, 114, 117, 101] i with
      | error f => rw [hw] at h; cases h
      | ok k =>
        rw [hw] at h
        injection h with h; injection h with h1 h2
        have g1 := word_len hw
        have g2 := word_in hw (by decide) (by simp)
        simp at g1
        omega
    split at h
    · cases hw : wordF S [102, 97, 108, 115, 101] i with
      | error f => rw [hw] at h; cases h
      | ok k =>
        rw [hw] at h
        injection h with h; injection h with h1 h2
        have g1 := word_len hw
        have g2 := word_in hw (by decide) (by simp)
        simp at g1
        omega
    split at h
    · cases hs : strF S i with
      | error f => rw [hs] at h; cases h
      | ok p =>
        obtain ⟨s, k⟩ := p
        rw [hs] at h
        injection h with h; injection h with h1 h2
        have := str_gain hs
        omega
    split at h
    · cases hs : numE S i with
      | error f => rw [hs] at h; cases h
      | ok p =>
        obtain ⟨u, k⟩ := p
        rw [hs] at h
        injection h with h; injection h with h1 h2
        have := num_gain hs
        omega
    split at h
    · cases hs : sevF S 93 (itemS (valF S n)) [] i with
      | error f => rw [hs] at h; cases h
      | ok p =>
        obtain ⟨l, k⟩ := p
        rw [hs] at h
        injection h with h; injection h with h1 h2
        have := (sev_inv (Q := fun _ _ => True) (fun _ _ _ _ _ _ => trivial) (fun _ _ _ _ _ => trivial) (by decide) hI trivial hs).2
        omega
    split at h
    · cases hs : sevF S 125 (memS S (valF S n)) [] i with
      | error f => rw [hs] at h; cases h
      | ok p =>
        obtain ⟨l, k⟩ := p
        rw [hs] at h
        injection h with h; injection h with h1 h2
        have := (sev_inv (Q := fun _ _ => True) (fun _ _ _ _ _ _ => trivial) (fun _ _ _ _ _ => trivial) (by decide) hM trivial hs).2
        omega
    · cases h
theorem fitC_leaf (k n : Int) (s : ByteArray) (r : Nat) : FitC r (leafD k n s) := by
  cases r with
  | zero => trivial
  | succ r => exact ⟨⟨by simp, by simp⟩, fun x hx => by rw [kids_mk] at hx; simp at hx⟩
theorem val_fit {S : ByteArray} (hS : S.size ≤ 1000000) : ∀ (n r : Nat) {i : Nat} {d : Dt} {j : Nat}, valF S n i = .ok (d, j) → FitC r d
  | 0, _, _, _, _, h => by unfold valF at h; cases h
  | _ + 1, 0, _, _, _, _ => trivial
  | n + 1, r + 1, i, d, j, h => by
    have hI := item_gain (S := S) (v := valF S n) fun _ _ _ h => val_gain n h
    have hM := mem_gain (S := S) (v := valF S n) fun _ _ _ h => val_gain n h
    unfold valF at h
    split at h
    · cases hw : wordF S [110, 117, 108, 108] i with
      | error f => rw [hw] at h; cases h
      | ok k =>
        rw [hw] at h
        injection h with h; injection h with h1 h2
        rw [← h1]; exact fitC_leaf _ _ _ _
    split at h
    · cases hw : wordF S [116, 114, 117, 101] i with
      | error f => rw [hw] at h; cases h
      | ok k =>
        rw [hw] at h
        injection h with h; injection h with h1 h2
        rw [← h1]; exact fitC_leaf _ _ _ _
    split at h
    · cases hw : wordF S [102, 97, 108, 115, 101] i with
      | error f => rw [hw] at h; cases h
      | ok k =>
        rw [hw] at h
        injection h with h; injection h with h1 h2
        rw [← h1]; exact fitC_leaf _ _ _ _
    split at h
    · cases hw : strF S i with
      | error f => rw [hw] at h; cases h
      | ok k =>
        rw [hw] at h
        injection h with h; injection h with h1 h2
        rw [← h1]; exact fitC_leaf _ _ _ _
    split at h
    · cases hw : numE S i with
      | error f => rw [hw] at h; cases h
      | ok k =>
        rw [hw] at h
        injection h with h; injection h with h1 h2
        rw [← h1]; exact fitC_leaf _ _ _ _
    split at h
    · cases hs : sevF S 93 (itemS (valF S n)) [] i with
      | error f => rw [hs] at h; cases h
      | ok p =>
        obtain ⟨l, k⟩ := p
        rw [hs] at h
        injection h with h; injection h with h1 h2
        have hq := sev_inv (Q := fun (l : List Dt) i => l.length ≤ i ∧ ∀ x ∈ l, FitC r x) (fun x i y j hx hs => by
          have hg := hI _ _ _ _ hs
          unfold itemS at hs
          cases hv : valF S n i with
          | error f => rw [hv] at hs; cases hs
          | ok p =>
            obtain ⟨d, k⟩ := p
            rw [hv] at hs
            injection hs with hs; injection hs with h1 h2
            rw [← h1]
            refine ⟨by have := hx.1; rw [List.length_append, List.length_singleton]; omega, fun z hz => ?_⟩
            rcases List.mem_append.1 hz with hz | hz
            · exact hx.2 z hz
            · rw [List.mem_singleton.1 hz]; exact val_fit hS n r hv) (fun x i j hij hx => ⟨Nat.le_trans hx.1 hij, hx.2⟩) (by decide) hI ⟨Nat.zero_le _, by simp⟩ hs
        rw [← h1]
        refine ⟨⟨by rw [iD_mk]; have := hq.1.1; omega, by simp⟩, fun x hx => ?_⟩
        rw [kids_mk] at hx
        simp at hx
        exact hq.1.2 x hx
    split at h
    · cases hs : sevF S 125 (memS S (valF S n)) [] i with
      | error f => rw [hs] at h; cases h
      | ok p =>
        obtain ⟨l, k⟩ := p
        rw [hs] at h
        injection h with h; injection h with h1 h2
        have hq := sev_inv (Q := fun (l : List (ByteArray × Dt)) i => l.length ≤ i ∧ ∀ x ∈ l, FitC r x.2) (fun x i y j hx hs => by
          have hg := hM _ _ _ _ hs
          unfold memS at hs
          cases hs1 : strF S i with
          | error f => rw [hs1] at hs; cases hs
          | ok p =>
            obtain ⟨s, a⟩ := p
            rw [hs1] at hs
            simp only at hs
            split at hs
            · cases hs
            cases hw : wordF S [58] (blk S a) with
            | error f => rw [hw] at hs; cases hs
            | ok k =>
              rw [hw] at hs
              simp only at hs
              cases hv : valF S n (blk S k) with
              | error f => rw [hv] at hs; cases hs
              | ok p =>
                obtain ⟨d, q⟩ := p
                rw [hv] at hs
                injection hs with hs; injection hs with h1 h2
                rw [← h1]
                refine ⟨by have := hx.1; rw [List.length_append, List.length_singleton]; omega, fun z hz => ?_⟩
                rcases List.mem_append.1 hz with hz | hz
                · exact hx.2 z hz
                · rw [List.mem_singleton.1 hz]; exact val_fit hS n r hv) (fun x i j hij hx => ⟨Nat.le_trans hx.1 hij, hx.2⟩) (by decide) hM ⟨Nat.zero_le _, by simp⟩ hs
        rw [← h1]
        refine ⟨⟨by simp, by rw [mD_mk]; have := hq.1.1; omega⟩, fun x hx => ?_⟩
        rw [kids_mk] at hx
        simp at hx
        obtain ⟨a, hx⟩ := hx
        exact hq.1.2 _ hx
    · cases h
end Go.Proofs.YtmmbbndoimleaaaDoor

/- several, by whatever element. -/
namespace Go.Proofs.YtmmbbndoimleaaaDoor
open Go.RowKit

/-- What a call that goes on with a state does. -/
def KPost {α : Type} (I : α → World → Prop) (g : Nat) (S : ByteArray) (w : World) (r : Except Flt (α × Nat)) (e : Ending) (w' : World) : Prop :=
  match r with
  | .ok (y, j) => e = .returned (.tuple #[]) ∧ Pr w' g S j ∧ I y w'
  | .error f => FPost g w f e w'

set_option maxRecDepth 20000 in
set_option maxHeartbeats 4000000 in
theorem several_run {α : Type} (S : ByteArray) (g i c : Nat) (w0 w : World) (fn : FuncId) (p q : Value) (I : α → World → Prop) (step : α → Nat → Except Flt (α × Nat)) (x : α) (Q : α → Nat → Prop)
    (hQ : ∀ x i y j, Q x i → step x i = .ok (y, j) → Q y j) (hQm : ∀ x i j, i ≤ j → Q x i → Q x j) (hQ0 : Q x i)
    (hfn : ∀ W, (callFunc fn #[p, q]).run Tryd.prog W = .ok (.enter fn #[p, q]) W) (hg : Gain S step) (hc : c < 256) (hIX : ∀ y W, I y W → Px g w0 W) (hIP : ∀ y W W', I y W → Px g W W' → I y W')
    (hel : ∀ y k W, I y W → Q y k → Pr W g S k → i < k → k ≤ S.size → Calls Tryd.prog fn #[p, q] W (KPost I g S w0 (step y k)))
    (h : Pr w g S i) (hI : I x w) (hS : S.size ≤ 1000000000) (hi : i < S.size) :
    Calls Tryd.prog 25 #[.pointer (some ⟨g, 0, none⟩), .int .u8 c, .func (.func fn) #[] #[p, q]] w (KPost I g S w0 (sevF S c step x i)) := by
  have HN := hide fun k V (h : Pr V g S k) => next_run S g k V h
  have HBL := hide fun k V (h : Pr V g S k) (hk : k ≤ S.size) => blanks_run S g k V h hS hk
  have HW := hide fun k V (h : Pr V g S k) (hk : k ≤ S.size) => word_run S ⟨#[44]⟩ g k V h (by omega) (by decide)
  rw [show (⟨#[44]⟩ : ByteArray).data.toList = [44] from rfl] at HW
  have HIX := hide hIX; have HIP := hide hIP; have HEL := hide hel
  have HEQ := hide fun y k (hk : k ≤ S.size) => sevR_eq (e := c) hg y hk
  have HG := hide hg
  have HFN := hide hfn; have HQ := hide hQ; have HQM := hide hQm
  obtain ⟨r, hr⟩ : ∃ r, r = sevF S c step x i := ⟨_, rfl⟩
  rw [← hr]
  unfold sevF at hr
  obtain ⟨j, hj⟩ : ∃ j, j = blk S (i + 1) := ⟨_, rfl⟩
  rw [← hj] at hr
  have hjs : j ≤ S.size := by rw [hj]; exact run_le _ (by omega)
  have HJ := Lib.hid hj; have HR := Lib.hid hr
  obtain ⟨c0, c1, f1⟩ := h.cells
  have HP := hide h; have HI := hide hI
  have hij : i < j := by have := run_ge blkB S (i + 1); rw [hj]; show i < runF blkB S (i + 1); omega
  have HQ0 := hide (hQm _ _ _ (Nat.le_of_lt hij) hQ0)
  clear hQ hQm hQ0 hel hIP hIX hg hfn hr hj h hI
  go_enter Tryd.func25, Tryd.ntmps25
  go_upto_region 1 with fail
  obtain ⟨wa, hwa⟩ : ∃ W, W = w.setCell ⟨g, 1, none⟩ (.int .i64 ((i : Int) + 1)) := ⟨_, rfl⟩
  have HP1 := hide (show Pr wa g S (i + 1) by rw [hwa]; exact HP.out.set_ (i + 1))
  have HI1 := hide (show I x wa by rw [hwa]; exact HIP.out _ _ _ HI.out (Px.refl.set_ 1 _))
  rw [← hwa]
  clear hwa HP HI c0 c1 f1
  go_wp2_with fail
  refine (HBL.out _ _ HP1.out (by omega)).mono ?_; rintro e w1 ⟨rfl, hP2, hX2⟩
  rw [← HJ.out] at hP2
  have HP2 := hide hP2
  have HI2 := hide (HIP.out _ _ _ HI1.out hX2)
  clear hP2 hX2 HP1 HI1
  have HN1 := hide (HN.out j _ HP2.out)
  obtain ⟨y, hy⟩ : ∃ y, y = nx S j := ⟨_, rfl⟩
  rw [← hy] at HN1 HR
  clear hy
  by_cases hyc : y = c
  · subst hyc
    have HE := hide (show r = .ok (x, j + 1) by rw [HR.out, if_pos rfl])
    clear HR
    go_wp2_with fail
    refine HN1.out.mono ?_; rintro e w2 ⟨rfl, n1, rfl⟩
    obtain ⟨c0, c1, f1⟩ := HP2.out.cells
    go_wp2_with fail
    go_end0
    rw [HE.out]
    exact ⟨rfl, (HP2.out.drewN _).set_ (j + 1), HIP.out _ _ _ HI2.out ((Px.refl.drewN _).set_ 1 _)⟩
  · have HE := hide (show r = sevR S c step x j by rw [HR.out, if_neg hyc])
    have d1 : ((y : Int) == (c : Int)) = false := by simp; omega
    clear HR
    go_wp2_with fail
    refine HN1.out.mono ?_; rintro e w2 ⟨rfl, n1, rfl⟩
    have H0 := hide (show Pr (w1.drewN n1) g S j ∧ I x (w1.drewN n1) ∧ Q x j ∧ r = sevR S c step x j from ⟨HP2.out.drewN _, HIP.out _ _ _ HI2.out (Px.refl.drewN _), HQ0.out, HE.out⟩)
    clear HP2 HI2 HE HN1 hyc
    go_wp2_with fail
    go_loopw [26] (fun _ wr => ∃ (k : Nat) (l : α), k ≤ S.size ∧ i < k ∧ Hid (Pr wr g S k ∧ I l wr ∧ Q l k ∧ r = sevR S c step l k)) (fun _ wr => S.size + 1 - atOf wr g)
    case atStart => exact ⟨j, x, hjs, hij, H0⟩
    case round =>
      clear H0
      obtain ⟨k, l, hk, hik, hR⟩ := hrel
      have HAT := hide (show atOf wr g = k from hR.out.1.at_)
      have HRR := hide (hR.out.2.2.2.trans (HEQ.out l k hk))
      obtain ⟨m, hm⟩ : ∃ m, m = blk S k := ⟨_, rfl⟩
      have hms : m ≤ S.size := by rw [hm]; exact run_le _ hk
      have hkm : k ≤ m := by rw [hm]; exact run_ge _ _ _
      have HB1 := hide (HBL.out k _ hR.out.1 hk)
      rw [show blk S k = m from hm.symm] at HB1
      rw [← hm] at HRR
      have HII := hide hR.out.2.1
      have HQ1 := hide (HQM.out _ _ _ hkm hR.out.2.2.1)
      clear hR hm
      go_wp2_with fail
      refine HB1.out.mono ?_; rintro e w2 ⟨rfl, hP2, hX2⟩
      have HP2 := hide hP2
      have HI2 := hide (HIP.out _ _ _ HII.out hX2)
      clear hP2 hX2 HB1 HII
      have HE1 := hide (HEL.out l m _ HI2.out HQ1.out HP2.out (by omega) hms)
      obtain ⟨z, hz⟩ : ∃ z, z = step l m := ⟨_, rfl⟩
      rw [← hz] at HE1 HRR
      have HZ := Lib.hid hz
      clear hz
      go_wp2_with fail
      rw [HFN.out, Oper.upon_enter]
      refine HE1.out.mono ?_
      cases z with
      | error f =>
        rintro e w3 ⟨rfl, hx⟩
        have HE2 := hide (show r = .error f from HRR.out)
        have HX := hide hx
        clear hx HRR HE1
        go_wp2_with fail
        rw [HE2.out]
        exact ⟨rfl, rfl, HX.out⟩
      | ok p =>
        obtain ⟨l2, j2⟩ := p
        rintro e w3 ⟨rfl, hP3, hI3⟩
        obtain ⟨k1, k2⟩ := HG.out _ _ _ _ HZ.out.symm
        have HQ2 := hide (HQ.out _ _ _ _ HQ1.out HZ.out.symm)
        obtain ⟨m2, hm⟩ : ∃ m, m = blk S j2 := ⟨_, rfl⟩
        have hms2 : m2 ≤ S.size := by rw [hm]; exact run_le _ k2
        have hkm2 : j2 ≤ m2 := by rw [hm]; exact run_ge _ _ _
        have HB3 := hide (HBL.out j2 _ hP3 k2)
        rw [show blk S j2 = m2 from hm.symm] at HB3
        have HRR2 := hide (show r = if nx S m2 = c then .ok (l2, m2 + 1) else match wordF S [44] m2 with
          | .error f => .error f
          | .ok k => sevR S c step l2 k by rw [HRR.out, hm]; first | done | rfl)
        have HI3 := hide hI3
        clear hP3 hI3 HE1 HZ hm HRR HP2 HI2
        go_wp2_with fail
        refine HB3.out.mono ?_; rintro e w4 ⟨rfl, hP4, hX4⟩
        have HP4 := hide hP4
        have HI4 := hide (HIP.out _ _ _ HI3.out hX4)
        clear hP4 hX4 HI3 HB3
        have HN4 := hide (HN.out m2 _ HP4.out)
        obtain ⟨y2, hy⟩ : ∃ y, y = nx S m2 := ⟨_, rfl⟩
        rw [← hy] at HN4 HRR2
        clear hy
        by_cases hyc : y2 = c
        · subst hyc
          have HE := hide (show r = .ok (l2, m2 + 1) by rw [HRR2.out, if_pos rfl])
          clear HRR2
          go_wp2_with fail
          refine HN4.out.mono ?_; rintro e w5 ⟨rfl, n1, rfl⟩
          obtain ⟨c0, c1, f1⟩ := HP4.out.cells
          go_wp2_with fail
          go_end0
          rw [HE.out]
          exact ⟨rfl, (HP4.out.drewN _).set_ (m2 + 1), HIP.out _ _ _ HI4.out ((Px.refl.drewN _).set_ 1 _)⟩
        · have d1 : ((y2 : Int) == (c : Int)) = false := by simp; omega
          have HRR3 := hide (show r = match wordF S [44] m2 with
            | .error f => .error f
            | .ok k => sevR S c step l2 k by rw [HRR2.out, if_neg hyc])
          clear HRR2
          go_wp2_with fail
          refine HN4.out.mono ?_; rintro e w5 ⟨rfl, n1, rfl⟩
          have HW5 := hide (HW.out m2 _ (HP4.out.drewN n1) hms2)
          obtain ⟨v, hv⟩ : ∃ v, v = wordF S [44] m2 := ⟨_, rfl⟩
          rw [← hv] at HW5 HRR3
          have HV := Lib.hid hv
          clear hv
          go_wp2_with fail
          refine HW5.out.mono ?_
          cases v with
          | error f =>
            rintro e w6 ⟨rfl, hx⟩
            have HE2 := hide (show r = .error f from HRR3.out)
            have HX := hide (((HIX.out _ _ HI4.out).drewN n1).trans hx)
            clear hx HRR3 HW5
            go_wp2_with fail
            rw [HE2.out]
            exact ⟨rfl, rfl, HX.out⟩
          | ok k3 =>
            rintro e w6 ⟨rfl, hP6, hX6⟩
            obtain ⟨g5, g6⟩ := word1 (by decide) HV.out.symm
            have HP6 := hide hP6
            have HI6 := hide (HIP.out _ _ _ (HIP.out _ _ _ HI4.out (Px.refl.drewN n1)) hX6)
            clear hP6 hX6 HW5 HI4 HP4
            go_wp2_with fail
            go_roundw
            case rel => exact ⟨k3, l2, by omega, by omega, hide ⟨HP6.out, HI6.out, HQM.out _ _ _ (by omega) HQ2.out, HRR3.out⟩⟩
            case measure => rw [HP6.out.at_, HAT.out]; omega
end Go.Proofs.YtmmbbndoimleaaaDoor

/- A region that draws its order: a head under a condition that the tail may break; the tail in whatever order. -/
namespace Go.Proofs.YtmmbbndoimleaaaDoor
open Go.RowKit

section
variable {P : Program} {md : Region.Mode} {l : List Oper} {n : Nat} {Q : Exit → Act → World → Prop} {S : World → Prop} {T : Act → World → Prop}
def TailG (T : Act → World → Prop) (Q : Exit → Act → World → Prop) : Exit → Act → World → Prop
  | .normal, a, w => T a w
  | e, a, w => Q e a w
theorem tg_wp {o : Oper} {a : Act} {w : World} {K : Act → World → Prop} (h : o.wp P a w K (TailG T Q)) : o.wp P a w K Q := by
  unfold Oper.wp at *
  generalize (execOp a.eval o).run P w = r at *
  cases r with
  | ok x w' =>
    cases x <;> simp only [Oper.upon] at h ⊢ <;>
      first
        | exact h
        | exact Calls.mono h (fun e w'' he => by cases e <;> exact he)
  | halt x w' => cases x <;> simp only [Oper.upon] at h ⊢ <;> exact h
theorem tg_out (h : LetsOut (TailG T Q)) : LetsOut Q := h
/-- Each operation of the tail waits for each of the head. -/
def waitAllB (md : Region.Mode) (l : List Oper) (n : Nat) : Bool :=
  (List.range l.length).all fun j => decide (j < n) || (List.range n).all fun i => ((l.toArray[j]?).map fun o => o.after.any fun e => Region.binds md e && decide (e.on = i)).getD false
def headAB (md : Region.Mode) (l : List Oper) (n : Nat) : Bool := decide (n < l.length) && waitAllB md l n && orderB md l.toArray n && plainGuards (l.take n)
theorem any_of_headG (hB : headAB md l n = true)
    (hT : ∀ a w, T a w → wpAny P md l.toArray Q (l.length - n) (List.replicate n true ++ List.replicate (l.length - n) false).toArray a w) : ∀ (f : Nat) (listed : Array Bool) (a : Act) (w : World), listed.size = n →
    wpAnyH P md (l.take n).toArray (TailG T Q) S f listed a w → wpAny P md l.toArray Q (f + (l.length - n)) (full (l.length - n) listed) a w := by
  unfold headAB at hB
  simp only [Bool.and_eq_true, decide_eq_true_eq] at hB
  obtain ⟨⟨⟨hn, hwt⟩, hord⟩, hgu⟩ := hB
  have hord2 : orderB md (l.take n).toArray n = true := by
    unfold orderB at hord ⊢
    rw [List.all_eq_true] at hord ⊢
    intro i hi
    rw [getD_below (List.mem_range.1 hi)]
    exact hord i hi
  have hend : ∀ (f : Nat) (listed : Array Bool) (a : Act) (w : World), listed.size = n → Region.ready md (l.take n).toArray listed = [] → T a w → wpAny P md l.toArray Q (f + (l.length - n)) (full (l.length - n) listed) a w := by
    intro f listed a w hs hr h
    have hall := all_listed (listed := listed) hord2 hs (fun j _ => by rw [hr]; simp)
    have e : full (l.length - n) listed = (List.replicate n true ++ List.replicate (l.length - n) false).toArray := by
      have : listed.toList = List.replicate n true := by
        apply List.ext_getElem (by simp [hs])
        intro i h1 h2
        have h1' : i < listed.size := by simpa using h1
        have := hall i (by omega)
        simp [h1'] at this
        simpa using this
      unfold full; rw [this]
    rw [e]
    exact any_add _ f _ _ _ (hT a w h)
  intro f
  induction f with
  | zero =>
    intro listed a w hs h
    exact hend 0 listed a w hs h.1 h.2
  | succ f ih =>
    intro listed a w hs h
    cases hr : Region.ready md (l.take n).toArray listed with
    | nil => exact hend (f + 1) listed a w hs hr (h.1 hr)
    | cons i0 rs =>
      have hi0 : i0 ∈ Region.ready md (l.take n).toArray listed := by rw [hr]; exact List.mem_cons_self ..
      have hi0n : i0 < n := by have := ready_lt hi0; simp at this; omega
      have hun0 := (mem_ready.1 ((ready_full (g := l.length - n) hs hi0n).2 hi0)).1
      rw [show f + 1 + (l.length - n) = (f + (l.length - n)) + 1 by omega]
      refine ⟨fun h0 => ?_, fun j hj => ?_⟩
      · have := (ready_full (g := l.length - n) hs hi0n).2 hi0
        rw [h0] at this; cases this
      have hjn : j < n := by
        rcases Nat.lt_or_ge j n with h | h
        · exact h
        · exfalso
          obtain ⟨_, o, ho, ha⟩ := mem_ready.1 hj
          have hjl : j < l.length := by have := ready_lt hj; simpa using this
          have h1 := List.all_eq_true.1 hwt j (List.mem_range.2 hjl)
          simp only [Bool.or_eq_true, decide_eq_true_eq] at h1
          rcases h1 with h1 | h1
          · omega
          · have h2 := List.all_eq_true.1 h1 i0 (List.mem_range.2 hi0n)
            rw [ho] at h2
            have h2 : (o.after.any fun e => Region.binds md e && decide (e.on = i0)) = true := h2
            obtain ⟨e, he, h3⟩ := Array.any_eq_true'.1 h2
            simp only [Bool.and_eq_true, decide_eq_true_eq] at h3
            have h4 := ha e he h3.1
            rw [h3.2, getD_both hun0] at h4
            cases h4
      have h1 := h.2 j ((ready_full hs hjn).1 hj)
      obtain ⟨_, o, ho, _⟩ := mem_ready.1 hj
      have hgo : o.guard = none := by
        have := List.all_eq_true.1 hgu o (by simpa using Array.mem_of_getElem? ((getD_below hjn).trans ho))
        revert this
        cases o.guard <;> simp
      have hw : ∀ y, Region.wanted o y = true := fun y => by simp [Region.wanted, hgo]
      unfold wpOp at h1 ⊢
      rw [getD_below hjn] at h1
      simp only [ho, hw, if_true] at h1 ⊢
      rcases h1 with h1 | h1
      · refine .inl (Oper.wp_mono (fun a' w' h' => ?_) (tg_wp h1))
        have h2 := ih (listed.setIfInBounds j true) a' w' (by simp [hs]) h'.2
        rwa [full_set (by omega)] at h2
      · exact .inr ⟨h1.1, tg_out h1.2⟩
/-- A region in two parts: the head in whatever order, under S; the tail in whatever order. -/
theorem region_head {id : Nat} {a : Act} {w : World} (n : Nat) (S : World → Prop) (T : Act → World → Prop) (hm : P.follows .mixedOrders = true) (hB : headAB .any l n = true) (hS : S w.drew)
    (hT : ∀ a w, T a w → wpAny P .any l.toArray Q (l.length - n) (List.replicate n true ++ List.replicate (l.length - n) false).toArray a w)
    (h : S w.drew → wpAnyH P .any (l.take n).toArray (TailG T Q) S n (Array.replicate n false) a w.drew) : (Code.region id l.toArray true).wp P Q a w := by
  refine wp_region_any hm ?_
  have hn : n < l.length := by
    unfold headAB at hB
    simp only [Bool.and_eq_true, decide_eq_true_eq] at hB
    exact hB.1.1.1
  have e : full (l.length - n) (Array.replicate n false) = Array.replicate l.length false := by
    unfold full
    apply Array.ext'
    simp [List.replicate_append_replicate, show n + (l.length - n) = l.length by omega]
  have := any_of_headG (P := P) (Q := Q) (S := S) hB hT n (Array.replicate n false) a w.drew (by simp) (h hS)
  rw [e, show n + (l.length - n) = l.length by omega] at this
  simpa using this
end
end Go.Proofs.YtmmbbndoimleaaaDoor

/- The blocks of a call of value; one more item. -/
namespace Go.Proofs.YtmmbbndoimleaaaDoor
open Go.RowKit

/-- What value hands back. -/
def VPost (g : Nat) (S : ByteArray) (w : World) (m : Nat) (r : Except Flt (Dt × Nat)) (e : Ending) (w' : World) : Prop :=
  match r with
  | .ok (d, j) => (∃ a c a' c', e = .returned (datV d a c a' c') ∧ PZ w.heap.size none w' m d a c a' c') ∧ Pr w' g S j ∧ Px g w w'
  | .error f => FPost g w f e w'
/-- The three boxes of a call of value. -/
def VSt (w : World) (g b1 b2 b3 b0 : Nat) (D3 : List Value) (wr : World) : Prop :=
  (w.heap.size = b1 ∧ b2 = b1 + 1 ∧ b3 = b1 + 2 ∧ b0 = b1 + 3 ∧ g < b1) ∧ b0 ≤ wr.heap.size ∧ Px g w wr ∧ Row wr b1 40 [.pointer (some ⟨g, 0, none⟩)] ∧
  Row wr b2 27 [.int .i64 0, .int .i64 0, .string ⟨#[]⟩, .slice none 0 0, .slice none 0 0] ∧ Row wr b3 27 D3
section
variable {w wr W : World} {g b1 b2 b3 b0 : Nat} {D3 : List Value}
theorem VSt.turn (h : VSt w g b1 b2 b3 b0 D3 wr) (hX : Px g w W) (hs : wr.heap.size ≤ W.heap.size) (hk : ∀ k, b1 ≤ k → k < b0 → W.heap[k]? = wr.heap[k]?) : VSt w g b1 b2 b3 b0 D3 W := by
  obtain ⟨h0, h1, h2, h3, h4, h5⟩ := h
  exact ⟨h0, Nat.le_trans h1 hs, hX, (hk b1 (by omega) (by omega)).trans h3, (hk b2 (by omega) (by omega)).trans h4, (hk b3 (by omega) (by omega)).trans h5⟩
theorem VSt.px (h : VSt w g b1 b2 b3 b0 D3 wr) (hX : Px g wr W) : VSt w g b1 b2 b3 b0 D3 W :=
  h.turn (h.2.2.1.trans hX) hX.size fun k k1 k2 => hX.2 k (by have := h.2.1; omega) (by have := h.1; omega)
theorem VSt.set (h : VSt w g b1 b2 b3 b0 D3 wr) (i : Nat) (u : Value) : VSt w g b1 b2 b3 b0 (D3.set i u) (wr.setCell ⟨b3, i, none⟩ u) := by
  obtain ⟨h0, h1, h2, h3, h4, h5⟩ := h
  exact ⟨h0, by rw [csize_set]; exact h1, h2.setFar (p := ⟨b3, i, none⟩) (by show _ ≤ b3; omega) u, h3.far (by show b1 ≠ b3; omega) u, h4.far (by show b2 ≠ b3; omega) u, h5.set_ i u⟩
theorem pz_px {lo : Nat} {ob : Option Nat} {m : Nat} {d : Dt} {a c a' c'} (h : PZ lo ob wr m d a c a' c') (hX : Px g wr W) (hg : g < lo) : PZ lo ob W m d a c a' c' :=
  h.turn hX.size fun k k1 k2 k3 => ⟨hX.2 k k2 (by omega), k1, k3⟩
theorem own_px {base : Nat} {e : TypeId} {size : Nat} {v : Value} {n : Nat} {xs : List Value} (h : wr.ownsRow base e size v n xs) (hX : Px g wr W) (hg : g < base) : W.ownsRow base e size v n xs :=
  World.ownsRow.kept h ⟨hX.1.os, hX.1.tape, hX.1.output, hX.1.size, fun k hk hn => hX.2 k hk (by simpa using hn)⟩ (row := some g) (by
    rcases hv : v.ownBlock with _ | y
    · exact .inl rfl
    · exact .inr fun e => by have := (World.ownsRow.lt h y hv).1; injection e with e; omega)
theorem OwnD.px {ob : Option Nat} {m : Nat} {u : Value} {l : List Dt} (h : OwnD (PZ b0 ob wr m) wr b0 u l) (hX : Px g wr W) (hg : g < b0) : OwnD (PZ b0 ob W m) W b0 u l := by
  obtain ⟨xs, ho, hf⟩ := h
  exact ⟨xs, own_px ho hX hg, hf.turn fun x a c a' c' h => pz_px h hX hg⟩
theorem OwnM.px {ob : Option Nat} {m : Nat} {u : Value} {l : List (ByteArray × Dt)} (h : OwnM (PZ b0 ob wr m) wr b0 u l) (hX : Px g wr W) (hg : g < b0) : OwnM (PZ b0 ob W m) W b0 u l := by
  obtain ⟨xs, ho, hf⟩ := h
  exact ⟨xs, own_px ho hX hg, hf.turn fun x a c a' c' h => pz_px h hX hg⟩
end
/-- Five stores. -/
def put5 (w : World) (g o : Nat) (y0 y1 y2 y3 y4 : Value) : World :=
  ((((w.setCell ⟨g, o, none⟩ y0).setCell ⟨g, o + 1, none⟩ y1).setCell ⟨g, o + 2, none⟩ y2).setCell ⟨g, o + 3, none⟩ y3).setCell ⟨g, o + 4, none⟩ y4
theorem put5_size (w : World) (g o : Nat) (y0 y1 y2 y3 y4 : Value) : (put5 w g o y0 y1 y2 y3 y4).heap.size = w.heap.size := by unfold put5; simp only [csize_set]
theorem put5_heap (w : World) (g o : Nat) (y0 y1 y2 y3 y4 : Value) {k : Nat} (hk : k ≠ g) : (put5 w g o y0 y1 y2 y3 y4).heap[k]? = w.heap[k]? := by
  unfold put5
  rw [Below.heap_setCell _ _ _ _ hk, Below.heap_setCell _ _ _ _ hk, Below.heap_setCell _ _ _ _ hk, Below.heap_setCell _ _ _ _ hk, Below.heap_setCell _ _ _ _ hk]
theorem take_set_mid {α : Type} (xs : List α) (zs : List α) (rest : List α) (i : Nat) (u : α) (hi : i < zs.length) : (xs ++ zs ++ rest).set (xs.length + i) u = xs ++ zs.set i u ++ rest := by
  rw [List.append_assoc, List.set_append_right _ _ (by omega), List.append_assoc, show xs.length + i - xs.length = i by omega, List.set_append_left _ _ hi]
/-- A store into the last element of an own row. -/
theorem own_store {w : World} {b0 gn n cap size : Nat} {e : TypeId} {xs zs : List Value} (h : w.ownsRow b0 e size (.slice (some ⟨gn, 0, none⟩) n cap) n (xs ++ zs)) (i : Nat) (u : Value) (hi : i < zs.length) :
    (w.setCell ⟨gn, xs.length + i, none⟩ u).ownsRow b0 e size (.slice (some ⟨gn, 0, none⟩) n cap) n (xs ++ zs.set i u) := by
  obtain ⟨h1, h2⟩ := h
  refine ⟨by simpa using h1, ?_⟩
  rcases h2 with ⟨h2, _⟩ | ⟨g, cap', cur, h2, h3, h4, h5, h6, h7, h8⟩
  · cases h2
  · injection h2 with e1 e2 e3
    injection e1 with e1
    injection e1 with e1 _ _
    subst e1; subst e3
    refine .inr ⟨gn, cap, cur.set! (xs.length + i) u, rfl, h3, ?_, h5, h6, by simpa using h7, ?_⟩
    · simp [World.setCell, Array.getElem?_modify, h4]
    · rw [Array.set!_eq_setIfInBounds, Array.toList_setIfInBounds]
      have hl : n * size ≤ cur.toList.length := by rw [Array.length_toList, h7]; exact Nat.mul_le_mul_right _ h5
      have hd : cur.toList = xs ++ zs ++ cur.toList.drop (n * size) := by rw [← h8, List.take_append_drop]
      rw [hd, take_set_mid _ _ _ _ _ hi, List.take_append_of_le_length (by rw [List.length_append, List.length_set, ← List.length_append, h1]; exact Nat.le_refl _), List.take_of_length_le (by rw [List.length_append, List.length_set, ← List.length_append, h1]; exact Nat.le_refl _)]
theorem own_put5 {w : World} {b0 gn n cap : Nat} {e : TypeId} {xs : List Value} {z0 z1 z2 z3 z4 : Value} (h : w.ownsRow b0 e 5 (.slice (some ⟨gn, 0, none⟩) (n + 1) cap) (n + 1) (xs ++ [z0, z1, z2, z3, z4])) (hx : xs.length = n * 5) (y0 y1 y2 y3 y4 : Value) :
    (put5 w gn (n * 5) y0 y1 y2 y3 y4).ownsRow b0 e 5 (.slice (some ⟨gn, 0, none⟩) (n + 1) cap) (n + 1) (xs ++ [y0, y1, y2, y3, y4]) := by
  have h0 := own_store h 0 y0 (by simp)
  have h1 := own_store h0 1 y1 (by simp)
  have h2 := own_store h1 2 y2 (by simp)
  have h3 := own_store h2 3 y3 (by simp)
  have h4 := own_store h3 4 y4 (by simp)
  rw [hx] at h4
  exact h4
theorem own_five {w : World} {b0 gn n cap : Nat} {e : TypeId} {xs : List Value} {z0 z1 z2 z3 z4 : Value} (h : w.ownsRow b0 e 5 (.slice (some ⟨gn, 0, none⟩) (n + 1) cap) (n + 1) (xs ++ [z0, z1, z2, z3, z4])) (hx : xs.length = n * 5) :
    (w.cell? ⟨gn, n * 5, none⟩ = some z0 ∧ w.cell? ⟨gn, n * 5 + 1, none⟩ = some z1 ∧ w.cell? ⟨gn, n * 5 + 2, none⟩ = some z2 ∧ w.cell? ⟨gn, n * 5 + 3, none⟩ = some z3 ∧ w.cell? ⟨gn, n * 5 + 4, none⟩ = some z4) ∧
    (w.frozen? ⟨gn, n * 5, none⟩ = false ∧ w.frozen? ⟨gn, n * 5 + 1, none⟩ = false ∧ w.frozen? ⟨gn, n * 5 + 2, none⟩ = false ∧ w.frozen? ⟨gn, n * 5 + 3, none⟩ = false ∧ w.frozen? ⟨gn, n * 5 + 4, none⟩ = false) := by
  have hc : ∀ i, i < 5 → w.cell? ⟨gn, n * 5 + i, none⟩ = [z0, z1, z2, z3, z4][i]? := fun i hi => by
    have h5 : ([z0, z1, z2, z3, z4] : List Value).length = 5 := rfl
    have := World.ownsRow.cells h (g := gn) rfl (n * 5 + i) ([z0, z1, z2, z3, z4][i]'(by omega)) (by
      rw [List.getElem?_append_right (by omega), hx, show n * 5 + i - n * 5 = i by omega, List.getElem?_eq_getElem (by omega)])
    rw [add_head] at this
    rw [this, List.getElem?_eq_getElem (by omega)]
  have hf : ∀ i, w.frozen? ⟨gn, i, none⟩ = false := fun i => by
    rcases h.2 with ⟨h2, _⟩ | ⟨g, cap', cur, h2, h3, h4, _⟩
    · cases h2
    · injection h2 with e1 e2 e3
      injection e1 with e1
      injection e1 with e1 _ _
      subst e1
      simp [World.frozen?, h4]
  exact ⟨⟨hc 0 (by omega), hc 1 (by omega), hc 2 (by omega), hc 3 (by omega), hc 4 (by omega)⟩, hf _, hf _, hf _, hf _, hf _⟩
theorem own_push5 {b0 : Nat} {wr w4 W : World} {m : Nat} {uv : Value} {l : List Dt} {r : Dt} {a : Option Addr} {c : Nat} {a' : Option Addr} {c' gn cap n : Nat} {xs : List Value}
    (hf : FlatD (PZ b0 uv.ownBlock wr m) xs l) (hn : l.length = n) (hb : b0 ≤ wr.heap.size) (hp : PZ wr.heap.size none w4 m r a c a' c')
    (ho : W.ownsRow b0 27 5 (.slice (some ⟨gn, 0, none⟩) (n + 1) cap) (n + 1) (xs ++ datCs r a c a' c')) (s1 : wr.heap.size ≤ w4.heap.size) (s2 : w4.heap.size ≤ W.heap.size)
    (k1 : ∀ k, b0 ≤ k → k < wr.heap.size → some k ≠ uv.ownBlock → W.heap[k]? = wr.heap[k]? ∧ k ≠ gn) (k2 : ∀ k, wr.heap.size ≤ k → k < w4.heap.size → W.heap[k]? = w4.heap[k]? ∧ k ≠ gn) :
    OwnD (PZ b0 (Value.slice (some ⟨gn, 0, none⟩) (n + 1) cap).ownBlock W m) W b0 (.slice (some ⟨gn, 0, none⟩) (n + 1) cap) (l ++ [r]) := by
  refine ⟨_, by rw [List.length_append, hn]; exact ho, FlatD.append (hf.turn fun x b q b' q' hx => ?_) (FlatD.one ?_)⟩
  · exact PZ.turn hx (Nat.le_trans s1 s2) fun k h1 h2 h3 => ⟨(k1 k h1 h2 h3).1, h1, fun e => (k1 k h1 h2 h3).2 (by injection e)⟩
  · exact PZ.turn hp s2 fun k h1 h2 _ => ⟨(k2 k h1 h2).1, by omega, fun e => (k2 k h1 h2).2 (by injection e)⟩
theorem own_push6 {b0 : Nat} {wr w4 W : World} {m : Nat} {uv : Value} {l : List (ByteArray × Dt)} {r : ByteArray × Dt} {a : Option Addr} {c : Nat} {a' : Option Addr} {c' gn cap n : Nat} {xs : List Value}
    (hf : FlatM (PZ b0 uv.ownBlock wr m) xs l) (hn : l.length = n) (hb : b0 ≤ wr.heap.size) (hp : PZ wr.heap.size none w4 m r.2 a c a' c')
    (ho : W.ownsRow b0 50 6 (.slice (some ⟨gn, 0, none⟩) (n + 1) cap) (n + 1) (xs ++ .string r.1 :: datCs r.2 a c a' c')) (s1 : wr.heap.size ≤ w4.heap.size) (s2 : w4.heap.size ≤ W.heap.size)
    (k1 : ∀ k, b0 ≤ k → k < wr.heap.size → some k ≠ uv.ownBlock → W.heap[k]? = wr.heap[k]? ∧ k ≠ gn) (k2 : ∀ k, wr.heap.size ≤ k → k < w4.heap.size → W.heap[k]? = w4.heap[k]? ∧ k ≠ gn) :
    OwnM (PZ b0 (Value.slice (some ⟨gn, 0, none⟩) (n + 1) cap).ownBlock W m) W b0 (.slice (some ⟨gn, 0, none⟩) (n + 1) cap) (l ++ [r]) := by
  refine ⟨_, by rw [List.length_append, hn]; exact ho, FlatM.append (hf.turn fun x b q b' q' hx => ?_) (FlatM.one ?_)⟩
  · exact PZ.turn hx (Nat.le_trans s1 s2) fun k h1 h2 h3 => ⟨(k1 k h1 h2 h3).1, h1, fun e => (k1 k h1 h2 h3).2 (by injection e)⟩
  · exact PZ.turn hp s2 fun k h1 h2 _ => ⟨(k2 k h1 h2).1, by omega, fun e => (k2 k h1 h2).2 (by injection e)⟩
/-- The state of reading a list. -/
def ItI (w : World) (g b1 b2 b3 b0 m : Nat) (l : List Dt) (wr : World) : Prop :=
  ∃ u, VSt w g b1 b2 b3 b0 [.int .i64 5, .int .i64 0, .string ⟨#[]⟩, u, .slice none 0 0] wr ∧ OwnD (PZ b0 u.ownBlock wr m) wr b0 u l
theorem ItI.px {w wr W : World} {g b1 b2 b3 b0 m : Nat} {l : List Dt} (h : ItI w g b1 b2 b3 b0 m l wr) (hX : Px g wr W) : ItI w g b1 b2 b3 b0 m l W := by
  obtain ⟨u, h1, h2⟩ := h
  exact ⟨u, h1.px hX, h2.px hX (by have := h1.1; omega)⟩
theorem zero_one : ∀ u ∈ ([.int .i64 0, .int .i64 0, .string ⟨#[]⟩, .slice none 0 0, .slice none 0 0] : List Value), u.oneCell' = true := fun u hu => by
  simp at hu
  rcases hu with rfl | rfl | rfl | rfl <;> rfl

def itemR (l : List Dt) : Except Flt (Dt × Nat) → Except Flt (List Dt × Nat)
  | .error f => .error f
  | .ok (d, j) => .ok (l ++ [d], j)
theorem itemS_eq (v : Nat → Except Flt (Dt × Nat)) (l : List Dt) (i : Nat) : itemS v l i = itemR l (v i) := by
  unfold itemS itemR; rfl

theorem put5_px {g w0s : Nat} {w0 w : World} (h : Px g w0 w) (hs : w0s = w0.heap.size) {gn : Nat} (hg : w0s ≤ gn) (o : Nat) (y0 y1 y2 y3 y4 : Value) : Px g w0 (put5 w gn o y0 y1 y2 y3 y4) := by
  subst hs
  unfold put5
  exact ((((h.setFar (p := ⟨gn, _, none⟩) hg _).setFar (p := ⟨gn, _, none⟩) hg _).setFar (p := ⟨gn, _, none⟩) hg _).setFar (p := ⟨gn, _, none⟩) hg _).setFar (p := ⟨gn, _, none⟩) hg _
theorem VSt.put5 {w0 w : World} {g b1 b2 b3 b0 : Nat} {D3 : List Value} (h : VSt w0 g b1 b2 b3 b0 D3 w) {gn : Nat} (hg : b0 ≤ gn) (o : Nat) (y0 y1 y2 y3 y4 : Value) : VSt w0 g b1 b2 b3 b0 D3 (put5 w gn o y0 y1 y2 y3 y4) :=
  h.turn (put5_px h.2.2.1 h.1.1.symm (by have := h.1; omega) o y0 y1 y2 y3 y4) (by rw [put5_size]; exact Nat.le_refl _) fun k k1 k2 => put5_heap _ _ _ _ _ _ _ _ (by omega)
theorem VSt.grown {w0 w W : World} {g b1 b2 b3 b0 : Nat} {D3 : List Value} (h : VSt w0 g b1 b2 b3 b0 D3 w) {row : Option Nat} (hg : w.grownBy W row) (hr : ∀ k, row = some k → b0 ≤ k) : VSt w0 g b1 b2 b3 b0 D3 W :=
  h.turn (h.2.2.1.grown hg fun k e => by have := hr k e; have := h.1; omega) hg.size fun k k1 k2 => hg.block k (by have := h.2.1; omega) fun e => by have := hr k e.symm; omega
/-- The end of one more item. -/
theorem item_fin {w0 w w4 wv w5 W : World} {S : ByteArray} {g b1 b2 b3 b0 m n q j gn cap : Nat} {A : Option Addr} {l : List Dt} {d : Dt} {a : Option Addr} {c : Nat} {a' : Option Addr} {c' : Nat} {xs : List Value} {z0 z1 z2 z3 z4 u0 u1 u2 u3 u4 : Value}
    (hST : VSt w0 g b1 b2 b3 b0 [.int .i64 5, .int .i64 0, .string ⟨#[]⟩, .slice A n q, .slice none 0 0] w) (ho : w.ownsRow b0 27 5 (.slice A n q) n xs) (hf : FlatD (PZ b0 (Value.slice A n q).ownBlock w m) xs l) (hn : l.length = n)
    (hX : Px g w w4) (hR : Pr w4 g S j) (hP : PZ w.heap.size none w4 m d a c a' c') (hv : Below w4.heap.size w4 wv)
    (o1 : w5.ownsRow b0 27 5 (.slice (some ⟨gn, 0, none⟩) (n + 1) cap) (n + 1) (xs ++ [z0, z1, z2, z3, z4])) (o2 : wv.grownBy w5 (Value.slice A n q).ownBlock) (o3 : (Value.slice A n q).ownBlock = some gn ∨ gn = wv.heap.size)
    (hu : datCs d a c a' c' = [u0, u1, u2, u3, u4])
    (hW : W = (put5 w5 gn (n * 5) u0 u1 u2 u3 u4).setCell ⟨b3, 3, none⟩ (.slice (some ⟨gn, 0, none⟩) (n + 1) cap) ∨ W = put5 (w5.setCell ⟨b3, 3, none⟩ (.slice (some ⟨gn, 0, none⟩) (n + 1) cap)) gn (n * 5) u0 u1 u2 u3 u4) :
    Pr W g S j ∧ ItI w0 g b1 b2 b3 b0 m (l ++ [d]) W := by
  have hob : ∀ k, (Value.slice A n q).ownBlock = some k → b0 ≤ k ∧ k < w.heap.size := fun k e => ho.lt k e
  have hx : xs.length = n * 5 := ho.1
  have hb := hST.1
  have hbs := hST.2.1
  have hgn : b0 ≤ gn := by
    rcases o3 with e | e
    · exact (hob gn e).1
    · have := hv.size; have := hX.size; omega
  have hS5 : VSt w0 g b1 b2 b3 b0 [.int .i64 5, .int .i64 0, .string ⟨#[]⟩, .slice A n q, .slice none 0 0] w5 := ((hST.px hX).px (Px.of_below hv)).grown o2 fun k e => (hob k e).1
  have h6 : W.heap.size = w5.heap.size ∧ (∀ k, k ≠ gn → k ≠ b3 → W.heap[k]? = w5.heap[k]?) ∧ W.ownsRow b0 27 5 (.slice (some ⟨gn, 0, none⟩) (n + 1) cap) (n + 1) (xs ++ [u0, u1, u2, u3, u4]) ∧
      VSt w0 g b1 b2 b3 b0 [.int .i64 5, .int .i64 0, .string ⟨#[]⟩, .slice (some ⟨gn, 0, none⟩) (n + 1) cap, .slice none 0 0] W := by
    rcases hW with rfl | rfl
    · refine ⟨by rw [csize_set, put5_size], fun k k1 k2 => by rw [Below.heap_setCell _ _ _ _ k2, put5_heap _ _ _ _ _ _ _ _ k1], own_set (own_put5 o1 hx _ _ _ _ _) (by show b3 < b0; omega) _, (hS5.put5 hgn _ _ _ _ _ _).set 3 _⟩
    · refine ⟨by rw [put5_size, csize_set], fun k k1 k2 => by rw [put5_heap _ _ _ _ _ _ _ _ k1, Below.heap_setCell _ _ _ _ k2], own_put5 (own_set o1 (by show b3 < b0; omega) _) hx _ _ _ _ _, (hS5.set 3 _).put5 hgn _ _ _ _ _ _⟩
  obtain ⟨s6, k6, own6, st6⟩ := h6
  have e5 : ∀ k, k < w4.heap.size → some k ≠ (Value.slice A n q).ownBlock → w5.heap[k]? = w4.heap[k]? := fun k k1 k2 => (o2.block k (Nat.lt_of_lt_of_le k1 hv.size) k2).trans (hv.block k k1)
  have hgb : some g ≠ (Value.slice A n q).ownBlock := fun e => by have := (hob g e.symm).1; omega
  have hsz : w4.heap.size ≤ W.heap.size := by rw [s6]; exact Nat.le_trans hv.size o2.size
  refine ⟨(k6 g (by omega) (by omega)).trans ((e5 g (Row.lt hR) hgb).trans hR), _, st6, ?_⟩
  refine own_push5 hf hn hbs hP (by rw [hu]; exact own6) hX.size hsz (fun k k1 k2 k3 => ?_) fun k k1 k2 => ?_
  · have hne : k ≠ gn := by
      rcases o3 with e | e
      · intro e'; exact k3 (by rw [e, e'])
      · have := hv.size; have := hX.size; omega
    exact ⟨(k6 k hne (by omega)).trans ((e5 k (Nat.lt_of_lt_of_le k2 hX.size) k3).trans (hX.2 k k2 (by omega))), hne⟩
  · have hnb : some k ≠ (Value.slice A n q).ownBlock := fun e => by have := (hob k e.symm).2; omega
    have hne : k ≠ gn := by
      rcases o3 with e | e
      · intro e'; exact hnb (by rw [e, e'])
      · have := hv.size; omega
    exact ⟨(k6 k hne (by omega)).trans (e5 k k2 hnb), hne⟩

set_option maxRecDepth 20000 in
set_option maxHeartbeats 1000000 in
theorem item_run (S : ByteArray) (w0 : World) (g b1 b2 b3 b0 m : Nat) (l : List Dt) (w : World) (r : Except Flt (Dt × Nat)) (hI : ItI w0 g b1 b2 b3 b0 m l w) (hl : l.length ≤ 1000000000)
    (hv : ∀ W, Below w.heap.size w W → Calls Tryd.prog 15 #[.pointer (some ⟨g, 0, none⟩)] W (VPost g S W m r)) :
    Calls Tryd.prog 26 #[.pointer (some ⟨b3, 0, none⟩), .pointer (some ⟨b1, 0, none⟩)] w (KPost (ItI w0 g b1 b2 b3 b0 m) g S w0 (itemR l r)) := by
  obtain ⟨u, hST, hO⟩ := hI
  obtain ⟨i0, hi0, hz0, hz1, hz2⟩ := info_parts infoD
  obtain ⟨n, hn⟩ : ∃ n, n = l.length := ⟨_, rfl⟩
  obtain ⟨xs, ho, hf⟩ := hO
  rw [← hn] at ho hl
  have hu : ∃ A q, u = .slice A n q := by
    rcases ho.2 with ⟨rfl, rfl⟩ | ⟨gg, cap, cur, rfl, _⟩
    · exact ⟨_, _, rfl⟩
    · exact ⟨_, _, rfl⟩
  obtain ⟨A, q, rfl⟩ := hu
  have HO := hide ho; have HF := hide hf; have HN := Lib.hid hn; have HV := hide hv; have HS := hide hST
  have hgb : g < b0 := by have := hST.1; omega
  obtain ⟨t0, t1, t2, t3, t4⟩ := row5 hST.2.2.2.2.2
  have p1 : w.cell? ⟨b1, 0, none⟩ = some (.pointer (some ⟨g, 0, none⟩)) := hST.2.2.2.1.cell 0
  have q3 := hST.2.2.2.2.2.frozen 3
  have hb3 : b3 < b0 := by have := hST.1; omega
  have hb1 : b1 ≠ b3 := by have := hST.1; omega
  cases r with
  | error f =>
    clear ho hf hn hv
    go_enter Tryd.func26, Tryd.ntmps26
    have HC := hide fun W (h : Px g w W) => (And.intro ((hST.px h).2.2.2.2.2.cell 3) ((hST.px h).2.2.2.1.cell 0) : W.cell? ⟨b3, 3, none⟩ = some (.slice A n q) ∧ W.cell? ⟨b1, 0, none⟩ = some (.pointer (some ⟨g, 0, none⟩)))
    clear hST
    refine wp_region_any (by kernel_rfl) (wpAny_of_held (S := fun W => W.cell? ⟨b3, 3, none⟩ = some (.slice A n q) ∧ W.cell? ⟨b1, 0, none⟩ = some (.pointer (some ⟨g, 0, none⟩))) _ _ _ _ ?_)
    have hH := HC.out w.drew Px.refl.drew
    refine takeH (i := 0) (v := ?_) rfl (by kernel_rfl) (by kernel_rfl) (by kernel_rfl) (fun _ _ _ h => h) (Or.inl ⟨by rfl, ?_⟩) hH ?_
    rotate_left
    · (intro w hSw; (try dsimp only at hSw); go_simp; try with_reducible rfl)
    simp only [Act.put, List.setIfInBounds_toArray, List.set_cons_zero, List.set_cons_succ]
    refine takeH (i := 1) (v := ?_) rfl (by kernel_rfl) (by kernel_rfl) (by kernel_rfl) (fun _ _ _ h => h) (Or.inl ⟨by rfl, ?_⟩) hH ?_
    rotate_left
    · (intro w hSw; (try dsimp only at hSw); go_simp; try with_reducible rfl)
    simp only [Act.put, List.setIfInBounds_toArray, List.set_cons_zero, List.set_cons_succ]
    refine takeH (i := 2) (v := ?_) rfl (by kernel_rfl) (by kernel_rfl) (by kernel_rfl) (fun _ _ _ h => h) (Or.inl ⟨by rfl, ?_⟩) hH ?_
    rotate_left
    · (intro w hSw; (try dsimp only at hSw); go_simp; try with_reducible rfl)
    simp only [Act.put, List.setIfInBounds_toArray, List.set_cons_zero, List.set_cons_succ]
    refine takeH (i := 4) (v := ?_) rfl (by kernel_rfl) (by kernel_rfl) (by kernel_rfl) (fun _ _ _ h => h) (Or.inl ⟨by rfl, ?_⟩) hH ?_
    rotate_left
    · (intro w hSw; (try dsimp only at hSw); go_simp; try with_reducible rfl)
    simp only [Act.put, List.setIfInBounds_toArray, List.set_cons_zero, List.set_cons_succ]
    refine twoH (i := 3) (j := 5) rfl rfl (by kernel_rfl) (fun K hK => ?_) (fun K hK => ?_)
    · go_simp
      go_at_call 15
      refine (HV.out w.drew (Below.refl _ _).drew).mono ?_; rintro e w4 ⟨rfl, hx⟩
      exact ⟨rfl, rfl, HS.out.2.2.1.trans (Px.refl.drew.trans hx)⟩
    · go_simp
      have hX := (Px.refl (g := g) (w := w)).drew.alloc (.cells #[.int .i64 0, .int .i64 0, .string ⟨#[]⟩, .slice none 0 0, .slice none 0 0] 27)
      refine hK.out _ _ (HC.out _ hX) (fun hH => ?_)
      clear hK K
      refine oneH (i := 3) rfl (by kernel_rfl) (fun K hK => ?_)
      go_simp
      go_at_call 15
      refine (HV.out _ ((Below.refl _ _).drew.alloc (Nat.le_refl _) _)).mono ?_; rintro e w4 ⟨rfl, hx⟩
      exact ⟨rfl, rfl, HS.out.2.2.1.trans (hX.trans hx)⟩
  | ok p =>
    obtain ⟨d, j⟩ := p
    clear hST ho hf hn hv
    unfold VPost datV datCs at HV
    go_enter Tryd.func26, Tryd.ntmps26
    have hb0w := HS.out.2.1
    have hgn0 : ∀ {wv : World} {gn : Nat}, w.heap.size ≤ wv.heap.size → ((Value.slice A n q).ownBlock = some gn ∨ gn = wv.heap.size) → gn ≠ b3 := fun {wv gn} hs h => by
      rcases h with e | e
      · have := (HO.out.lt gn e).1; omega
      · omega
    have HC5 := hide fun wv w5 (hX : Px g w wv) (o2 : wv.grownBy w5 (Value.slice A n q).ownBlock) => (And.intro (((HS.out.px hX).grown o2 fun k e => (HO.out.lt k e).1).2.2.2.2.2.cell 3) (((HS.out.px hX).grown o2 fun k e => (HO.out.lt k e).1).2.2.2.2.2.frozen 3) : w5.cell? ⟨b3, 3, none⟩ = some (.slice A n q) ∧ w5.frozen? ⟨b3, 3, none⟩ = false)
    have hlt : (n : Int) < (n : Int) + 1 := by omega
    have HC := hide fun W (h : Px g w W) => (And.intro ((HS.out.px h).2.2.2.2.2.cell 3) ((HS.out.px h).2.2.2.1.cell 0) : W.cell? ⟨b3, 3, none⟩ = some (.slice A n q) ∧ W.cell? ⟨b1, 0, none⟩ = some (.pointer (some ⟨g, 0, none⟩)))
    refine region_head 6 (fun W => W.cell? ⟨b3, 3, none⟩ = some (.slice A n q) ∧ W.cell? ⟨b1, 0, none⟩ = some (.pointer (some ⟨g, 0, none⟩))) _ (by kernel_rfl) (by kernel_rfl) (HC.out _ Px.refl.drew) (fun _ _ h => h) (fun hH => ?_)
    simp only [List.take_succ_cons, List.take_zero]
    clear t0 t1 t2 t3 t4 p1 q3
    refine takeH (i := 0) (v := ?_) rfl (by kernel_rfl) (by kernel_rfl) (by kernel_rfl) (fun _ _ _ h => h) (Or.inl ⟨by rfl, ?_⟩) hH ?_
    rotate_left
    · (intro w hSw; (try dsimp only at hSw); go_simp; try with_reducible rfl)
    simp only [Act.put, List.setIfInBounds_toArray, List.set_cons_zero, List.set_cons_succ]
    refine takeH (i := 1) (v := ?_) rfl (by kernel_rfl) (by kernel_rfl) (by kernel_rfl) (fun _ _ _ h => h) (Or.inl ⟨by rfl, ?_⟩) hH ?_
    rotate_left
    · (intro w hSw; (try dsimp only at hSw); go_simp; try with_reducible rfl)
    simp only [Act.put, List.setIfInBounds_toArray, List.set_cons_zero, List.set_cons_succ]
    refine takeH (i := 2) (v := ?_) rfl (by kernel_rfl) (by kernel_rfl) (by kernel_rfl) (fun _ _ _ h => h) (Or.inl ⟨by rfl, ?_⟩) hH ?_
    rotate_left
    · (intro w hSw; (try dsimp only at hSw); go_simp; try with_reducible rfl)
    simp only [Act.put, List.setIfInBounds_toArray, List.set_cons_zero, List.set_cons_succ]
    refine takeH (i := 4) (v := ?_) rfl (by kernel_rfl) (by kernel_rfl) (by kernel_rfl) (fun _ _ _ h => h) (Or.inl ⟨by rfl, ?_⟩) hH ?_
    rotate_left
    · (intro w hSw; (try dsimp only at hSw); go_simp; try with_reducible rfl)
    simp only [Act.put, List.setIfInBounds_toArray, List.set_cons_zero, List.set_cons_succ]
    refine twoH (i := 3) (j := 5) rfl rfl (by kernel_rfl) (fun K hK => ?_) (fun K hK => ?_)
    · go_simp
      go_at_call 15
      refine (HV.out w.drew (Below.refl _ _).drew).mono ?_; rintro e w4 ⟨⟨ra, rc, ra', rc', rfl, hP4⟩, hR4, hX4⟩
      have hX5 := Px.refl.drew.trans hX4
      have hP5 : PZ w.heap.size none w4 m d ra rc ra' rc' := hP4
      refine hK.out _ _ (HC.out _ hX5) (fun hH => ?_)
      clear hK K
      refine oneH (i := 5) rfl (by kernel_rfl) (fun K hK => ?_)
      go_simp
      refine hK.out _ _ (HC.out _ (hX5.alloc _)) (fun hH => ?_)
      clear hK K hH HC
      refine wpAnyH_done (by kernel_rfl) ?_ _
      unfold TailG
      refine wpAny_of_held (S := fun _ => True) _ _ _ _ ?_
      have hH : True := trivial
      refine oneH (i := 6) rfl (by kernel_rfl) (fun K hK => ?_)
      refine step_append_lies _ rfl (.tmp 3) (.tmp 7) _ rfl b0 27 i0 (.agg #[.int .i64 0, .int .i64 0, .string ⟨#[]⟩, .slice none 0 0, .slice none 0 0]) 5 80 Tryd.underlying24 hi0 hz0 hz1 hz2 rfl (by omega) (.slice A n q) n xs rfl ((own_px HO.out hX5 hgb).alloc _) ⟨w4.heap.size, 0, none⟩ 1 1 [.int .i64 0, .int .i64 0, .string ⟨#[]⟩, .slice none 0 0, .slice none 0 0] rfl rfl (World.news_of_block (heap_alloc_new _ _)) zero_one (by omega) (by unfold maxLen; omega) (by omega) (by have := hX5.size; simp; omega) _ rfl ?_
      intro gn cap w5 o1 o2 o3 o4
      obtain ⟨⟨y0, y1, y2, y3, y4⟩, v0, v1, v2, v3, v4⟩ := own_five o1 HO.out.1
      have hgn := hgn0 (by have := hX5.size; simp; omega) o3
      have hgn2 := Ne.symm hgn
      obtain ⟨hRz, hFz⟩ := HC5.out _ _ (hX5.alloc _) o2
      have HFIN := hide fun W hW => item_fin (W := W) HS.out HO.out HF.out HN.out.symm hX5 hR4 hP5 ((Below.refl _ _).alloc (Nat.le_refl _) _) o1 o2 o3 rfl hW
      unfold put5 at HFIN
      refine hK.out _ _ trivial (fun hH => ?_)
      clear hK K o1 o2 o3 o4 hX5 hR4 hP5 hP4 HV HS HO HF HC5
      refine takeH (i := 9) (v := ?_) rfl (by kernel_rfl) (by kernel_rfl) (by kernel_rfl) (fun _ _ _ h => h) (Or.inl ⟨by rfl, ?_⟩) hH ?_
      rotate_left
      · (intro w hSw; (try dsimp only at hSw); go_simp; try with_reducible rfl)
      simp only [Act.put, List.setIfInBounds_toArray, List.set_cons_zero, List.set_cons_succ]
      refine takeH (i := 7) (v := ?_) rfl (by kernel_rfl) (by kernel_rfl) (by kernel_rfl) (fun _ _ _ h => h) (Or.inl ⟨by rfl, ?_⟩) hH ?_
      rotate_left
      · (intro w hSw; (try dsimp only at hSw); go_simp; try with_reducible rfl)
      simp only [Act.put, List.setIfInBounds_toArray, List.set_cons_zero, List.set_cons_succ]
      refine twoH (i := 8) (j := 10) rfl rfl (by kernel_rfl) (fun K hK => ?_) (fun K hK => ?_)
      · go_simp
        refine hK.out _ _ trivial (fun hH => ?_)
        clear hK K
        refine oneH (i := 10) rfl (by kernel_rfl) (fun K hK => ?_)
        go_simp
        refine hK.out _ _ trivial (fun hH => ?_)
        clear hK K
        refine wpAnyH_done (by kernel_rfl) ?_ _
        go_end0
        show _ ∧ Pr _ g S j ∧ ItI w0 g b1 b2 b3 b0 m (l ++ [d]) _
        refine ⟨rfl, HFIN.out _ ?_⟩
        with_reducible exact .inl rfl
      · go_simp
        refine hK.out _ _ trivial (fun hH => ?_)
        clear hK K
        refine oneH (i := 8) rfl (by kernel_rfl) (fun K hK => ?_)
        go_simp
        refine hK.out _ _ trivial (fun hH => ?_)
        clear hK K
        refine wpAnyH_done (by kernel_rfl) ?_ _
        go_end0
        show _ ∧ Pr _ g S j ∧ ItI w0 g b1 b2 b3 b0 m (l ++ [d]) _
        refine ⟨rfl, HFIN.out _ ?_⟩
        with_reducible exact .inr rfl
    · go_simp
      have hXa := (Px.refl (g := g) (w := w)).drew.alloc (.cells #[.int .i64 0, .int .i64 0, .string ⟨#[]⟩, .slice none 0 0, .slice none 0 0] 27)
      refine hK.out _ _ (HC.out _ hXa) (fun hH => ?_)
      clear hK K
      refine oneH (i := 3) rfl (by kernel_rfl) (fun K hK => ?_)
      go_simp
      go_at_call 15
      refine (HV.out _ ((Below.refl _ _).drew.alloc (Nat.le_refl _) _)).mono ?_; rintro e w4 ⟨⟨ra, rc, ra', rc', rfl, hP4⟩, hR4, hX4⟩
      have hX5 := hXa.trans hX4
      have hP5 : PZ w.heap.size none w4 m d ra rc ra' rc' := hP4.turn (Nat.le_refl _) (fun k k1 k2 _ => ⟨rfl, by simp at k1; omega, by simp⟩)
      have hN4 := (hX4.2 w.heap.size (by simp) (by omega)).trans (heap_alloc_new w.drew (.cells #[.int .i64 0, .int .i64 0, .string ⟨#[]⟩, .slice none 0 0, .slice none 0 0] 27))
      refine hK.out _ _ (HC.out _ hX5) (fun hH => ?_)
      clear hK K hH HC
      refine wpAnyH_done (by kernel_rfl) ?_ _
      unfold TailG
      refine wpAny_of_held (S := fun _ => True) _ _ _ _ ?_
      have hH : True := trivial
      refine oneH (i := 6) rfl (by kernel_rfl) (fun K hK => ?_)
      refine step_append_lies _ rfl (.tmp 3) (.tmp 7) _ rfl b0 27 i0 (.agg #[.int .i64 0, .int .i64 0, .string ⟨#[]⟩, .slice none 0 0, .slice none 0 0]) 5 80 Tryd.underlying24 hi0 hz0 hz1 hz2 rfl (by omega) (.slice A n q) n xs rfl (own_px HO.out hX5 hgb) ⟨w.heap.size, 0, none⟩ 1 1 [.int .i64 0, .int .i64 0, .string ⟨#[]⟩, .slice none 0 0, .slice none 0 0] rfl rfl (World.news_of_block hN4) zero_one (by omega) (by unfold maxLen; omega) (by omega) (by have := hX5.size; simp; omega) _ rfl ?_
      intro gn cap w5 o1 o2 o3 o4
      obtain ⟨⟨y0, y1, y2, y3, y4⟩, v0, v1, v2, v3, v4⟩ := own_five o1 HO.out.1
      have hgn := hgn0 (by have := hX5.size; simp; omega) o3
      have hgn2 := Ne.symm hgn
      obtain ⟨hRz, hFz⟩ := HC5.out _ _ hX5 o2
      have HFIN := hide fun W hW => item_fin (W := W) HS.out HO.out HF.out HN.out.symm hX5 hR4 hP5 (Below.refl _ _) o1 o2 o3 rfl hW
      unfold put5 at HFIN
      refine hK.out _ _ trivial (fun hH => ?_)
      clear hK K o1 o2 o3 o4 hX5 hR4 hP5 hP4 HV HS HO HF HC5
      refine takeH (i := 9) (v := ?_) rfl (by kernel_rfl) (by kernel_rfl) (by kernel_rfl) (fun _ _ _ h => h) (Or.inl ⟨by rfl, ?_⟩) hH ?_
      rotate_left
      · (intro w hSw; (try dsimp only at hSw); go_simp; try with_reducible rfl)
      simp only [Act.put, List.setIfInBounds_toArray, List.set_cons_zero, List.set_cons_succ]
      refine takeH (i := 7) (v := ?_) rfl (by kernel_rfl) (by kernel_rfl) (by kernel_rfl) (fun _ _ _ h => h) (Or.inl ⟨by rfl, ?_⟩) hH ?_
      rotate_left
      · (intro w hSw; (try dsimp only at hSw); go_simp; try with_reducible rfl)
      simp only [Act.put, List.setIfInBounds_toArray, List.set_cons_zero, List.set_cons_succ]
      refine twoH (i := 8) (j := 10) rfl rfl (by kernel_rfl) (fun K hK => ?_) (fun K hK => ?_)
      · go_simp
        refine hK.out _ _ trivial (fun hH => ?_)
        clear hK K
        refine oneH (i := 10) rfl (by kernel_rfl) (fun K hK => ?_)
        go_simp
        refine hK.out _ _ trivial (fun hH => ?_)
        clear hK K
        refine wpAnyH_done (by kernel_rfl) ?_ _
        go_end0
        show _ ∧ Pr _ g S j ∧ ItI w0 g b1 b2 b3 b0 m (l ++ [d]) _
        refine ⟨rfl, HFIN.out _ ?_⟩
        with_reducible exact .inl rfl
      · go_simp
        refine hK.out _ _ trivial (fun hH => ?_)
        clear hK K
        refine oneH (i := 8) rfl (by kernel_rfl) (fun K hK => ?_)
        go_simp
        refine hK.out _ _ trivial (fun hH => ?_)
        clear hK K
        refine wpAnyH_done (by kernel_rfl) ?_ _
        go_end0
        show _ ∧ Pr _ g S j ∧ ItI w0 g b1 b2 b3 b0 m (l ++ [d]) _
        refine ⟨rfl, HFIN.out _ ?_⟩
        with_reducible exact .inr rfl
end Go.Proofs.YtmmbbndoimleaaaDoor

/- Is the label among the members? -/
namespace Go.Proofs.YtmmbbndoimleaaaDoor
open Go.RowKit

def labV (m : ByteArray × Dt) (a : Option Addr) (c : Nat) (a' : Option Addr) (c' : Nat) : Value :=
  .agg #[.string m.1, .int .i64 (kD m.2), .int .i64 (nD m.2), .string (sD m.2), .slice a (iD m.2).length c, .slice a' (mD m.2).length c']
set_option maxHeartbeats 1000000 in
theorem same_label (m : ByteArray × Dt) (a : Option Addr) (c : Nat) (a' : Option Addr) (c' : Nat) (s : ByteArray) (lb : Nat) (w : World) (h : w.cell? ⟨lb, 0, none⟩ = some (.string s)) (hlb : lb < w.heap.size) :
    Calls Tryd.prog 36 #[labV m a c a' c', .pointer (some ⟨lb, 0, none⟩)] w fun e w' => e = .returned (.bool (m.1.toList == s.toList)) ∧ Below w.heap.size w w' := by
  have HC := hide fun W (hB : Below w.heap.size w W) => ((Same.of_below hB).cell (p := ⟨lb, 0, none⟩) hlb).trans h
  unfold labV
  go_enter Tryd.func36, Tryd.ntmps36
  go_upto_region 1 with fail
  obtain ⟨w2, g, e1, e2, hB, hR⟩ := boxM w m a c a' c'
  rw [e1, e2]
  obtain ⟨d0, d1, d2, d3, d4, d5⟩ := row6 hR
  have hc := HC.out _ hB
  have HB := hide hB
  clear hR hB e1 e2 h
  go_wp2_with fail
  all_goals
    go_ret
    exact ⟨rfl, HB.out⟩

set_option maxRecDepth 20000 in
set_option maxHeartbeats 2000000 in
theorem label_index (R : Reads) (u : Value) (l : List (ByteArray × Dt)) (s : ByteArray) (lb : Nat) (w : World) (h : w.cell? ⟨lb, 0, none⟩ = some (.string s)) (hlb : lb < w.heap.size) (hm : MemsR R w w.heap.size u l) :
    Calls Tryd.prog 47 #[u, .func (.func 36) #[] #[.pointer (some ⟨lb, 0, none⟩)]] w fun e w' =>
      (∃ k : Int, e = .returned (.int .i64 k) ∧ decide (0 ≤ k) = l.any fun m => m.1.toList == s.toList) ∧ Below w.heap.size w w' := by
  obtain ⟨A, c, rfl, h1, h2, hM⟩ := hm
  have hml := maxLen_le h2
  have HS := hide fun m a c a' c' W (hB : Below w.heap.size w W) => same_label m a c a' c' s lb W (((Same.of_below hB).cell (p := ⟨lb, 0, none⟩) hlb).trans h) (Nat.lt_of_lt_of_le hlb hB.size)
  unfold labV at HS
  have HM := hide hM
  obtain ⟨n, hn⟩ : ∃ n, n = l.length := ⟨_, rfl⟩
  rw [← hn] at h1 ⊢
  have HN := Lib.hid hn
  have H0 := hide (show Below w.heap.size w w ∧ ((l.take 0).any fun m => m.1.toList == s.toList) = false from ⟨Below.refl _ _, by simp⟩)
  clear h hM h2 hn
  go_enter Tryd.func47, Tryd.ntmps47
  go_wp2_with fail
  go_loopw [5, 8] (fun _ iv wr => ∃ i : Nat, iv = .int .i64 i ∧ i ≤ n ∧ Hid (Below w.heap.size w wr ∧ ((l.take i).any fun m => m.1.toList == s.toList) = false)) (fun _ iv _ => n - (intOf iv).toNat)
  case atStart => exact ⟨0, rfl, Nat.zero_le _, H0⟩
  case round =>
    clear H0
    obtain ⟨i, rfl, hi, hI⟩ := hrel
    by_cases hlt : i < n
    · have hlt' : i < l.length := by rw [← HN.out]; exact hlt
      obtain ⟨ad, rfl, hb, hlab, a, q, a', q', hfive, hpts⟩ := HM.out i _ (List.getElem?_eq_getElem hlt')
      obtain ⟨X, hX⟩ : ∃ X, X = l[i] := ⟨_, rfl⟩
      rw [← hX] at hlab hfive
      have hbb : (ad.add (i * 6)).block < w.heap.size := by rw [block_of_add]; exact hb
      obtain ⟨s0, s1, s2, s3, s4, s5⟩ := six_of (((Same.of_below hI.out.1).cell (p := ad.add (i * 6)) hbb).trans hlab) (hfive.same (p := ⟨_, _, none⟩) hbb (Same.of_below hI.out.1))
      have HS1 := hide (HS.out X a q a' q' _ hI.out.1)
      obtain ⟨b, hb2⟩ : ∃ b, b = (X.1.toList == s.toList) := ⟨_, rfl⟩
      have HT := hide (show ((l.take (i + 1)).any fun m => m.1.toList == s.toList) = b by
        rw [List.take_add_one, List.getElem?_eq_getElem hlt', ← hX, List.any_append, hI.out.2, hb2]; simp)
      rw [← hb2] at HS1
      clear hpts
      clear hX hlt' hfive hlab hb hb2
      have hlt2 : (i : Int) < (n : Int) := by omega
      go_wp2_with fail
      refine HS1.out.mono ?_; rintro e w2 ⟨rfl, hB2⟩
      have HB2 := hide (hI.out.1.trans (hB2.mono hI.out.1.size))
      clear hB2 HS1 s0 s1 s2 s3 s4 s5 hI
      cases b with
      | true =>
        go_wp2_with fail
        go_ret
        refine ⟨⟨_, rfl, ?_⟩, HB2.out⟩
        have h := HT.out
        rw [← List.take_append_drop (i + 1) l, List.any_append, h]
        simp
      | false =>
        go_wp2_with fail
        go_roundw
        case rel => exact ⟨i + 1, by go_num, hlt, hide ⟨HB2.out, HT.out⟩⟩
        case measure => simp [intOf]; omega
    · obtain rfl : i = n := by omega
      go_wp2_with fail
      go_ret
      refine ⟨⟨_, rfl, ?_⟩, hI.out.1⟩
      have h := hI.out.2
      rw [HN.out, List.take_length] at h
      rw [h]; rfl
theorem has_label (R : Reads) (u : Value) (l : List (ByteArray × Dt)) (s : ByteArray) (lb : Nat) (w : World) (h : w.cell? ⟨lb, 0, none⟩ = some (.string s)) (hlb : lb < w.heap.size) (hm : MemsR R w w.heap.size u l) :
    Calls Tryd.prog 35 #[u, .func (.func 36) #[] #[.pointer (some ⟨lb, 0, none⟩)]] w fun e w' =>
      e = .returned (.bool (l.any fun m => m.1.toList == s.toList)) ∧ Below w.heap.size w w' := by
  have HL := hide (label_index R u l s lb w h hlb hm)
  obtain ⟨b, hb⟩ : ∃ b, b = l.any fun m => m.1.toList == s.toList := ⟨_, rfl⟩
  rw [← hb] at HL ⊢
  clear hb hm
  go_enter Tryd.func35, Tryd.ntmps35
  go_wp2_with fail
  refine HL.out.mono ?_; rintro e w2 ⟨⟨k, rfl, hk⟩, hB2⟩
  have HB := hide hB2
  clear hB2 HL
  go_wp2_with fail
  go_ret
  exact ⟨rfl, HB.out⟩
end Go.Proofs.YtmmbbndoimleaaaDoor

/- One more member. -/
namespace Go.Proofs.YtmmbbndoimleaaaDoor
open Go.RowKit

/-- Below b0 nothing has changed but block g. -/
def KP (g b0 : Nat) (w w' : World) : Prop := Below 0 w w' ∧ ∀ k, k < b0 → k ≠ g → w'.heap[k]? = w.heap[k]?
theorem KP.of_px {g b0 : Nat} {w w' : World} (h : Px g w w') (hb : b0 ≤ w.heap.size) : KP g b0 w w' := ⟨h.1, fun k k1 k2 => h.2 k (by omega) k2⟩
theorem VSt.kp {w0 w W : World} {g b1 b2 b3 b0 : Nat} {D3 : List Value} (h : VSt w0 g b1 b2 b3 b0 D3 w) (hk : KP g b0 w W) : VSt w0 g b1 b2 b3 b0 D3 W := by
  have h0 := h.1
  exact h.turn ⟨h.2.2.1.1.trans hk.1, fun k k1 k2 => (hk.2 k (by omega) k2).trans (h.2.2.1.2 k k1 k2)⟩ hk.1.size fun k k1 k2 => hk.2 k k2 (by omega)
/-- What member hands back. -/
def MPost (g b0 m : Nat) (S : ByteArray) (w : World) (r : Except Flt (List (ByteArray × Dt) × Nat)) (e : Ending) (w' : World) : Prop :=
  match r with
  | .ok (l, j) => ∃ u, e = .returned u ∧ Pr w' g S j ∧ KP g b0 w w' ∧ OwnM (PZ b0 u.ownBlock w' m) w' b0 u l
  | .error f => FPost g w f e w'
/-- The end of one more member. -/
theorem mem_fin {w w4 wv W : World} {S : ByteArray} {g b0 m n j gn cap : Nat} {u : Value} {l : List (ByteArray × Dt)} {s : ByteArray} {d : Dt} {a : Option Addr} {c : Nat} {a' : Option Addr} {c' : Nat} {xs : List Value}
    (hg : g < b0) (hb0 : b0 ≤ w.heap.size) (ho : w.ownsRow b0 50 6 u n xs) (hf : FlatM (PZ b0 u.ownBlock w m) xs l) (hn : l.length = n)
    (hX : Px g w w4) (hR : Pr w4 g S j) (hP : PZ w.heap.size none w4 m d a c a' c') (hv : Below w4.heap.size w4 wv)
    (o1 : W.ownsRow b0 50 6 (.slice (some ⟨gn, 0, none⟩) (n + 1) cap) (n + 1) (xs ++ .string s :: datCs d a c a' c')) (o2 : wv.grownBy W u.ownBlock) (o3 : u.ownBlock = some gn ∨ gn = wv.heap.size) :
    Pr W g S j ∧ KP g b0 w W ∧ OwnM (PZ b0 (Value.slice (some ⟨gn, 0, none⟩) (n + 1) cap).ownBlock W m) W b0 (.slice (some ⟨gn, 0, none⟩) (n + 1) cap) (l ++ [(s, d)]) := by
  have hob : ∀ k, u.ownBlock = some k → b0 ≤ k ∧ k < w.heap.size := fun k e => ho.lt k e
  have e5 : ∀ k, k < w4.heap.size → some k ≠ u.ownBlock → W.heap[k]? = w4.heap[k]? := fun k k1 k2 => (o2.block k (Nat.lt_of_lt_of_le k1 hv.size) k2).trans (hv.block k k1)
  have hgb : some g ≠ u.ownBlock := fun e => by have := (hob g e.symm).1; omega
  have hsz : w4.heap.size ≤ W.heap.size := Nat.le_trans hv.size o2.size
  refine ⟨(e5 g (Row.lt hR) hgb).trans hR, ⟨(hX.1.trans (hv.mono (Nat.zero_le _))).grown o2 (Nat.zero_le _) (fun k e => Nat.zero_le _), fun k k1 k2 => ?_⟩, ?_⟩
  · exact (e5 k (by have := hX.size; omega) (fun e => by have := (hob k e.symm).1; omega)).trans (hX.2 k (by omega) k2)
  · refine own_push6 (r := (s, d)) hf hn hb0 hP o1 hX.size hsz (fun k k1 k2 k3 => ?_) fun k k1 k2 => ?_
    · have hne : k ≠ gn := by
        rcases o3 with e | e
        · intro e'; exact k3 (by rw [e, e'])
        · have := hv.size; have := hX.size; omega
      exact ⟨(e5 k (Nat.lt_of_lt_of_le k2 hX.size) k3).trans (hX.2 k k2 (by omega)), hne⟩
    · have hnb : some k ≠ u.ownBlock := fun e => by have := (hob k e.symm).2; omega
      have hne : k ≠ gn := by
        rcases o3 with e | e
        · intro e'; exact hnb (by rw [e, e'])
        · have := hv.size; omega
      exact ⟨e5 k k2 hnb, hne⟩

set_option maxRecDepth 20000 in
set_option maxHeartbeats 2000000 in
theorem member_run (S : ByteArray) (g b0 m i n : Nat) (u : Value) (l : List (ByteArray × Dt)) (w : World) (h : Pr w g S i) (hS : S.size ≤ 1000000000) (hi : i ≤ S.size) (hg : g < b0) (hb0 : b0 ≤ w.heap.size)
    (ho : OwnM (PZ b0 u.ownBlock w m) w b0 u l) (hl : l.length ≤ 1000000000)
    (hv : ∀ k W, Pr W g S k → i < k → k ≤ S.size → Calls Tryd.prog 15 #[.pointer (some ⟨g, 0, none⟩)] W (VPost g S W m (valF S n k))) :
    Calls Tryd.prog 28 #[.pointer (some ⟨g, 0, none⟩), u] w (MPost g b0 m S w (memS S (valF S n) l i)) := by
  obtain ⟨i1, hi1, hy0, hy1, hy2⟩ := info_parts infoM
  obtain ⟨r, hr⟩ : ∃ r, r = memS S (valF S n) l i := ⟨_, rfl⟩
  rw [← hr]
  unfold memS at hr
  have HSTR := hide (str_run S g i w h hS hi)
  obtain ⟨q, hq⟩ : ∃ q, q = strF S i := ⟨_, rfl⟩
  rw [← hq] at hr HSTR
  have HR := Lib.hid hr; have HQ := Lib.hid hq
  have HBL := hide fun k V (h : Pr V g S k) (hk : k ≤ S.size) => blanks_run S g k V h hS hk
  have HW := hide fun k V (h : Pr V g S k) (hk : k ≤ S.size) => word_run S ⟨#[58]⟩ g k V h (by omega) (by decide)
  rw [show (⟨#[58]⟩ : ByteArray).data.toList = [58] from rfl] at HW
  have HF := hide fun (e : Int) (k : Nat) V => fail_run (.pointer (some ⟨g, 0, none⟩)) e (k : Nat) V
  have HV := hide hv
  have HO := hide ho
  obtain ⟨c0, c1, f1⟩ := h.cells
  clear hr hq hv ho
  go_enter Tryd.func28, Tryd.ntmps28
  go_wp2_with fail
  refine HSTR.out.mono ?_
  cases q with
  | error f =>
    rintro e w1 ⟨rfl, hx⟩
    have HE2 := hide (show r = .error f from HR.out)
    have HX := hide hx
    clear hx HR
    go_wp2_with fail
    rw [HE2.out]
    exact ⟨rfl, rfl, HX.out⟩
  | ok p =>
    obtain ⟨s, j⟩ := p
    rintro e w1 ⟨rfl, hP1, hX1⟩
    obtain ⟨gj1, gj2⟩ := str_gain HQ.out.symm
    have HR1 := hide (show r = if (l.any fun m => m.1.toList == s.toList) = true then .error (6, (i : Int)) else match wordF S [58] (blk S j) with
      | .error f => .error f
      | .ok k => match valF S n (blk S k) with
        | .error f => .error f
        | .ok (d, q) => .ok (l ++ [(s, d)], q) from HR.out)
    have HP1 := hide hP1; have HX1 := hide hX1
    clear hP1 hX1 HR HSTR HQ c0 c1 f1 h
    go_upto_region 3 with fail
    obtain ⟨w2, hw2⟩ : ∃ W, W = w1.alloc (.cells #[.string s] 9) := ⟨_, rfl⟩
    obtain ⟨lb, hlb⟩ : ∃ k, k = w1.heap.size := ⟨_, rfl⟩
    have HP2 := hide (show Pr w2 g S j by rw [hw2]; exact Row.alloc HP1.out _)
    have HX2 := hide (show Px g w w2 by rw [hw2]; exact HX1.out.alloc _)
    have HL2 := hide (show Row w2 lb 9 [.string s] by rw [hw2, hlb]; exact Row.new w1 _ _)
    have hlg : lb ≠ g := by have := HP1.out.lt; omega
    have hlw : w.heap.size ≤ lb := by have := HX1.out.size; omega
    rw [← hw2, ← hlb]
    clear hw2 hlb HP1 HX1
    have HLAB := hide (has_label _ u l s lb w2 (HL2.out.cell 0) HL2.out.lt (OwnM.px HO.out HX2.out hg).mems)
    obtain ⟨b, hb⟩ : ∃ b, b = l.any fun m => m.1.toList == s.toList := ⟨_, rfl⟩
    rw [← hb] at HLAB HR1
    clear hb
    go_wp2_with fail
    refine HLAB.out.mono ?_; rintro e w3 ⟨rfl, hB3⟩
    have HP3 := hide (HP2.out.below hB3)
    have HX3 := hide (HX2.out.below hB3)
    have HL3 := hide (HL2.out.below hB3)
    clear hB3 HP2 HX2 HL2 HLAB
    cases b with
    | true =>
      have HE2 := hide (show r = .error (6, (i : Int)) by rw [HR1.out, if_pos rfl])
      clear HR1
      go_wp2_with fail
      refine (HF.out 6 i _).mono ?_; rintro e w4 ⟨rfl, rfl⟩
      go_wp2_with fail
      rw [HE2.out]
      exact ⟨rfl, rfl, HX3.out⟩
    | false =>
      obtain ⟨k1, hk1⟩ : ∃ k, k = blk S j := ⟨_, rfl⟩
      have hks : k1 ≤ S.size := by rw [hk1]; exact run_le _ gj2
      have hkj : j ≤ k1 := by rw [hk1]; exact run_ge _ _ _
      have HR2 := hide (show r = match wordF S [58] k1 with
        | .error f => .error f
        | .ok k => match valF S n (blk S k) with
          | .error f => .error f
          | .ok (d, q) => .ok (l ++ [(s, d)], q) by rw [HR1.out, hk1]; first | done | rfl)
      have HB4 := hide (HBL.out j _ HP3.out gj2)
      rw [show blk S j = k1 from hk1.symm] at HB4
      clear HR1 hk1
      go_wp2_with fail
      refine HB4.out.mono ?_; rintro e w4 ⟨rfl, hP4, hX4⟩
      have HP4 := hide hP4
      have HX4 := hide (HX3.out.trans hX4)
      have HL4 := hide (show Row w4 lb 9 [.string s] from (hX4.2 lb HL3.out.lt hlg).trans HL3.out)
      clear hP4 hX4 HX3 HL3 HP3 HB4
      have HW4 := hide (HW.out k1 _ HP4.out hks)
      obtain ⟨v, hv⟩ : ∃ v, v = wordF S [58] k1 := ⟨_, rfl⟩
      rw [← hv] at HW4 HR2
      have HVV := Lib.hid hv
      clear hv
      go_wp2_with fail
      refine HW4.out.mono ?_
      cases v with
      | error f =>
        rintro e w5 ⟨rfl, hx⟩
        have HE2 := hide (show r = .error f from HR2.out)
        have HX := hide (HX4.out.trans hx)
        clear hx HR2 HW4
        go_wp2_with fail
        rw [HE2.out]
        exact ⟨rfl, rfl, HX.out⟩
      | ok k2 =>
        rintro e w5 ⟨rfl, hP5, hX5⟩
        obtain ⟨g5, g6⟩ := word1 (by decide) HVV.out.symm
        have HP5 := hide hP5
        have HX5 := hide (HX4.out.trans hX5)
        have HL5 := hide (show Row w5 lb 9 [.string s] from (hX5.2 lb HL4.out.lt hlg).trans HL4.out)
        obtain ⟨k3, hk3⟩ : ∃ k, k = blk S k2 := ⟨_, rfl⟩
        have hks3 : k3 ≤ S.size := by rw [hk3]; exact run_le _ (by omega)
        have hkj3 : k2 ≤ k3 := by rw [hk3]; exact run_ge _ _ _
        have HR3 := hide (show r = match valF S n k3 with
          | .error f => .error f
          | .ok (d, q) => .ok (l ++ [(s, d)], q) by rw [HR2.out, hk3])
        have HB6 := hide (HBL.out k2 _ HP5.out (by omega))
        rw [show blk S k2 = k3 from hk3.symm] at HB6
        clear HR2 hk3 hP5 hX5 HW4 HX4 HL4 HP4
        go_wp2_with fail
        refine HB6.out.mono ?_; rintro e w6 ⟨rfl, hP6, hX6⟩
        have HP6 := hide hP6
        have HX6 := hide (HX5.out.trans hX6)
        have HL6 := hide (show Row w6 lb 9 [.string s] from (hX6.2 lb HL5.out.lt hlg).trans HL5.out)
        clear hP6 hX6 HX5 HL5 HP5 HB6
        have HV6 := hide (HV.out k3 w6.drew HP6.out (by omega) hks3)
        obtain ⟨x, hx⟩ : ∃ x, x = valF S n k3 := ⟨_, rfl⟩
        rw [← hx] at HR3 HV6
        clear hx
        have HLW := hide fun W (h : Px g w6 W) => (show Row W lb 9 [.string s] from (h.2 lb HL6.out.lt hlg).trans HL6.out)
        go_upto_region 8 with fail
        refine wp_region_any (by kernel_rfl) (wpAny_of_held (S := fun W => W.cell? ⟨lb, 0, none⟩ = some (.string s)) _ _ _ _ ?_)
        have hH : w6.drew.cell? ⟨lb, 0, none⟩ = some (.string s) := (HLW.out _ Px.refl.drew).cell 0
        refine takeH (i := 0) (v := ?_) rfl (by kernel_rfl) (by kernel_rfl) (by kernel_rfl) (fun _ _ _ h => h) (Or.inl ⟨by rfl, ?_⟩) hH ?_
        rotate_left
        · (intro w hSw; (try dsimp only at hSw); go_simp; try with_reducible rfl)
        simp only [Act.put, List.setIfInBounds_toArray, List.set_cons_zero, List.set_cons_succ]
        refine takeH (i := 1) (v := ?_) rfl (by kernel_rfl) (by kernel_rfl) (by kernel_rfl) (fun _ _ _ h => h) (Or.inl ⟨by rfl, ?_⟩) hH ?_
        rotate_left
        · (intro w hSw; (try dsimp only at hSw); go_simp; try with_reducible rfl)
        simp only [Act.put, List.setIfInBounds_toArray, List.set_cons_zero, List.set_cons_succ]
        refine takeH (i := 2) (v := ?_) rfl (by kernel_rfl) (by kernel_rfl) (by kernel_rfl) (fun _ _ _ h => h) (Or.inl ⟨by rfl, ?_⟩) hH ?_
        rotate_left
        · (intro w hSw; (try dsimp only at hSw); go_simp; try with_reducible rfl)
        simp only [Act.put, List.setIfInBounds_toArray, List.set_cons_zero, List.set_cons_succ]
        refine oneH (i := 3) rfl (by kernel_rfl) (fun K hK => ?_)
        go_simp
        go_at_call 15
        refine HV6.out.mono ?_
        cases x with
        | error f =>
          rintro e w7 ⟨rfl, hx⟩
          rw [show r = .error f from HR3.out]
          exact ⟨rfl, rfl, HX6.out.trans (Px.refl.drew.trans hx)⟩
        | ok p =>
          obtain ⟨d, q⟩ := p
          rintro e w7 ⟨⟨ra, rc, ra', rc', rfl, hP7⟩, hR7, hX7⟩
          have hX8 := Px.refl.drew.trans hX7
          have hXX := HX6.out.trans hX8
          have hP8 : PZ w.heap.size none w7 m d ra rc ra' rc' := hP7.turn (Nat.le_refl _) (fun k k1 k2 _ => ⟨rfl, by have := HX6.out.size; have : w6.heap.size ≤ k := k1; omega, by simp⟩)
          obtain ⟨xs, ho, hf⟩ := HO.out
          refine hK.out _ _ ((HLW.out _ hX8).cell 0) (fun hH => ?_)
          clear hK K
          unfold datV datCs
          refine takeH (i := 4) (v := ?_) rfl (by kernel_rfl) (by kernel_rfl) (by kernel_rfl) (fun _ _ _ h => h) (Or.inl ⟨by rfl, ?_⟩) hH ?_
          rotate_left
          · (intro w hSw; (try dsimp only at hSw); go_simp; try with_reducible rfl)
          simp only [Act.put, List.setIfInBounds_toArray, List.set_cons_zero, List.set_cons_succ]
          refine oneH (i := 5) rfl (by kernel_rfl) (fun K hK => ?_)
          go_simp
          refine hK.out _ _ ((HLW.out _ (hX8.alloc _)).cell 0) (fun hH => ?_)
          clear hK K
          refine oneH (i := 6) rfl (by kernel_rfl) (fun K hK => ?_)
          refine step_append_lies _ rfl (.tmp 25) (.tmp 30) _ rfl b0 50 i1 (.agg #[.string ⟨#[]⟩, .int .i64 0, .int .i64 0, .string ⟨#[]⟩, .slice none 0 0, .slice none 0 0]) 6 96 Tryd.underlying25 hi1 hy0 hy1 hy2 rfl (by omega) u l.length xs rfl ((own_px ho hXX hg).alloc _) ⟨w7.heap.size, 0, none⟩ 1 1 (.string s :: datCs d ra rc ra' rc') rfl rfl (World.news_of_block (heap_alloc_new _ _)) memCs_one (by omega) (by unfold maxLen; omega) (by omega) (by have := hXX.size; simp; omega) _ rfl ?_
          intro gn cap w8 o1 o2 o3 o4
          have HFIN := hide (mem_fin hg hb0 ho hf rfl hXX hR7 hP8 ((Below.refl _ _).alloc (Nat.le_refl _) _) o1 o2 o3)
          have hlo : some lb ≠ u.ownBlock := fun e => by have := (ho.lt lb e.symm).2; omega
          refine hK.out _ _ ((Row.grown (Row.alloc (HLW.out _ hX8) _) o2 hlo).cell 0) (fun hH => ?_)
          clear hK K o1 o2 o3 o4 hP7 hP8 hX7 hX8 hXX ho hf
          refine oneH (i := 7) rfl (by kernel_rfl) (fun K hK => ?_)
          go_simp
          refine hK.out _ _ hH (fun hH => ?_)
          clear hK K
          refine wpAnyH_done (by kernel_rfl) ?_ _
          go_wp2_with fail
          go_ret
          rw [show r = .ok (l ++ [(s, d)], q) from HR3.out]
          exact ⟨_, rfl, HFIN.out⟩
end Go.Proofs.YtmmbbndoimleaaaDoor
