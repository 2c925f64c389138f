/- Edits as plain data, memory that reads as a list of edits, and what Check, Shift, Apply and Invert compute of them. -/
import Derived.Test.YtbfgnafpianliaaRows
import Derived.Test.YtbfgnafpianliaaMem
namespace Go.Proofs.Ytbfgnafpianliaa
open Go.RowKit

theorem drew2 (w : World) (m n : Nat) : ∃ k, (w.drewN m).drewN n = w.drewN k := ⟨_, World.drewN_drewN _ _ _⟩
theorem below_al {w wr : World} (h : Below w.heap.size w wr) (o : Obj) : Below w.heap.size w (wr.alloc o) := h.alloc h.size o

structure Ed where
  fr : Int
  to : Int
  tx : ByteArray

/-- From the address on lie these edits, three cells each, in a block below B. -/
def EdsAt (w : World) (B : Nat) (A : Option Addr) (es : List Ed) : Prop :=
  ∀ i e, es[i]? = some e → ∃ ad, A = some ad ∧ ad.block < B ∧ w.cell? (ad.add (i * 3)) = some (.int .i64 e.fr) ∧
    w.cell? ⟨(ad.add (i * 3)).block, (ad.add (i * 3)).off + 1, none⟩ = some (.int .i64 e.to) ∧ w.cell? ⟨(ad.add (i * 3)).block, (ad.add (i * 3)).off + 2, none⟩ = some (.string e.tx)

/-- The value is a slice of edits that reads as this list. -/
def Eds (w : World) (B : Nat) (v : Value) (es : List Ed) : Prop :=
  ∃ A c, v = .slice A es.length c ∧ es.length ≤ c ∧ c ≤ maxLen ∧ EdsAt w B A es

section
variable {w w' : World} {B B' : Nat} {A : Option Addr} {es : List Ed} {v : Value}
theorem EdsAt.same (h : EdsAt w B A es) (hs : Same B w w') : EdsAt w' B A es := fun i e he => by
  obtain ⟨ad, ha, hb, h1, h2, h3⟩ := h i e he
  have hb' : (ad.add (i * 3)).block < B := by rw [block_of_add]; exact hb
  exact ⟨ad, ha, hb, (hs.cell hb').trans h1, (hs.cell (p := ⟨_, _, none⟩) hb').trans h2, (hs.cell (p := ⟨_, _, none⟩) hb').trans h3⟩
theorem EdsAt.more (h : EdsAt w B A es) (hB : B ≤ B') : EdsAt w B' A es := fun i e he => by
  obtain ⟨ad, ha, hb, h1, h2, h3⟩ := h i e he
  exact ⟨ad, ha, by omega, h1, h2, h3⟩
theorem EdsAt.nil : EdsAt w B A [] := fun i e he => by simp at he
/-- The cells of the i-th edit, read in a world that is the same below B. -/
theorem EdsAt.get (h : EdsAt w B A es) (hs : Same B w w') {i : Nat} (hi : i < es.length) : ∃ ad, A = some ad ∧ ad.block < B ∧ w'.cell? (ad.add (i * 3)) = some (.int .i64 es[i].fr) ∧
    w'.cell? ⟨(ad.add (i * 3)).block, (ad.add (i * 3)).off + 1, none⟩ = some (.int .i64 es[i].to) ∧ w'.cell? ⟨(ad.add (i * 3)).block, (ad.add (i * 3)).off + 2, none⟩ = some (.string es[i].tx) :=
  h.same hs i _ (List.getElem?_eq_getElem hi)
theorem Eds.same (h : Eds w B v es) (hs : Same B w w') : Eds w' B v es := by
  obtain ⟨A, c, e, h1, h2, h3⟩ := h; exact ⟨A, c, e, h1, h2, h3.same hs⟩
theorem Eds.more (h : Eds w B v es) (hB : B ≤ B') : Eds w B' v es := by
  obtain ⟨A, c, e, h1, h2, h3⟩ := h; exact ⟨A, c, e, h1, h2, h3.more hB⟩
theorem Eds.nil : Eds w B (.slice none 0 0) [] := ⟨none, 0, rfl, by simp, by simp [maxLen], EdsAt.nil⟩
end

theorem drop_at {α : Type} {l : List α} {k : Nat} (h : k < l.length) : l.drop k = l[k] :: l.drop (k + 1) := List.drop_eq_getElem_cons h

/-- All edits replace bytes from 0 up to n. -/
def insideP (n : Int) : List Ed → Bool
  | [] => true
  | e :: l => if e.fr < 0 ∨ e.to < e.fr ∨ n < e.to then false else insideP n l
/-- Each edit's From is at least the To of the one before. -/
def orderedQ : Int → List Ed → Bool
  | _, [] => true
  | p, e :: l => if e.fr < p then false else orderedQ e.to l
def orderedP : List Ed → Bool
  | [] => true
  | e :: l => orderedQ e.to l
def possibleP : Int → List Ed → Bool
  | _, [] => true
  | p, e :: l => if e.fr < p ∨ e.to < e.fr then false else possibleP e.to l
def checkP (n : Int) (es : List Ed) : Int := if insideP n es = false then 1 else if orderedP es = false then 6 else 0

/-- Each edit lies behind the one before, within n bytes, from p on. -/
def Chain (n : Int) : Int → List Ed → Prop
  | p, [] => p ≤ n
  | p, e :: l => p ≤ e.fr ∧ e.fr ≤ e.to ∧ e.to ≤ n ∧ Chain n e.to l

theorem chain_of_q {n : Int} : ∀ {es : List Ed} {p : Int}, insideP n es = true → orderedQ p es = true → p ≤ n → Chain n p es
  | [], _, _, _, hp => hp
  | e :: l, p, hi, ho, hp => by
    unfold insideP at hi
    unfold orderedQ at ho
    split at hi
    · cases hi
    · split at ho
      · cases ho
      · exact ⟨by omega, by omega, by omega, chain_of_q hi ho (by omega)⟩
theorem chain_of {n : Int} {es : List Ed} (hn : 0 ≤ n) (hi : insideP n es = true) (ho : orderedP es = true) : Chain n 0 es := by
  cases es with
  | nil => exact hn
  | cons e l =>
    unfold insideP at hi
    split at hi
    · cases hi
    · exact ⟨by omega, by omega, by omega, chain_of_q hi ho (by omega)⟩
theorem chain_of_check {n : Int} {es : List Ed} (hn : 0 ≤ n) (h : checkP n es = 0) : Chain n 0 es := by
  unfold checkP at h
  split at h
  · simp at h
  · split at h
    · simp at h
    · exact chain_of hn (by simp_all) (by simp_all)
theorem inside_of_chain {n : Int} : ∀ {es : List Ed} {p : Int}, 0 ≤ p → Chain n p es → insideP n es = true ∧ orderedQ p es = true
  | [], _, _, _ => ⟨rfl, rfl⟩
  | e :: l, p, hp, h => by
    obtain ⟨h1, h2, h3, h4⟩ := h
    obtain ⟨a, b⟩ := inside_of_chain (by omega) h4
    unfold insideP orderedQ
    rw [if_neg (by omega), if_neg (by omega)]
    exact ⟨a, b⟩
theorem orderedP_of_q {es : List Ed} {p : Int} (h : orderedQ p es = true) : orderedP es = true := by
  cases es with
  | nil => rfl
  | cons e l =>
    unfold orderedQ at h
    split at h
    · cases h
    · exact h
theorem check_of_chain {n : Int} {es : List Ed} (h : Chain n 0 es) : checkP n es = 0 := by
  obtain ⟨a, b⟩ := inside_of_chain (Int.le_refl 0) h
  simp [checkP, a, orderedP_of_q b]
theorem Chain.le {n : Int} : ∀ {es : List Ed} {p : Int}, Chain n p es → p ≤ n
  | [], _, h => h
  | _ :: _, _, ⟨h1, h2, h3, _⟩ => by omega

/-- possible's test is that all edits lie in range and in order. -/
theorem possible_iff {n : Int} : ∀ {es : List Ed} {p : Int}, 0 ≤ p → (∀ e ∈ es, e.to ≤ n) → possibleP p es = (insideP n es && orderedQ p es)
  | [], _, _, _ => rfl
  | e :: l, p, hp, h => by
    unfold possibleP insideP orderedQ
    have he := h e (by simp)
    by_cases h1 : e.fr < p
    · rw [if_pos (Or.inl h1), if_pos h1]; simp
    · by_cases h2 : e.to < e.fr
      · rw [if_pos (Or.inr h2), if_pos (Or.inr (Or.inl h2))]; simp
      · rw [if_neg (by omega), if_neg (by omega), if_neg h1]
        exact possible_iff (by omega) fun e he => h e (by simp [he])

/-- What an edit adds to the length. -/
def chg (e : Ed) : Int := e.tx.size - (e.to - e.fr)
def sizeP : Int → List Ed → Int
  | n, [] => n
  | n, e :: l => sizeP (n + chg e) l
/-- The edited text from offset p on, laid behind out. -/
def joinP (s : ByteArray) : ByteArray → Nat → List Ed → ByteArray
  | out, p, [] => out ++ s.extract p s.size
  | out, p, e :: l => joinP s (out ++ s.extract p e.fr.toNat ++ e.tx) e.to.toNat l
def applyP (s : ByteArray) (es : List Ed) : ByteArray × Int :=
  if checkP s.size es ≠ 0 then (ByteArray.empty, checkP s.size es)
  else if 65536 < sizeP s.size es then (ByteArray.empty, 2) else (joinP s ByteArray.empty 0 es, 0)
/-- The loop of Shift. -/
def shiftL (at' : Int) : Int → List Ed → Int
  | c, [] => at' + c
  | c, e :: l => if e.to ≤ at' then shiftL at' (c + chg e) l else if e.fr ≤ at' then e.fr + c else shiftL at' c l
def shiftP (at' : Int) (es : List Ed) : Int := if at' < 0 ∨ 2147483647 < at' ∨ possibleP 0 es = false then at' else shiftL at' 0 es
/-- The loop of Invert. -/
def invL (s : ByteArray) : Int → List Ed → List Ed
  | _, [] => []
  | c, e :: l => ⟨e.fr + c, e.fr + c + e.tx.size, s.extract e.fr.toNat e.to.toNat⟩ :: invL s (c + chg e) l
def invertP (s : ByteArray) (es : List Ed) : List Ed × Int :=
  if (applyP s es).2 ≠ 0 then ([], (applyP s es).2) else (invL s 0 es, 0)

/-- A list of edits that is no trouble to add up. -/
def Fit (es : List Ed) : Prop := es.length ≤ 10000 ∧ ∀ e ∈ es, e.tx.size ≤ 1000000000
theorem Fit.at_ {es : List Ed} (h : Fit es) {k : Nat} (hk : k < es.length) : es[k].tx.size ≤ 1000000000 := h.2 _ (List.getElem_mem hk)
end Go.Proofs.Ytbfgnafpianliaa
