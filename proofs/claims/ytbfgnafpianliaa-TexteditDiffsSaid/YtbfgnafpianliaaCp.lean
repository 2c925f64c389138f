/- A law for copy from a string into a row of bytes, and the row's words. -/
import Derived.Test.YtbfgnafpianliaaSh
import Derived.Lib.BufferWrite
import Derived.Laws.IdiomStrings
import Derived.Deep.RegionLaw
namespace Go.Proofs.Ytbfgnafpianliaa
open Go.RowKit

/-- Block g holds these bytes. -/
def RowB (w : World) (g : Nat) (t : TypeId) (L : List UInt8) : Prop := Row w g t (Lib.byteCells L)
/-- The bytes L with these laid over from place off on. -/
def putB (L : List UInt8) (off : Nat) (s : ByteArray) : List UInt8 := L.take off ++ (s.data.toList ++ L.drop (off + s.size))
theorem size_data (s : ByteArray) : s.data.toList.length = s.size := (Lib.size_eq s).symm
theorem length_putB {L : List UInt8} {off : Nat} {s : ByteArray} (h : off + s.size ≤ L.length) : (putB L off s).length = L.length := by
  simp [putB]
  omega
theorem take_putB {L : List UInt8} {off : Nat} {s : ByteArray} (h : off + s.size ≤ L.length) : (putB L off s).take (off + s.size) = L.take off ++ s.data.toList := by
  have h0 : off ≤ L.length := by omega
  have h1 : (L.take off).length = off := by simp; omega
  rw [putB, ← List.append_assoc, List.take_append_of_le_length (by simp; omega), List.take_of_length_le (by simp; omega)]
theorem append_data (a b : ByteArray) : (a ++ b).data.toList = a.data.toList ++ b.data.toList := by simp
theorem size_append (a b : ByteArray) : (a ++ b).size = a.size + b.size := by simp
theorem take_putB' {L : List UInt8} {out s : ByteArray} (h : out.size + s.size ≤ L.length) (hL : L.take out.size = out.data.toList) : (putB L out.size s).take (out ++ s).size = (out ++ s).data.toList := by
  rw [append_data, size_append, take_putB h, hL]

theorem wpList_copy_str {P : Program} {w : World} {ops : Array Oper} {rest : List Oper} {o : Oper} {a : Act} {Q : Exit → Act → World → Prop} (hgd : o.guard = none) (d s : Operand) (dT sT : TypeId)
    (ho : o.op = .call { callee := .builtin .copy, args := #[d, s], argTypes := #[dT, sT] }) (elem : TypeId) (hu : P.underlying dT = some (.slice elem)) (hsz : (P.info? elem).map (·.size) = some 1)
    (g off : Nat) (L : List UInt8) (t : ByteArray) (ty : TypeId) (hg : RowB w g ty L) (hfit : off + t.size ≤ L.length)
    (dp : Option Addr) (dLen dCap : Nat) (hd : a.eval d = .slice dp dLen dCap) (hs : a.eval s = .string t) (hle : t.size ≤ dLen)
    (hpos : 0 < t.size → dp = some ⟨g, off, none⟩)
    (h : ∀ w', Hid (RowB w' g ty (putB L off t)) → Hid (w.grownBy w' (some g)) → wpList P ops Q rest (a.put o.dst (.int .i64 t.size)) w') :
    wpList P ops Q (o :: rest) a w := by
  refine wpList_plain hgd fun K hK => ?_
  by_cases h0 : t.size = 0
  · have hrun := Lib.run_copy_empty_string (P := P) w dT sT o.type elem dp dLen dCap t hu (by rw [Option.map_eq_some_iff] at hsz; obtain ⟨i, hi, _⟩ := hsz; simp [hi]) h0
    unfold Oper.wp
    simp [execOp, ho, resolve, invoke, builtin, hd, hs, hrun, Result.andThen]
    refine hK _ _ ?_
    have := h w (hide (by
      unfold putB
      have he : t.data.toList = [] := List.eq_nil_of_length_eq_zero (by rw [size_data]; exact h0)
      rw [he, h0]; simpa using hg)) (hide ⟨rfl, rfl, rfl, Nat.le_refl _, fun _ _ _ => rfl⟩)
    rw [h0] at this
    exact this
  · obtain rfl := hpos (by omega)
    have hrun := Lib.run_copy_row_string (P := P) w dT sT o.type elem g off dLen dCap t (Lib.byteCells L).toArray ty hu hsz hg hle (by simpa [Lib.byteCells] using hfit)
    unfold Oper.wp
    simp [execOp, ho, resolve, invoke, builtin, hd, hs, hrun, Result.andThen]
    refine hK _ _ (h _ (hide ?_) (hide ?_))
    · unfold RowB Row
      rw [setRow_heap w g _ _ ty _ hg]
      simp [Lib.byteCells, putB]
    · exact ⟨rfl, rfl, rfl, by simp, fun k _ hne => setRow_other w g k _ (fun e => hne (by rw [e]))⟩

/-- The same as one step of a region that draws its order. -/
theorem step_copy_str {P : Program} {ops : Array Oper} {o : Oper} {a : Act} {w : World} {K : Act → World → Prop} {Q : Exit → Act → World → Prop} {E : Prop} (hgd : o.guard = none) (d s : Operand) (dT sT : TypeId)
    (ho : o.op = .call { callee := .builtin .copy, args := #[d, s], argTypes := #[dT, sT] }) (elem : TypeId) (hu : P.underlying dT = some (.slice elem)) (hsz : (P.info? elem).map (·.size) = some 1)
    (g off : Nat) (L : List UInt8) (t : ByteArray) (ty : TypeId) (hg : RowB w g ty L) (hfit : off + t.size ≤ L.length)
    (dp : Option Addr) (dLen dCap : Nat) (hd : a.eval d = .slice dp dLen dCap) (hs : a.eval s = .string t) (hle : t.size ≤ dLen)
    (hpos : 0 < t.size → dp = some ⟨g, off, none⟩)
    (h : ∀ w', Hid (RowB w' g ty (putB L off t)) → Hid (w.grownBy w' (some g)) → K (a.put o.dst (.int .i64 t.size)) w') :
    if Region.wanted o (yielded ops a.tmps) = true then Oper.wp P o a w K Q else E := by
  have hw : Region.wanted o (yielded ops a.tmps) = true := by simp [Region.wanted, hgd]
  rw [if_pos hw]
  by_cases h0 : t.size = 0
  · have hrun := Lib.run_copy_empty_string (P := P) w dT sT o.type elem dp dLen dCap t hu (by rw [Option.map_eq_some_iff] at hsz; obtain ⟨i, hi, _⟩ := hsz; simp [hi]) h0
    unfold Oper.wp
    simp [execOp, ho, resolve, invoke, builtin, hd, hs, hrun, Result.andThen]
    have := h w (hide (by
      unfold putB
      have he : t.data.toList = [] := List.eq_nil_of_length_eq_zero (by rw [size_data]; exact h0)
      rw [he, h0]; simpa using hg)) (hide ⟨rfl, rfl, rfl, Nat.le_refl _, fun _ _ _ => rfl⟩)
    rw [h0] at this
    exact this
  · obtain rfl := hpos (by omega)
    have hrun := Lib.run_copy_row_string (P := P) w dT sT o.type elem g off dLen dCap t (Lib.byteCells L).toArray ty hu hsz hg hle (by simpa [Lib.byteCells] using hfit)
    unfold Oper.wp
    simp [execOp, ho, resolve, invoke, builtin, hd, hs, hrun, Result.andThen]
    refine h _ (hide ?_) (hide ?_)
    · unfold RowB Row
      rw [setRow_heap w g _ _ ty _ hg]
      simp [Lib.byteCells, putB]
    · exact ⟨rfl, rfl, rfl, by simp, fun k _ hne => setRow_other w g k _ (fun e => hne (by rw [e]))⟩

theorem RowB.grown {w w' : World} {g : Nat} {t : TypeId} {L : List UInt8} {row : Option Nat} (h : RowB w g t L) (hb : w.grownBy w' row) (hg : some g ≠ row) : RowB w' g t L := Row.grown h hb hg
theorem RowB.alloc {w : World} {g : Nat} {t : TypeId} {L : List UInt8} (h : RowB w g t L) (o : Obj) : RowB (w.alloc o) g t L := Row.alloc h o
theorem RowB.lt {w : World} {g : Nat} {t : TypeId} {L : List UInt8} (h : RowB w g t L) : g < w.heap.size := Row.lt h
theorem RowB.made (w : World) (t : TypeId) (n : Nat) : RowB (w.alloc (.cells (madeCells #[.int .u8 0] n) t)) w.heap.size t (List.replicate n 0) := by
  have := Row.made w t (.int .u8 0) n
  unfold RowB Lib.byteCells
  simpa using this
theorem RowB.cell {w : World} {g : Nat} {t : TypeId} {L : List UInt8} (h : RowB w g t L) {i : Nat} (hi : i < L.length) : w.cell? ⟨g, i, none⟩ = some (.int .u8 (L[i].toNat : Int)) := by
  rw [Row.cell h]
  simp [Lib.byteCells, hi]
end Go.Proofs.Ytbfgnafpianliaa
