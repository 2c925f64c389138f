/- strconv.FormatUint at base 10; Arguments that read as data, opened to the words of the walks; The table of powers of ten as the row lays it; a witness world; Text of package fixed; Package quote: letter, escape; The iterator of package quote: pieces; Quote of package quote; Ident and Label of package quote; The text of data: what it is, how long, and Label, join; size, short and Small of the reference; short and Small of the reference; measure, Depth and Size; depth, Depth and Size of the reference. -/
import Derived.Test.YtmmbbndoimleaaaDoorGAA
import Derived.Lib.AppendIntMem
import Derived.Test.YtmmbbndoimleaaaDoorRows
import Derived.ProofKit
import Derived.OpenShut
import Derived.ShutString
import Derived.ChangeOld
import Derived.Deep.Slices
import Derived.Deep.Strs
import Derived.Lib.LaidTab
import Derived.Lib.LaidIn
import Derived.RangeFuncNested
import Derived.RangeFuncBound
import Derived.RangeFuncCalls
import Derived.RangeFuncLeaves
import Derived.RangeFuncBox
import Derived.RangeFuncFrom
import Derived.OwnWalkIn
import Derived.TacticsInMore
import Derived.LoopNIn
import Derived.LoopIn
import Derived.Lib.AppendStr

/- strconv.FormatUint at base 10. -/
namespace Go.Proofs.YtmmbbndoimleaaaDoor
open Go.RowKit

/-- The table of powers of ten lies as start-up laid it. -/
def Tab (w : World) : Prop := Lib.TabIs Tryd.prog w "internal/strconv.uint64pow10" .u64 Lib.pow10Tab
def decB (u : Nat) : ByteArray := ⟨(Lib.decDigits u).toArray⟩

theorem small_run (i : Nat) (h : i < 100) (w : World) : Calls Tryd.prog 88 #[.int .i64 i] w fun e w' => e = .returned (.string (decB i)) ∧ w' = w :=
  Any.internal_strconv_small smallL i h w
theorem numDigits_run (u : Nat) (h1 : 1 ≤ u) (h2 : u < 18446744073709551616) (w : World) (ht : Tab w) :
    Calls Tryd.prog 89 #[.int .u64 u] w fun e w' => e = .returned (.int .i64 (Lib.nDigits u)) ∧ w' = w :=
  Any.internal_strconv_numDigits digitsL u h1 h2 w ht

set_option maxRecDepth 20000 in
set_option maxHeartbeats 2000000 in
theorem fmtUint_run (u : Nat) (hu : u < 1000000000000000000) (w : World) (ht : Tab w) :
    Calls Tryd.prog 84 #[.int .u64 u, .int .i64 10] w fun e w' => e = .returned (.string (decB u)) ∧ Below w.heap.size w w' := by
  by_cases hs : u < 100
  · have HS := hide fun w => small_run u hs w
    have g1 : decide ((u : Int) < 100) = true := by simp; omega
    clear ht
    go_enter Tryd.func84, Tryd.ntmps84
    go_wp2_with fail
    refine (HS.out _).mono ?_; rintro e w' ⟨rfl, rfl⟩
    go_wp2_with fail
    go_ret
    exact ⟨rfl, Below.refl _ _⟩
  · have hu1 : 1 ≤ u := by omega
    have hu64 : u < 18446744073709551616 := by omega
    have hnd20 : Lib.nDigits u ≤ 20 := by have := Lib.numDigits_eq u hu1 hu64; split at this <;> omega
    have g1 : decide ((u : Int) < 100) = false := by simp; omega
    have hH0 := Lib.holds_zero0 w 117 (Lib.nDigits u) (by omega)
    have HFM := hide fun W (h : W = w.alloc (.cells Lib.zeros24 117)) => show Calls Tryd.prog 90 #[.slice (some ⟨w.heap.size, 0, none⟩) (Lib.nDigits u) 24, .int .u64 u] W fun e w' =>
        e = .returned (.tuple #[]) ∧ ∃ (n v' : Nat) (dk : Array UInt8), w' = (Sort.putRow (fun (b : UInt8) => Value.int .u8 (b.toNat : Int)) W w.heap.size 0 dk).drewN n ∧ Lib.FmtInv (Lib.nDigits u) u 0 v' dk from by
      subst h
      have := Any.internal_strconv_formatBase10 base10L w.heap.size 0 24 u (Array.replicate (Lib.nDigits u) 0) (w.alloc (.cells Lib.zeros24 117)) hH0 (by rw [Array.size_replicate]; exact Lib.lt_pow_nDigits u) hu64 (by rw [Array.size_replicate]; omega)
      rw [Array.size_replicate] at this
      exact this
    have HND := hide fun w' (h : Tab w') => numDigits_run u hu1 hu64 w' h
    have HT := hide (Lib.tabIs_alloc ht (.cells Lib.zeros24 117))
    obtain ⟨nd, hnd⟩ : ∃ nd, nd = Lib.nDigits u := ⟨_, rfl⟩
    rw [← hnd] at HFM hnd20 hH0
    rw [← hnd] at HND
    have HN := Lib.hid hnd; have HH0 := Lib.hid hH0
    clear hH0 hnd ht
    go_enter Tryd.func84, Tryd.ntmps84
    go_wp2_with fail
    refine (HND.out _ HT.out).mono ?_; rintro e w1 ⟨rfl, rfl⟩
    have hal : Tryd.prog.arrayLen 117 = 24 := by simp [Program.arrayLen, Tryd.underlying117]
    have hsl : ∀ W, (Instr.sliceAt 117 (.pointer (some ⟨w.heap.size, 0, none⟩)) none (some (.int .i64 (nd : Int))) none).run Tryd.prog W = .ok (.slice (some ⟨w.heap.size, 0, none⟩) nd 24) W := fun W => by
      rw [run_sliceAt_array_h W 117 ⟨w.heap.size, 0, none⟩ (by simp [Program.arrayLen, Program.elem, Tryd.underlying117]) .i64 (nd : Int) (by omega) (by rw [hal]; omega)]
      go_simp
    clear hal
    go_wp2_with fail
    refine (HFM.out _ rfl).mono ?_
    rintro e w2 ⟨rfl, k, v', dk, hw2, hF⟩
    have hcv : (convert 23 9 (.slice (some ⟨w.heap.size, 0, none⟩) nd 24)).run Tryd.prog w2 = .ok (.string (decB u)) w2 := by
      have h := run_convert_bytes_back (P := Tryd.prog) w2 23 9 5 ⟨w.heap.size, 0, none⟩ 24 (Lib.decDigits u) Tryd.underlying23 Tryd.underlying5 Tryd.underlying9 (fun j hj => by
        have hF' := hF
        rw [HN.out] at hF'
        rw [Lib.row_is_numeral hF' j hj, Lib.add_plain, hw2, World.cell?_drewN]
        exact Sort.cell?_putRow (fun (b : UInt8) => Value.int .u8 (b.toNat : Int)) _ w.heap.size 0 _ dk HH0.out (by rw [hF.size, Array.size_replicate]) j (by rw [hF.size, HN.out]; rw [Lib.decDigits_length] at hj; exact hj))
      rw [Lib.decDigits_length, ← HN.out] at h
      exact h
    have HBL := hide (show Below w.heap.size w w2 from by
      obtain ⟨os, eo⟩ := Lib.fin_at w (.cells Lib.zeros24 117) dk k 0
      rw [hw2]
      exact eo ▸ Lib.below_grow w.heap.size w (Nat.le_refl _) k os)
    clear hw2 hF HFM HND
    go_wp2_with fail
    go_ret
    exact ⟨rfl, HBL.out⟩

theorem FormatUint_run (u : Nat) (hu : u < 1000000000000000000) (w : World) (ht : Tab w) :
    Calls Tryd.prog 74 #[.int .u64 u, .int .i64 10] w fun e w' => e = .returned (.string (decB u)) ∧ Below w.heap.size w w' := by
  have HF := hide (fmtUint_run u hu w ht)
  clear ht
  go_enter Tryd.func74, Tryd.ntmps74
  go_wp2_with fail
  refine (unhide HF).mono ?_; rintro e w' ⟨rfl, hB⟩
  go_wp2_with fail
  go_ret
  exact ⟨rfl, hB⟩
end Go.Proofs.YtmmbbndoimleaaaDoor

/- Arguments that read as data, opened to the words of the walks. -/
namespace Go.Proofs.YtmmbbndoimleaaaDoor
open Go.ChangeShapes Go.WideShapes Go.ChangeAt Go.RowKit Go.Deep

theorem ownK : ownKnob Tryd.prog.godebug = none := by kernel_rfl
theorem laidOut : laidOutB Tryd.prog = true := by kernel_rfl
theorem cellsData : Tryd.prog.cellsOf 27 = 5 := by kernel_rfl
theorem cellsMember : Tryd.prog.cellsOf 50 = 6 := by kernel_rfl
theorem cellsInt : Tryd.prog.cellsOf 3 = 1 := by kernel_rfl
theorem cellsInt64 : Tryd.prog.cellsOf 2 = 1 := by kernel_rfl
theorem cellsString : Tryd.prog.cellsOf 9 = 1 := by kernel_rfl
theorem cellsDatas : Tryd.prog.cellsOf 24 = 1 := by kernel_rfl
theorem cellsMembers : Tryd.prog.cellsOf 25 = 1 := by kernel_rfl

theorem cells_get {w : World} {base n : Nat} {p : Addr} {cs : List Value} (h : w.cells? base p n = some cs) : cs.length = n ∧ ∀ i, i < n → w.cell? (p.add i) = cs[i]? := by
  unfold World.cells? at h
  split at h
  · refine ⟨by have := mapM_some_length h; simpa using this, fun i hi => mapM_some_get h i i (by simp [hi])⟩
  · cases h
theorem add_pos (p : Addr) (k : Nat) (hk : 0 < k) : p.add k = ⟨p.block, p.off + k, none⟩ := by unfold Addr.add; rw [if_neg (by omega)]

section
variable {H : Type} {enc : TypeId × Value → H} {P : Program} {w : World} {base : Nat} {spare : Nat → Bool} {held : Bool}
theorem trod_five {t : TypeId} {f0 f1 f2 f3 f4 : Field} {fuel : Nat} {cs : List Value} {x : DataW H × List MemPlace} (ht : P.underlying t = some (.struct #[f0, f1, f2, f3, f4])) (h : DataW.trod enc P w base spare held fuel t cs = some x) :
    ∃ y0 y1 y2 y3 y4 n, fuel = n + 1 ∧ cs.length = P.cellsOf t ∧ DataW.trod enc P w base spare held n f0.type ((cs.drop f0.offset).take (P.cellsOf f0.type)) = some y0 ∧
      DataW.trod enc P w base spare held n f1.type ((cs.drop f1.offset).take (P.cellsOf f1.type)) = some y1 ∧ DataW.trod enc P w base spare held n f2.type ((cs.drop f2.offset).take (P.cellsOf f2.type)) = some y2 ∧
      DataW.trod enc P w base spare held n f3.type ((cs.drop f3.offset).take (P.cellsOf f3.type)) = some y3 ∧ DataW.trod enc P w base spare held n f4.type ((cs.drop f4.offset).take (P.cellsOf f4.type)) = some y4 := by
  obtain ⟨xs, n, hn, rfl, hl, hlen, hf⟩ := DataW.trod_struct ht h
  match xs, hlen with
  | [y0, y1, y2, y3, y4], _ => exact ⟨y0, y1, y2, y3, y4, n, hn, hl, by simpa using hf 0 f0 rfl, by simpa using hf 1 f1 rfl, by simpa using hf 2 f2 rfl, by simpa using hf 3 f3 rfl, by simpa using hf 4 f4 rfl⟩
theorem trod_two {t : TypeId} {f0 f1 : Field} {fuel : Nat} {cs : List Value} {x : DataW H × List MemPlace} (ht : P.underlying t = some (.struct #[f0, f1])) (h : DataW.trod enc P w base spare held fuel t cs = some x) :
    ∃ y0 y1 n, fuel = n + 1 ∧ cs.length = P.cellsOf t ∧ DataW.trod enc P w base spare held n f0.type ((cs.drop f0.offset).take (P.cellsOf f0.type)) = some y0 ∧
      DataW.trod enc P w base spare held n f1.type ((cs.drop f1.offset).take (P.cellsOf f1.type)) = some y1 := by
  obtain ⟨xs, n, hn, rfl, hl, hlen, hf⟩ := DataW.trod_struct ht h
  match xs, hlen with
  | [y0, y1], _ => exact ⟨y0, y1, n, hn, hl, by simpa using hf 0 f0 rfl, by simpa using hf 1 f1 rfl⟩
end
section
variable {H : Type} {enc : TypeId × Value → H} {W : World} {base : Nat} {spare : Nat → Bool} {held : Bool}

set_option maxRecDepth 20000 in
theorem dat_of_trod : ∀ (f : Nat) {cs : List Value} {x : DataW H × List MemPlace}, DataW.trod enc Tryd.prog W base spare held f 27 cs = some x → ∃ D a c a' c', cs = datCs D a c a' c' ∧ Parts W W.heap.size f D a c a' c' := by
  intro f
  induction f using Nat.strongRecOn with
  | ind f ih =>
    intro cs x h
    obtain ⟨x0, x1, x2, x3, x4, n, hfn, hl, f0, f1, f2, f3, f4⟩ := trod_five Tryd.underlying27 h
    rw [cellsData] at hl
    match cs, hl with
    | [u0, u1, u2, u3, u4], _ =>
      simp only [cellsInt, cellsInt64, cellsString, cellsDatas, cellsMembers] at f0 f1 f2 f3 f4
      obtain ⟨z0, e0, _⟩ := DataW.trod_int Tryd.underlying3 f0
      obtain ⟨z1, e1, _⟩ := DataW.trod_int Tryd.underlying2 f1
      obtain ⟨z2, e2, _⟩ := DataW.trod_string Tryd.underlying9 f2
      simp at e0 e1 e2
      subst e0 e1 e2
      have key3 : ∃ A c l, u3 = .slice A l.length c ∧ l.length ≤ c ∧ c ≤ maxLen ∧ DatsAt (Parts W W.heap.size n) W W.heap.size A l := by
        rcases DataW.trod_slice Tryd.underlying24 f3 with ⟨hcs, _⟩ | ⟨ad, len, cap, elems, rest, n', hn', hcs, _, _, hle, hm, hel, hget, _⟩
        · simp at hcs
          exact ⟨none, 0, [], by rw [hcs]; rfl, Nat.le_refl _, Nat.zero_le _, fun i x h => by simp at h⟩
        · simp at hcs
          have key : ∀ i, ∃ D, i < len → ∃ a c a' c', Five W (ad.add (i * 5)) D a c a' c' ∧ Parts W W.heap.size n' D a c a' c' := fun i => by
            by_cases hi : i < len
            · have hg := hget i hi
              rw [cellsData] at hg
              have hi' : i < elems.length := by omega
              rw [List.getElem?_eq_getElem hi', Option.bind_eq_some_iff] at hg
              obtain ⟨cs', hc, ht⟩ := hg
              obtain ⟨D, a, c, a', c', e, hp⟩ := ih n' (by omega) ht
              obtain ⟨_, hcell⟩ := cells_get hc
              refine ⟨D, fun _ => ⟨a, c, a', c', five_of (fun k => (ad.add (i * 5)).add k) rfl (fun k hk => add_pos _ _ hk) (fun k hk u hu => by rw [hcell k hk, e]; exact hu), hp⟩⟩
            · exact ⟨mkD 0 0 ByteArray.empty [] [], fun h => absurd h hi⟩
          obtain ⟨F, hF⟩ : ∃ F : Nat → Dt, ∀ i, i < len → ∃ a c a' c', Five W (ad.add (i * 5)) (F i) a c a' c' ∧ Parts W W.heap.size n' (F i) a c a' c' := ⟨fun i => Classical.choose (key i), fun i => Classical.choose_spec (key i)⟩
          refine ⟨some ad, cap, (List.range len).map F, by rw [hcs]; simp, by simpa using hle, hm, fun i x hx => ?_⟩
          have hlt : i < len := by have := (List.getElem?_eq_some_iff.1 hx).1; simpa using this
          simp [hlt] at hx
          subst hx
          obtain ⟨a, c, a', c', h5, hp⟩ := hF i hlt
          refine ⟨ad, rfl, ?_, a, c, a', c', h5, hp.le (by omega)⟩
          have := World.block_lt_of_cell? W _ h5.1
          rwa [block_of_add] at this
      have key4 : ∃ A c l, u4 = .slice A (List.length l) c ∧ l.length ≤ c ∧ c ≤ maxLen ∧ MemsAt (Parts W W.heap.size n) W W.heap.size A l := by
        rcases DataW.trod_slice Tryd.underlying25 f4 with ⟨hcs, _⟩ | ⟨ad, len, cap, elems, rest, n', hn', hcs, _, _, hle, hm, hel, hget, _⟩
        · simp at hcs
          exact ⟨none, 0, [], by rw [hcs]; rfl, Nat.le_refl _, Nat.zero_le _, fun i x h => by simp at h⟩
        · simp at hcs
          have key : ∀ i, ∃ M : ByteArray × Dt, i < len → W.cell? (ad.add (i * 6)) = some (.string M.1) ∧ ∃ a c a' c', Five W ⟨(ad.add (i * 6)).block, (ad.add (i * 6)).off + 1, none⟩ M.2 a c a' c' ∧ Parts W W.heap.size n' M.2 a c a' c' := fun i => by
            by_cases hi : i < len
            · have hg := hget i hi
              rw [cellsMember] at hg
              have hi' : i < elems.length := by omega
              rw [List.getElem?_eq_getElem hi', Option.bind_eq_some_iff] at hg
              obtain ⟨cs', hc, ht⟩ := hg
              obtain ⟨hcl, hcell⟩ := cells_get hc
              obtain ⟨t0, t1, n2, hn2, _, y0, y1⟩ := trod_two Tryd.underlying50 ht
              match cs', hcl with
              | v0 :: cs2, hcl =>
                simp only [cellsString, cellsData] at y0 y1
                obtain ⟨s0, e0, _⟩ := DataW.trod_string Tryd.underlying9 y0
                simp at e0
                subst e0
                have hc2 : cs2.length = 5 := by simpa using hcl
                have y1' : DataW.trod enc Tryd.prog W base spare held n2 27 cs2 = some t1 := by
                  have e : (cs2.take 5) = cs2 := List.take_of_length_le (by omega)
                  simpa [e] using y1
                obtain ⟨D, a, c, a', c', e, hp⟩ := ih n2 (by omega) y1'
                refine ⟨(s0, D), fun _ => ⟨hcell 0 (by omega), a, c, a', c', five_of (fun k => (ad.add (i * 6)).add (1 + k)) (add_pos _ 1 (by omega)) (fun k hk => by rw [add_pos _ _ (by omega)]; simp [Nat.add_assoc]) (fun k hk u hu => by
                  rw [hcell (1 + k) (by omega), Nat.add_comm, List.getElem?_cons_succ, e]; exact hu), hp.le (by omega)⟩⟩
            · exact ⟨(ByteArray.empty, mkD 0 0 ByteArray.empty [] []), fun h => absurd h hi⟩
          obtain ⟨F, hF⟩ : ∃ F : Nat → ByteArray × Dt, ∀ i, i < len → W.cell? (ad.add (i * 6)) = some (.string (F i).1) ∧ ∃ a c a' c', Five W ⟨(ad.add (i * 6)).block, (ad.add (i * 6)).off + 1, none⟩ (F i).2 a c a' c' ∧ Parts W W.heap.size n' (F i).2 a c a' c' := ⟨fun i => Classical.choose (key i), fun i => Classical.choose_spec (key i)⟩
          refine ⟨some ad, cap, (List.range len).map F, by rw [hcs]; simp, by simpa using hle, hm, fun i x hx => ?_⟩
          have hlt : i < len := by have := (List.getElem?_eq_some_iff.1 hx).1; simpa using this
          simp [hlt] at hx
          subst hx
          obtain ⟨h0, a, c, a', c', h5, hp⟩ := hF i hlt
          refine ⟨ad, rfl, ?_, h0, a, c, a', c', h5, hp.le (by omega)⟩
          have := World.block_lt_of_cell? W _ h0
          rwa [block_of_add] at this
      obtain ⟨A, c, IS, rfl, i1, i2, i3⟩ := key3
      obtain ⟨A', c', MS, rfl, m1, m2, m3⟩ := key4
      subst hfn
      exact ⟨mkD z0 z1 z2 IS MS, A, c, A', c', by unfold datCs; simp, ⟨i1, i2, by rw [mD_mk]; exact m1, m2⟩, i3, by rw [mD_mk]; exact m3⟩
set_option maxRecDepth 20000 in
theorem dat_of {r : Reach} {b0 : Nat} {v : Value} {d : DataW H} {p : List MemPlace} (hv : Value.okWide Tryd.prog W r b0 27 v) (h : DataW.Trod enc Tryd.prog W base spare held 27 v d p) :
    ∃ m D a c a' c', v = datV D a c a' c' ∧ Parts W W.heap.size m D a c a' c' := by
  obtain ⟨f, hf⟩ := h
  obtain ⟨D, a, c, a', c', e, hp⟩ := dat_of_trod f hf
  obtain ⟨xs, rfl, _⟩ := okWide_struct Tryd.underlying27 hv
  refine ⟨f, D, a, c, a', c', ?_, hp⟩
  have e' : xs.toList = datCs D a c a' c' := by simpa [Value.cells] using e
  unfold datV
  rw [← e', Array.toArray_toList]
end
theorem gT : Tryd.prog.globalNamed "internal/strconv.uint64pow10" = some 1 := by kernel_rfl
end Go.Proofs.YtmmbbndoimleaaaDoor

/- The table of powers of ten as the row lays it; a witness world. -/
namespace Go.Proofs.YtmmbbndoimleaaaDoor
open Go.ChangeShapes Go.WideShapes Go.ChangeAt Go.RowKit Go.Deep

theorem laid_tail {P : Program} {a : String × DataW Unit} {rest : List (String × DataW Unit)} {W : World} (h : laidMet P (a :: rest) W) : laidMet P rest W := by
  obtain ⟨ps, ⟨g, t, cs, fuel, p, q, _, _, _, _, hq, rfl⟩, hn, hr⟩ := h
  exact ⟨q, hq, (List.nodup_append.1 hn).2.1, fun b off hm => hr b off (List.mem_append_right _ hm)⟩
theorem gTen : Tryd.prog.globalNamed "internal/strconv.uint64pow10" = some 1 := by kernel_rfl
theorem gTenType : (Tryd.prog.globals[1]?).map (·.type) = some 124 := by kernel_rfl
theorem tab_of {W : World} (h : laidMetH Tryd.prog [("math/bits.deBruijn32tab", Rows.laid_math_bits_deBruijn32tab), ("math/bits.deBruijn64tab", Rows.laid_math_bits_deBruijn64tab), ("internal/strconv.uint64pow10", Rows.laid_internal_strconv_uint64pow10)] W) : Tab W := by
  have h' : laidMet Tryd.prog [("math/bits.deBruijn32tab", Rows.laid_math_bits_deBruijn32tab), ("math/bits.deBruijn64tab", Rows.laid_math_bits_deBruijn64tab), ("internal/strconv.uint64pow10", Rows.laid_internal_strconv_uint64pow10)] W := h
  have h2 : laidMet Tryd.prog [("internal/strconv.uint64pow10", Lib.tabData .u64 Lib.pow10Tab)] W := laid_tail (laid_tail h')
  exact Lib.tabIs_of_head gTen gTenType Tryd.underlying124 Tryd.underlying101 (by kernel_rfl) (by kernel_rfl) h2
abbrev LAID : List (String × DataW Unit) := [("math/bits.deBruijn32tab", Rows.laid_math_bits_deBruijn32tab), ("math/bits.deBruijn64tab", Rows.laid_math_bits_deBruijn64tab), ("internal/strconv.uint64pow10", Rows.laid_internal_strconv_uint64pow10)]
def numsOf : DataW Unit → Array Value
  | .agg l => (l.filterMap fun | .lit (.int k n) => some (Value.int k n) | _ => none).toArray
  | _ => #[]
/-- The settled world, the three tables laid. -/
noncomputable def laidWorld (os : Os) : World :=
  let w0 := World.holding Tryd.prog os ⟨#[], #[], []⟩
  let put := fun (a : Array Value) => fun
    | Obj.cells _ t frozen => Obj.cells a t frozen
    | o => o
  { w0 with heap := ((w0.heap.modify 1 (put (numsOf Rows.laid_internal_strconv_uint64pow10))).modify 3 (put (numsOf Rows.laid_math_bits_deBruijn64tab))).modify 2 (put (numsOf Rows.laid_math_bits_deBruijn32tab)) }
set_option maxRecDepth 100000 in
theorem laid_met (os : Os) (args : Array Value) : laidMetH Tryd.prog LAID ((laidWorld os).forCall (fun _ _ => 0) ⟨#[], args, []⟩).memory :=
  (LaidIn.of_run (l := LAID) [1, 2, 3] 8 (by kernel_rfl) (by kernel_rfl) (by kernel_rfl) (by kernel_rfl)).met
end Go.Proofs.YtmmbbndoimleaaaDoor

/- Text of package fixed. -/
namespace Go.Proofs.YtmmbbndoimleaaaDoor
open Go.RowKit

theorem size_u_run (u : Int) (h : validB u = true) (w : World) : Calls Tryd.prog 73 #[.int .i64 u] w fun e w' => e = .returned (.int .u64 (u.natAbs : Int)) ∧ w' = w := by
  have hv : -1000000000000000 ≤ u ∧ u ≤ 1000000000000000 := by
    unfold validB at h; simpa using h
  obtain ⟨h1, h2⟩ := hv
  by_cases hn : u < 0
  · have w1 : IntKind.i64.wrap (-u) = -u := IntWalk.i64_in _ (by omega)
    have w2 : IntKind.u64.wrap (-u) = -u := by rw [IntKind.wrap_u64]; omega
    have e1 : -u = (u.natAbs : Int) := by omega
    have HE := Lib.hid e1
    clear h e1
    go_enter Tryd.func73, Tryd.ntmps73
    go_wp2_with fail
    go_ret
    exact ⟨by rw [← HE.out]; rfl, rfl⟩
  · have w2 : IntKind.u64.wrap u = u := by rw [IntKind.wrap_u64]; omega
    have e1 : u = (u.natAbs : Int) := by omega
    have HE := Lib.hid e1
    clear h e1
    go_enter Tryd.func73, Tryd.ntmps73
    go_wp2_with fail
    go_ret
    exact ⟨by rw [← HE.out]; rfl, rfl⟩

/-- A text without the zeros at its end. -/
def trimF : Nat → ByteArray → ByteArray
  | 0, s => s
  | n + 1, s => if s.get! n = 48 then trimF n (s.extract 0 n) else s
def trimB (s : ByteArray) : ByteArray := trimF s.size s
def fracB (r : Nat) : ByteArray := trimB ((decB (r + 10000)).extract 1 (decB (r + 10000)).size)
def dotB (f : ByteArray) : ByteArray := if f.toList = [] then ByteArray.empty else ⟨#[46]⟩ ++ f
def signB (u : Int) (s : ByteArray) : ByteArray := if u < 0 then ⟨#[45]⟩ ++ s else s
/-- The text of a number. -/
def numB (u : Int) : ByteArray :=
  if validB u = false then ⟨#[63]⟩ else signB u (decB (u.natAbs / 10000)) ++ dotB (fracB (u.natAbs % 10000))

theorem tab_below {w w' : World} (h : Tab w) (hB : Below w.heap.size w w') : Tab w' := by
  unfold Tab Lib.TabIs World.var? at *
  cases hg : Tryd.prog.globalNamed "internal/strconv.uint64pow10" with
  | none => simp [hg] at h
  | some g =>
    simp only [hg, Option.bind_some] at h ⊢
    have hlt : g < w.heap.size := by
      rcases Nat.lt_or_ge g w.heap.size with h' | h'
      · exact h'
      · rw [Array.getElem?_eq_none h'] at h; simp at h
    rw [hB.block g hlt]
    exact h
def sizeOfV : Value → Nat
  | .string s => s.size
  | _ => 0
theorem get_eq (s : ByteArray) (i : Nat) (h : i < s.size) : s.get! i = s[i] := by
  show s.data[i]! = s.data[i]
  rw [getElem!_pos s.data i h]
theorem decB_size (u : Nat) : (decB u).size = Lib.nDigits u := by
  unfold decB; show (Lib.decDigits u).toArray.size = _; simp [Lib.decDigits_length]
theorem nDigits_small {u : Nat} (h : u < 100000000000000000000) : Lib.nDigits u ≤ 20 := by
  by_cases h0 : u = 0
  · subst h0; rw [Lib.nDigits_small (by omega)]; omega
  · have := Lib.numDigits_eq u (by omega)
    rcases Nat.lt_or_ge u 18446744073709551616 with h2 | h2
    · have := this h2; split at this <;> omega
    · have := Lib.nDigits_unique 19 u (by omega) (by omega); omega

set_option maxRecDepth 20000 in
set_option maxHeartbeats 2000000 in
theorem numText_run (u : Int) (w : World) (ht : Tab w) : Calls Tryd.prog 63 #[.int .i64 u] w fun e w' => e = .returned (.string (numB u)) ∧ Below w.heap.size w w' := by
  obtain ⟨res, hres⟩ : ∃ r, r = numB u := ⟨_, rfl⟩
  rw [← hres]
  unfold numB at hres
  have HV := hide fun w => valid_run u w
  cases hv : validB u with
  | false =>
    rw [hv] at HV hres
    have HZ := hide (show res = ⟨#[63]⟩ by rw [hres]; simp)
    clear hres ht
    go_enter Tryd.func63, Tryd.ntmps63
    go_wp2_with fail
    refine (HV.out _).mono ?_; rintro e w' ⟨rfl, rfl⟩
    go_wp2_with fail
    go_ret
    exact ⟨ret_str HZ.out.symm, Below.refl _ _⟩
  | true =>
    have HSZ := hide fun w => size_u_run u hv w
    have hb : u.natAbs ≤ 1000000000000000 := by unfold validB at hv; simp at hv; omega
    rw [hv] at HV hres
    obtain ⟨n, hn⟩ : ∃ n, n = u.natAbs := ⟨_, rfl⟩
    rw [← hn] at HSZ hb hres
    have hq1 : n / 10000 < 1000000000000000000 := by omega
    have hq2 : n % 10000 + 10000 < 1000000000000000000 := by omega
    have HF1 := hide fun w' (h : Tab w') => FormatUint_run (n / 10000) hq1 w' h
    have HF2 := hide fun w' (h : Tab w') => FormatUint_run (n % 10000 + 10000) hq2 w' h
    have e1 : (n : Int) / 10000 = ((n / 10000 : Nat) : Int) := by omega
    have e2 : (n : Int) % 10000 = ((n % 10000 : Nat) : Int) := by omega
    have e3 : IntKind.u64.wrap (((n % 10000 : Nat) : Int) + 10000) = ((n % 10000 + 10000 : Nat) : Int) := by rw [IntKind.wrap_u64]; omega
    have w4 : IntKind.u64.wrap ((n / 10000 : Nat) : Int) = ((n / 10000 : Nat) : Int) := by rw [IntKind.wrap_u64]; omega
    have w5 : IntKind.u64.wrap ((n % 10000 : Nat) : Int) = ((n % 10000 : Nat) : Int) := by rw [IntKind.wrap_u64]; omega
    have HT := hide ht
    obtain ⟨D, hD⟩ : ∃ D, D = decB (n / 10000) := ⟨_, rfl⟩
    obtain ⟨F, hF⟩ : ∃ D, D = decB (n % 10000 + 10000) := ⟨_, rfl⟩
    have hDs : D.size ≤ 20 := by rw [hD, decB_size]; exact nDigits_small (by omega)
    have hFs : F.size = 5 := by rw [hF, decB_size]; exact Lib.nDigits_unique 4 _ (by omega) (by omega)
    rw [← hD] at HF1
    rw [← hF] at HF2
    unfold fracB at hres
    rw [← hD, ← hF] at hres
    have HRES := Lib.hid hres
    obtain ⟨q, hq⟩ : ∃ q, q = n / 10000 := ⟨_, rfl⟩
    obtain ⟨r, hr⟩ : ∃ q, q = n % 10000 := ⟨_, rfl⟩
    rw [← hq] at e1 HF1 w4
    rw [← hr] at e2 e3 HF2 w5
    clear hres ht hv hn hb hD hF hq hr hq1 hq2
    go_enter Tryd.func63, Tryd.ntmps63
    go_wp2_with fail
    refine (HV.out _).mono ?_; rintro e w' ⟨rfl, rfl⟩
    go_wp2_with fail
    refine (HSZ.out _).mono ?_; rintro e w' ⟨rfl, rfl⟩
    go_wp2_with fail
    refine (HF1.out _ HT.out).mono ?_; rintro e w2 ⟨rfl, hB2⟩
    have HB2 := hide hB2
    have HT2 := hide (show Tab w2 from tab_below HT.out hB2)
    clear hB2 HF1 HT
    obtain ⟨G, hG⟩ : ∃ G, G = signB u D := ⟨_, rfl⟩
    have hGs : G.size ≤ 21 := by
      rw [hG]; unfold signB; split
      · rw [ByteArray.size_append]; show 1 + D.size ≤ 21; omega
      · omega
    have hGG : (u < 0 ∧ (⟨#[45]⟩ : ByteArray) ++ D = G) ∨ (¬ u < 0 ∧ D = G) := by
      by_cases h : u < 0
      · exact .inl ⟨h, by rw [hG, signB, if_pos h]⟩
      · exact .inr ⟨h, by rw [hG, signB, if_neg h]⟩
    have HR2 := hide (show res = G ++ dotB (trimB (F.extract 1 F.size)) by rw [HRES.out, if_neg (by simp), hG])
    clear hG HRES
    obtain ⟨R, hR⟩ : ∃ R, R = F.extract 1 5 := ⟨_, rfl⟩
    have hRs : R.size = 4 := by rw [hR, ByteArray.size_extract]; omega
    rw [hFs, ← hR] at HR2
    have HRR := Lib.hid hR
    rcases hGG with ⟨hu, hGG⟩ | ⟨hu, hGG⟩
    all_goals
      have HGG := Lib.hid hGG
      clear hGG
      go_wp2_with fail
      refine (HF2.out _ HT2.out).mono ?_; rintro e w3 ⟨rfl, hB3⟩
      have HB3 := hide (HB2.out.trans (hB3.mono HB2.out.size))
      clear hB3 HF2 HT2 HB2 hR
      go_wp2_with fail
      go_loopw [5] (fun tv wr => ∃ (k : Nat) (T : ByteArray), tv = .string T ∧ T.size = k ∧ k ≤ 4 ∧ Hid (trimB R = trimF k T) ∧ wr = w3) (fun tv _ => sizeOfV tv)
      case atStart => exact ⟨4, R, by rw [HRR.out], hRs, by omega, hide (by rw [trimB, hRs]), rfl⟩
      case round =>
        obtain ⟨k, T, rfl, hTs, hk, hI, rfl⟩ := hrel
        cases k with
        | zero =>
          have hTn : T.toList = [] := by
            rw [Lib.toList_data]
            exact List.eq_nil_of_length_eq_zero (by rw [Array.length_toList]; exact hTs)
          have hT0 : (T.toList == []) = true := by rw [hTn]; rfl
          have hTe : T = ByteArray.empty := ByteArray.ext (by rw [Lib.toList_data] at hTn; rw [← Array.toList_inj, hTn]; rfl)
          have HZ := hide (show res = G by
            rw [HR2.out, hI.out, trimF, dotB, if_pos hTn]
            exact ByteArray.append_empty)
          have HTT := Lib.hid hTe
          clear hTn hTe hI
          go_wp2_with fail
          go_ret
          exact ⟨by first | (rw [HZ.out, ← HGG.out]; done) | (rw [HZ.out, ← HGG.out]; rfl), HB3.out⟩
        | succ n =>
          have hn : n < T.size := by omega
          have hq := hI.out
          rw [trimF, get_eq T n hn] at hq
          by_cases h48 : T[n] = 48
          · rw [if_pos h48] at hq
            have g8 : ((T[n].toNat : Int) == 48) = true := by rw [h48]; rfl
            have HQ := Lib.hid hq
            have hT2 : (T.extract 0 n).size = n := by rw [ByteArray.size_extract]; omega
            have HT2 := Lib.hid hT2
            clear hq h48 hI hT2
            go_wp2_with fail
            go_roundw
            case rel => exact ⟨n, T.extract 0 n, rfl, HT2.out, by omega, HQ, by first | rfl | trivial⟩
            case measure => simp [sizeOfV]; omega
          · rw [if_neg h48] at hq
            have g8 : ((T[n].toNat : Int) == 48) = false := by
              have : T[n].toNat ≠ 48 := fun h => h48 (UInt8.toNat_inj.1 (by rw [h]; rfl))
              simp; omega
            have hne : T.toList ≠ [] := fun h => by
              rw [Lib.toList_data] at h
              have h2 : T.data.toList.length = T.size := by rw [Array.length_toList]; rfl
              rw [h] at h2; simp at h2; omega
            have g9 : (T.toList == []) = false := by simpa using hne
            have HZ := hide (show res = G ++ (⟨#[46]⟩ ++ T) by rw [HR2.out, hq, dotB, if_neg hne])
            clear hq h48 hne hI
            go_wp2_with fail
            go_ret
            exact ⟨by first | (rw [HZ.out, ← HGG.out]; done) | (rw [HZ.out, ← HGG.out]; rfl), HB3.out⟩
end Go.Proofs.YtmmbbndoimleaaaDoor

/- Package quote: letter, escape. -/
namespace Go.Proofs.YtmmbbndoimleaaaDoor
open Go.RowKit

def letterN (b : Nat) : Bool := (decide (97 ≤ b) && decide (b ≤ 122)) || (decide (65 ≤ b) && decide (b ≤ 90))
theorem letter_run (b : Nat) (w : World) : Calls Tryd.prog 83 #[.int .u8 b] w fun e w' => e = .returned (.bool (letterN b)) ∧ w' = w := by
  go_enter Tryd.func83, Tryd.ntmps83
  go_wp2_with fail
  all_goals
    go_ret
    refine ⟨ret_bool ?_, rfl⟩
    unfold letterN
    first
      | (rw [Bool.eq_iff_iff]; simp; omega)
      | (simp; omega)

def hexN (b : Nat) : UInt8 := UInt8.ofNat (if b < 10 then 48 + b else 87 + b)
/-- What stands for a byte in a literal. -/
def escN (b : Nat) : ByteArray :=
  if b = 34 ∨ b = 92 then ⟨#[92, UInt8.ofNat b]⟩
  else if b = 10 then ⟨#[92, 110]⟩ else if b = 9 then ⟨#[92, 116]⟩ else if b = 13 then ⟨#[92, 114]⟩
  else if b < 32 ∨ 126 < b then ⟨#[92, 120, hexN (b / 16), hexN (b % 16)]⟩ else ⟨#[UInt8.ofNat b]⟩

theorem and15 (b : Nat) (hb : b < 256) : bits BinOp.and IntKind.u8 (b : Int) 15 = ((b % 16 : Nat) : Int) := by
  have : ∀ b : Fin 256, bits BinOp.and IntKind.u8 ((b : Nat) : Int) 15 = (((b : Nat) % 16 : Nat) : Int) := by decide +kernel
  exact this ⟨b, hb⟩
theorem enc_ascii (b : Nat) (hb : b < 128) : Utf8.encode (b : Int) = ⟨#[UInt8.ofNat b]⟩ := by
  have : ∀ b : Fin 128, (Utf8.encode ((b : Nat) : Int)).data = #[UInt8.ofNat b] := by decide +kernel
  exact ByteArray.ext (this ⟨b, hb⟩)
theorem hex_slice (h : Nat) (hh : h < 16) (W : World) :
    (Instr.sliceAt 9 (.string ⟨#[48, 49, 50, 51, 52, 53, 54, 55, 56, 57, 97, 98, 99, 100, 101, 102]⟩) (some (.int .u8 (h : Int))) (some (.int .u8 ((h : Int) + 1))) none).run Tryd.prog W = .ok (.string ⟨#[hexN h]⟩) W := by
  have : ∀ h : Fin 16, (Instr.sliceAt 9 (.string ⟨#[48, 49, 50, 51, 52, 53, 54, 55, 56, 57, 97, 98, 99, 100, 101, 102]⟩) (some (.int .u8 ((h : Nat) : Int))) (some (.int .u8 (((h : Nat) : Int) + 1))) none).run Tryd.prog W = .ok (.string ⟨#[hexN h]⟩) W := by
    intro h
    obtain ⟨h, hh⟩ := h
    match h, hh with
    | 0, _ => go_simp; rfl
    | 1, _ => go_simp; rfl
    | 2, _ => go_simp; rfl
    | 3, _ => go_simp; rfl
    | 4, _ => go_simp; rfl
    | 5, _ => go_simp; rfl
    | 6, _ => go_simp; rfl
    | 7, _ => go_simp; rfl
    | 8, _ => go_simp; rfl
    | 9, _ => go_simp; rfl
    | 10, _ => go_simp; rfl
    | 11, _ => go_simp; rfl
    | 12, _ => go_simp; rfl
    | 13, _ => go_simp; rfl
    | 14, _ => go_simp; rfl
    | 15, _ => go_simp; rfl
    | n + 16, h => omega
  exact this ⟨h, hh⟩

set_option maxRecDepth 20000 in
set_option maxHeartbeats 1000000 in
theorem escape_run (b : Nat) (hb : b < 256) (w : World) : Calls Tryd.prog 86 #[.int .u8 b] w fun e w' => e = .returned (.string (escN b)) ∧ ∃ m, w' = w.drewN m := by
  go_enter Tryd.func86, Tryd.ntmps86
  by_cases h1 : b = 34 ∨ b = 92
  · rcases h1 with rfl | rfl
    · go_wp2_with fail
      go_ret
      exact ⟨ret_str (by decide), 0, rfl⟩
    · go_wp2_with fail
      go_ret
      exact ⟨ret_str (by decide), 0, rfl⟩
  · by_cases h2 : b < 32 ∨ 126 < b
    · by_cases h3 : b = 10
      · subst h3
        go_wp2_with fail
        go_ret
        exact ⟨rfl, 0, rfl⟩
      · by_cases h4 : b = 9
        · subst h4
          go_wp2_with fail
          go_ret
          exact ⟨rfl, 0, rfl⟩
        · by_cases h5 : b = 13
          · subst h5
            go_wp2_with fail
            go_ret
            exact ⟨rfl, 0, rfl⟩
          · have g1 : ((b : Int) == 34) = false := by simp; omega
            have g2 : ((b : Int) == 92) = false := by simp; omega
            have g3 : ((b : Int) == 10) = false := by simp; omega
            have g4 : ((b : Int) == 9) = false := by simp; omega
            have g5 : ((b : Int) == 13) = false := by simp; omega
            have he : escN b = ⟨#[92, 120, hexN (b / 16), hexN (b % 16)]⟩ := by
              unfold escN; rw [if_neg h1, if_neg h3, if_neg h4, if_neg h5, if_pos h2]
            have hg : (decide ((b : Int) < 32) = true ∧ True) ∨ (decide ((b : Int) < 32) = false ∧ decide ((b : Int) > 126) = true) := by
              rcases h2 with h | h
              · exact .inl ⟨by simp; omega, trivial⟩
              · exact .inr ⟨by simp; omega, by simp; omega⟩
            obtain ⟨hi, hhi⟩ : ∃ hi, hi = b / 16 := ⟨_, rfl⟩
            obtain ⟨lo, hlo⟩ : ∃ hi, hi = b % 16 := ⟨_, rfl⟩
            have e1 : (b : Int) / 16 = (hi : Int) := by omega
            have e2 : bits BinOp.and IntKind.u8 (b : Int) 15 = (lo : Int) := by rw [and15 b hb, hlo]
            have e3 : IntKind.u8.wrap ((hi : Int) + 1) = (hi : Int) + 1 := by rw [IntKind.wrap_u8]; omega
            have e4 : IntKind.u8.wrap ((lo : Int) + 1) = (lo : Int) + 1 := by rw [IntKind.wrap_u8]; omega
            have l1 : hi < 16 := by omega
            have l2 : lo < 16 := by omega
            rw [← hhi, ← hlo] at he
            have HE := Lib.hid he
            clear he h1 h2 h3 h4 h5 hhi hlo
            rcases hg with ⟨g6, g7⟩ | ⟨g6, g7⟩
            all_goals
              have hs1 := fun W => hex_slice hi l1 W
              have hs2 := fun W => hex_slice lo l2 W
              go_wp2_with fail
              go_quiet (fail)
              go_wp2_with fail
              go_ret
              exact ⟨ret_str (by rw [HE.out]; exact ByteArray.ext rfl), nq, rfl⟩
    · have he : escN b = ⟨#[UInt8.ofNat b]⟩ := by
        unfold escN; rw [if_neg h1, if_neg (by omega), if_neg (by omega), if_neg (by omega), if_neg h2]
      have HE := Lib.hid he
      have g1 : ((b : Int) == 34) = false := by simp; omega
      have g2 : ((b : Int) == 92) = false := by simp; omega
      have g3 : ((b : Int) == 10) = false := by simp; omega
      have g4 : ((b : Int) == 9) = false := by simp; omega
      have g5 : ((b : Int) == 13) = false := by simp; omega
      have g6 : decide ((b : Int) < 32) = false := by simp; omega
      have g7 : decide ((b : Int) > 126) = false := by simp; omega
      have en := enc_ascii b (by omega)
      clear he
      go_wp2_with fail
      go_ret
      exact ⟨ret_str (by rw [HE.out]), 0, rfl⟩
end Go.Proofs.YtmmbbndoimleaaaDoor

/- The iterator of package quote: pieces. -/
namespace Go.Proofs.YtmmbbndoimleaaaDoor
open Go.RowKit

attribute [local go_sem] Oper.semAt_some

/-- A piece is short. -/
abbrev Pz := { x : ByteArray // x.size ≤ 4 }
theorem escN_size (b : Nat) : (escN b).size ≤ 4 := by
  unfold escN
  split
  · show 2 ≤ 4; omega
  · split
    · show 2 ≤ 4; omega
    · split
      · show 2 ≤ 4; omega
      · split
        · show 2 ≤ 4; omega
        · split
          · show 4 ≤ 4; omega
          · show 1 ≤ 4; omega
def escZ (b : Nat) : Pz := ⟨escN b, escN_size b⟩
/-- What has come when k rounds are over. -/
def uptoL (f : Nat → Pz) (k : Nat) : List Pz := (List.range k).map f
theorem uptoL_succ (f : Nat → Pz) (k : Nat) : uptoL f (k + 1) = uptoL f k ++ [f k] := by simp [uptoL, List.range_succ]
theorem uptoL_length (f : Nat → Pz) (k : Nat) : (uptoL f k).length = k := by simp [uptoL]

/-- A block lies as it lay. -/
def KeepB (B : Nat) (W W' : World) : Prop := W'.heap[B]? = W.heap[B]?

set_option maxRecDepth 100000 in
set_option maxHeartbeats 2000000 in
theorem pieces1_in (n : Nat) (hn : 1 ≤ n) (l Bs : Nat) (S : ByteArray) (hS : S.size ≤ 1000000000) (J Jx : List Pz → World → Prop)
    (hY : ∀ pre x W, J pre W → pre.length < S.size → YieldAt Fence.wide (n - 1) Tryd.prog l #[.string x.1] W fun e W' =>
      (e = .returned (.bool true) ∧ J (pre ++ [x]) W' ∧ KeepB Bs W W') ∨ (e = .returned (.bool false) ∧ Jx (pre ++ [x]) W'))
    (W : World) (hJ : AbidesFrom W.heap.size J) (hBs : W.cell? ⟨Bs, 0, none⟩ = some (.string S)) (h0 : J [] W) :
    CallsIn Fence.wide n Tryd.prog 85 #[.func (.yield l) #[] #[], .pointer (some ⟨Bs, 0, none⟩)] W fun e W' => (∃ v, e = .returned v) ∧
      ((∃ ys, ys = uptoL (fun j => escZ (S.get! j).toNat) S.size ∧ J ys W') ∨ (∃ pre : List Pz, True ∧ Jx pre W')) := by
  refine callsIn_of_wp Tryd.func85 rfl trivial ?_ rfl
  simp only [Tryd.ntmps85, List.size_toArray, List.length_cons, List.length_nil, Nat.reduceAdd, Nat.reduceSub, Array.replicate_succ, Array.replicate_zero, List.push_toArray, List.append_toArray, List.nil_append, List.cons_append]
  gi_wp2
  gi_loopw [3, 6] (fun _ i wr => ∃ k : Nat, k ≤ S.size ∧ i = .int .i64 k ∧ J (uptoL (fun j => escZ (S.get! j).toNat) k) wr ∧ KeepB Bs W wr) (fun _ i _ => S.size - (intOf i).toNat)
  case atStart => exact ⟨0, Nat.zero_le _, rfl, h0, rfl⟩
  case round =>
    obtain ⟨k, hk, rfl, hJs, hnx⟩ := hrel
    have hc := (World.cell?_of_block (a := ⟨Bs, 0, none⟩) (show wr.heap[Bs]? = W.heap[Bs]? from hnx)).trans hBs
    by_cases hlt : k < S.size
    · have hgk : (S.get! k).toNat = S[k].toNat := by rw [get_eq S k hlt]
      have hlb : S[k].toNat < 256 := UInt8.toNat_lt _
      obtain ⟨b, hbb⟩ : ∃ b, b = S[k].toNat := ⟨_, rfl⟩
      have hb2 : (S[k].toNat : Int) = (b : Int) := by rw [hbb]
      rw [← hbb] at hlb hgk
      have HESC := hide fun w => escape_run b hlb w
      have HGK := Lib.hid hgk
      have hJd : ∀ q, J (uptoL (fun j => escZ (S.get! j).toNat) k) (wr.drewN q) := fun q => hJ _ wr _ none hJs ⟨rfl, rfl, rfl, Nat.le_refl _, fun _ _ _ => rfl⟩ (fun r e => by cases e)
      have HJD := hide hJd
      have HY := hide hY
      clear hbb hgk hJd hY
      gi_wp2_with fail
      refine ⟨trivial, (callsIn_wide.2 (HESC.out _)).mono ?_⟩
      rintro e w2 ⟨rfl, q, rfl⟩
      obtain ⟨fn, tmps, assign, body, hy, hR⟩ := HY.out _ (escZ b) (wr.drewN q) (HJD.out q) (by rw [uptoL_length]; exact hlt)
      dsimp only [escZ] at hy
      clear hc
      gi_wp2
      refine hR.mono ?_
      rintro e W3 (⟨rfl, hJ3, hk3⟩ | ⟨rfl, hJx3⟩)
      · have HN := hide (show KeepB Bs W W3 from (show W3.heap[Bs]? = wr.heap[Bs]? from hk3).trans hnx)
        have HJ3 := hide hJ3
        clear hJ3 hk3 hnx hJs hy hR
        gi_wp2
        go_roundw
        case rel => exact ⟨k + 1, by omega, by go_num, by rw [uptoL_succ, HGK.out]; exact HJ3.out, HN.out⟩
        case measure => simp [intOf]; omega
      · clear hy hR
        gi_wp2
        refine bodyPost_ret (results_none rfl _ _ _) rfl ?_
        exact ⟨⟨_, rfl⟩, .inr ⟨_, trivial, hJx3⟩⟩
    · obtain rfl : k = S.size := by omega
      gi_wp2
      go_end0
      exact ⟨⟨_, rfl⟩, .inl ⟨_, rfl, hJs⟩⟩
end Go.Proofs.YtmmbbndoimleaaaDoor

/- Quote of package quote. -/
namespace Go.Proofs.YtmmbbndoimleaaaDoor
open Go.RowKit

attribute [local go_sem] Oper.semAt_some

theorem wpListIn_append_str {F : Fence} {n : Nat} {P : Program} (w : World) {ops : Array Oper} {rest : List Oper} {o : Oper} {a : Act} {Q : Exit → Act → World → Prop}
    (hg : o.guard = none) (sl x : Operand) (t u : TypeId) (ho : o.op = .call { callee := .builtin .append, args := #[sl, x], argTypes := #[t, u] })
    (base : Nat) (e : TypeId) (i : TypeInfo) (ht : P.underlying t = some (.slice e)) (hu : P.underlying u = some .string) (hi : P.info? e = some i) (hz : i.zero = some (.int .u8 0))
    (hsize : i.size = 1) (hby : i.bytes = 1)
    (v : Value) (k : Nat) (xs : List Value) (hs : a.eval sl = v) (hown : w.ownsRow base e 1 v k xs) (s : ByteArray) (hx : a.eval x = .string s)
    (h63 : k + s.size ≤ maxLen) (hbytes : k + s.size ≤ 140737488355328) (hbase : base ≤ w.heap.size)
    (h : ∀ v' w', w'.ownsRow base e 1 v' (k + s.size) (xs ++ Lib.strCells s) → w.grownBy w' v.ownBlock → wpListIn F n P ops Q rest (a.put o.dst v') w') : wpListIn F n P ops Q (o :: rest) a w := by
  refine wpListIn_plain hg fun K hK => ?_
  obtain ⟨v', w', hr, h2, h3, _⟩ := Lib.run_append_own_string (P := P) w base t u o.type e i ht hu hi hz hsize hby v k xs hown s h63 hbytes hbase
  unfold Oper.wpIn
  refine ⟨?_, ?_⟩
  · simp [Oper.about, ho, resolve, Target.leads, Sem.run_pure]
  · rw [Oper.semAt_plain F _ _ (by rw [ho]; intro c hc'; cases hc')]
    simp [execOp, ho, resolve, invoke, builtin, hs, hx, hr, Result.andThen]
    exact hK _ _ (h v' w' h2 h3)

def bytesV (l : List UInt8) : List Value := l.map fun b => .int .u8 (b.toNat : Int)
/-- The bytes of a literal, without the quotes. -/
def escL (S : ByteArray) : List UInt8 := (uptoL (fun j => escZ (S.get! j).toNat) S.size).flatMap fun x => x.1.data.toList
def quoteB (S : ByteArray) : ByteArray := ⟨(34 :: escL S ++ [34]).toArray⟩
theorem infoU8 : (Tryd.prog.info? 5).map (fun i => (i.zero, i.size, i.bytes)) = some (some (.int .u8 0), 1, 1) := by kernel_rfl

def fB (pre : List Pz) : List UInt8 := 34 :: pre.flatMap fun x => x.1.data.toList
theorem fB_def (pre : List Pz) : fB pre = 34 :: pre.flatMap fun x => x.1.data.toList := rfl

theorem fB_len (pre : List Pz) : (fB pre).length ≤ 1 + 4 * pre.length := by
  rw [fB_def]
  show (pre.flatMap fun x => x.1.data.toList).length + 1 ≤ _
  have : ∀ l : List Pz, (l.flatMap fun x => x.1.data.toList).length ≤ 4 * l.length := by
    intro l
    induction l with
    | nil => simp
    | cons a l ih =>
      have ha : a.1.data.toList.length ≤ 4 := by rw [Array.length_toList]; exact a.2
      rw [List.flatMap_cons, List.length_append, List.length_cons]; omega
  have := this pre; omega
theorem bytesV_len (l : List UInt8) : (bytesV l).length = l.length := by unfold bytesV; simp
theorem conv_own {w1 : World} {B g cap : Nat} {l : List UInt8} {b : UInt8} (h : w1.ownsRow B 5 1 (.slice (some ⟨g, 0, none⟩) (l.length + 1) cap) (l.length + 1) (bytesV l ++ [.int .u8 (b.toNat : Int)])) :
    (convert 23 9 (.slice (some ⟨g, 0, none⟩) (l.length + 1) cap)).run Tryd.prog w1 = .ok (.string ⟨(l ++ [b]).toArray⟩) w1 := by
  have := run_convert_bytes_back (P := Tryd.prog) w1 23 9 5 ⟨g, 0, none⟩ cap (l ++ [b]) Tryd.underlying23 Tryd.underlying5 Tryd.underlying9 (fun j hj => by
    refine h.cells rfl j _ ?_
    have : bytesV l ++ [.int .u8 (b.toNat : Int)] = bytesV (l ++ [b]) := by unfold bytesV; simp
    rw [this]; unfold bytesV; rw [List.getElem?_map, List.getElem?_eq_getElem hj]; rfl)
  rw [List.length_append, List.length_singleton] at this
  exact this
theorem own_boxed {β : Type} (B : Nat) (t : TypeId) (u : Value) : Own (fun (_ : β) W => Boxed W B t u) := by
  rintro s X Y row h hg hrow
  refine h.kept hg (fun e' => ?_)
  obtain ⟨o, ho, hc⟩ := hrow B e'.symm
  rw [show X.heap[B]? = _ from h] at ho; cases ho; cases hc
theorem pieces_run (S : ByteArray) (w : World) : Calls Tryd.prog 75 #[.string S] w fun e w' => e = .returned (.func (.func 85) #[] #[.pointer (some ⟨w.heap.size, 0, none⟩)]) ∧ w' = w.alloc (.cells #[.string S] 9) := by
  go_enter Tryd.func75, Tryd.ntmps75
  go_wp2_with fail
  go_ret
  exact ⟨rfl, rfl⟩
theorem pieces_stops (n : Nat) (hn : 1 ≤ n) (Bs : Nat) (S : ByteArray) (hS : S.size ≤ 1000000000) (w : World) (hb : Bs < w.heap.size) (hBs : w.cell? ⟨Bs, 0, none⟩ = some (.string S)) :
    SeqStopsK Fence.wide n Tryd.prog 85 #[.pointer (some ⟨Bs, 0, none⟩)] (fun x : Pz => #[.string x.1]) (KeepB Bs) (fun xs => xs = uptoL (fun j => escZ (S.get! j).toNat) S.size) (fun _ => True) S.size w := fun l J Jx W hW hJ _ hY h0 =>
  pieces1_in n hn l Bs S hS J Jx hY W hJ ((hW.cell (p := ⟨Bs, 0, none⟩) hb).trans hBs) h0

set_option maxRecDepth 100000 in
set_option maxHeartbeats 2000000 in
theorem Quote_run (S : ByteArray) (hS : S.size ≤ 1000000000) (w : World) : Calls Tryd.prog 64 #[.string S] w fun e w' => e = .returned (.string (quoteB S)) ∧ Below w.heap.size w w' := by
  refine (callsIn_wide (n := 4)).1 ?_
  obtain ⟨i0, hi0, hz0, hz1, hz2⟩ := info_parts infoU8
  refine callsIn_of_wp_marks Tryd.func64 rfl trivial ?_ rfl
  simp only [Tryd.ntmps64, List.size_toArray, List.length_cons, List.length_nil, Nat.reduceAdd, Nat.reduceSub, Array.replicate_succ, Array.replicate_zero, List.push_toArray, List.append_toArray, List.nil_append, List.cons_append]
  gi_wp2
  refine ⟨trivial, (callsIn_wide.2 (pieces_run S _)).mono ?_⟩
  rintro e w1 ⟨rfl, rfl⟩
  gi_wp2
  obtain ⟨W3, hW3⟩ : ∃ W3, W3 = ((w.alloc (Obj.cells #[Value.int IntKind.u8 34] 5)).alloc (Obj.cells #[Value.slice (some { block := w.heap.size, off := 0 }) 1 1] 23)).alloc (Obj.cells #[Value.string S] 9) := ⟨_, rfl⟩
  have hsz : W3.heap.size = w.heap.size + 3 := by rw [hW3]; simp
  have hbox : Boxed W3 (w.heap.size + 1) 23 (.slice (some ⟨w.heap.size, 0, none⟩) 1 1) := by
    rw [hW3]
    have := (Boxed.new (w.alloc (Obj.cells #[Value.int IntKind.u8 34] 5)) 23 (Value.slice (some { block := w.heap.size, off := 0 }) 1 1)).alloc (Obj.cells #[Value.string S] 9)
    rwa [World.size_alloc] at this
  have hown : W3.ownsRow w.heap.size 5 1 (.slice (some ⟨w.heap.size, 0, none⟩) 1 1) 1 (bytesV [34]) := by
    rw [hW3]
    have h0 : (w.alloc (Obj.cells #[Value.int IntKind.u8 34] 5)).ownsRow w.heap.size 5 1 (.slice (some ⟨w.heap.size, 0, none⟩) 1 1) 1 (bytesV [34]) :=
      ⟨rfl, .inr ⟨w.heap.size, 1, #[Value.int .u8 34], rfl, Nat.le_refl _, heap_alloc_new w _, by omega, by simp [maxLen], rfl, rfl⟩⟩
    exact (h0.alloc _).alloc _
  have hBx : Boxed W3 (w.heap.size + 1 + 1) 9 (.string S) := by
    have := (Boxed.new ((w.alloc (Obj.cells #[Value.int IntKind.u8 34] 5)).alloc (Obj.cells #[Value.slice (some { block := w.heap.size, off := 0 }) 1 1] 23)) 9 (Value.string S))
    rw [World.size_alloc, World.size_alloc] at this
    rw [hW3]; exact this
  have hBs := hBx.cell
  have hB : Below w.heap.size w W3 := by rw [hW3]; exact below_al (below_al (below_al (Below.refl _ _) _) _) _
  rw [← hW3]
  clear hW3
  refine wpIn_rangeFunc_ownF rfl (by omega) (gf := 85) (lb := #[.pointer (some ⟨w.heap.size + 1 + 1, 0, none⟩)]) rfl trivial (enters_of Tryd.func85 (by kernel_rfl) rfl)
    (pieces_stops (4 - 1) (by omega) (w.heap.size + 1 + 1) S hS W3 (by omega) hBs) (fun h k => k.trans h)
    (fun W l o o' hl ho _ _ => World.putObj_heap_other (by omega)) (Below.refl _ _) (fun _ => rfl)
    (fun pre W => (∃ v, Boxed W (w.heap.size + 1) 23 v ∧ W.ownsRow w.heap.size 5 1 v (fB pre).length (bytesV (fB pre)) ∧ True) ∧ Boxed W (w.heap.size + 1 + 1) 9 (.string S) ∧ Below w.heap.size w W) (fun _ _ _ => False)
    (OwnFrom.and (Own.from (holdsRow_own w.heap.size (w.heap.size + 1) 23 5 1 (fun pre => (fB pre).length) (fun pre => bytesV (fB pre)) (fun _ _ => True)) _) (OwnFrom.and (Own.from (own_boxed (w.heap.size + 1 + 1) 9 (.string S)) _) (ownFrom_below (Nat.le_refl _) (by omega))))
    (fun _ _ _ _ _ hs _ _ => hs) ⟨⟨_, hbox, hown, trivial⟩, hBx, hB⟩
    (fun x => { tmps := #[Value.string S, undef, Value.string { data := #[] }, Value.pointer (some { block := w.heap.size + 1, off := 0 }), (.string x.1), Value.slice (some { block := w.heap.size, off := 0 }) 1 1, Value.string S,
          Value.func (Fn.func 85) #[] #[Value.pointer (some { block := w.heap.size + 1 + 1, off := 0 })], (.string x.1), undef, undef, undef, undef, undef, undef, undef], defers := [] }) ?assign ?body ?done ?stop
  case assign =>
    intro l x W K hK
    gi_wp2
    exact hK
  case body =>
    rintro l pre x W ⟨⟨v, hbx, how, _⟩, hSb, hBl⟩ hpre
    have hx := x.2
    have hc := hbx.cell
    have hf := hbx.frozen
    have hlen := fB_len pre
    have HOW := hide how; have HBX := hide hbx
    have hbs : w.heap.size ≤ W.heap.size := hBl.size
    gi_wp2_with (gi_at_builtin; refine wpListIn_append_str _ rfl (.tmp 9) (.tmp 10) _ _ rfl w.heap.size 5 i0 Tryd.underlying23 Tryd.underlying9 hi0 hz0 hz1 hz2 v (fB pre).length (bytesV (fB pre)) rfl HOW.out x.1 rfl (by unfold maxLen; omega) (by omega) hbs ?_)
    intro v' w1 hown1 hgrow
    have hlen2 : (fB (pre ++ [x])).length = (fB pre).length + x.1.size := by
      have hxs : x.1.data.size = x.1.size := rfl
      rw [fB_def, fB_def]; simp only [List.flatMap_append, List.flatMap_cons, List.flatMap_nil, List.append_nil, List.length_cons, List.length_append, Array.length_toList]
      omega
    have hbytes : bytesV (fB pre) ++ Lib.strCells x.1 = bytesV (fB (pre ++ [x])) := by
      rw [fB_def, fB_def]; unfold bytesV Lib.strCells
      simp only [List.flatMap_append, List.flatMap_cons, List.flatMap_nil, List.append_nil, List.map_cons, List.map_append, List.cons_append]
    rw [← hlen2, hbytes] at hown1
    have hpos : 0 < (fB (pre ++ [x])).length := by rw [fB_def]; simp
    obtain ⟨g', cap', rfl⟩ : ∃ g cap, v' = .slice (some ⟨g, 0, none⟩) (fB (pre ++ [x])).length cap := by
      rcases hown1.2 with ⟨_, h0⟩ | ⟨g, cap, cur, rfl, _⟩
      · omega
      · exact ⟨g, cap, rfl⟩
    have hne : some (w.heap.size + 1) ≠ v.ownBlock := hbx.not_row (by decide) how
    have hv1 : Boxed w1 (w.heap.size + 1) 23 v := hbx.kept hgrow hne
    have hc1 := hv1.cell
    have hf1 := hv1.frozen
    have HV1 := hide hv1; have HO1 := hide hown1
    have HK := hide (show KeepsOthers W w1 from KeepsOthers.of_grownBy hgrow fun j o ej hj => by
      rcases HOW.out.2 with ⟨rfl, _⟩ | ⟨g, cap, cur, rfl, _, hgb, _⟩
      · simp [Value.ownBlock] at ej
      · obtain rfl : g = j := by simpa [Value.ownBlock] using ej
        rw [hgb] at hj; cases hj; rfl)
    have HB1 := hide (hBl.grown hgrow hbs fun k e => (how.lt k e).1)
    have hneS : some (w.heap.size + 1 + 1) ≠ v.ownBlock := hSb.not_row (by decide) how
    have HS1 := hide (hSb.kept hgrow hneS)
    have HSb := hide hSb
    clear hown1 hgrow hbytes hlen2 hv1 hc hf how hbx hSb
    gi_wp2
    refine ⟨HK.out.trans (KeepsOthers.setCell _ _ _), ?_, ⟨_, HV1.out.set _, HO1.out.kept (grownBy_setCell' w1 _ _) (.inr (HV1.out.not_row (by decide) HO1.out).symm), trivial⟩, HS1.out.kept (grownBy_setCell' w1 _ _) (by simp), HB1.out.setCell (by show _ ≤ w.heap.size + 1; omega) _⟩
    have h2 := HS1.out.kept (grownBy_setCell' w1 (w.heap.size + 1) (Value.slice (some { block := g', off := 0 }) (fB (pre ++ [x])).length cap')) (by simp)
    exact h2.trans HSb.out.symm
  case done =>
    rintro D ys W hD rfl ⟨⟨v, hbx, how, _⟩, hSb, hBl⟩ hK
    have hc := hbx.cell
    have hf := hbx.frozen
    obtain ⟨ys, hys⟩ : ∃ ys, ys = uptoL (fun j => escZ (S.get! j).toNat) S.size := ⟨_, rfl⟩
    have hyl : ys.length ≤ S.size := by rw [hys]; simp [uptoL]
    have hlen := fB_len ys
    have hqB : quoteB S = ⟨(fB ys ++ [34]).toArray⟩ := by
      rw [fB_def, hys]; rfl
    have HQ := hide hqB
    rw [← hys] at how
    clear hqB hys
    have HOW := hide how; have HBX := hide hbx
    have hbs : w.heap.size ≤ W.heap.size := hBl.size
    have hne : some (w.heap.size + 1) ≠ v.ownBlock := hbx.not_row (by decide) how
    gi_wp2_with (gi_at_builtin; refine wpListIn_append_own _ rfl _ _ 23 rfl w.heap.size 5 i0 (.int .u8 0) 1 1 Tryd.underlying23 hi0 hz0 hz1 hz2 rfl (by decide) _ _ _ rfl (HOW.out.alloc _) ⟨W.heap.size, 0, none⟩ 1 1 [.int .u8 34] rfl rfl (cell_one_new _ _ _) (by simp [Value.oneCell']) (by unfold maxLen; omega) (by omega) (by simp; omega) ?_; intro v' w1 hown' hgrow _; obtain ⟨g', cap', rfl⟩ := ownsRow_succ hown'; have hcv := conv_own (b := 34) hown'; have HO := hide hown'; have HG := hide hgrow; clear hown' hgrow)
    have hD1 : w1.heap[D]? = some (Obj.deferred (some [])) := by
      refine (HG.out.block D (by have := (Array.getElem?_eq_some_iff.1 hK).1; simp; omega) ?_).trans ((World.grownBy_alloc W _ none).block D (Array.getElem?_eq_some_iff.1 hK).1 (by simp) |>.trans hK)
      intro e'
      change some D = v.ownBlock at e'
      rcases HOW.out.2 with ⟨rfl, _⟩ | ⟨g, cap, cur, rfl, _, hgb, _⟩
      · simp [Value.ownBlock] at e'
      · obtain rfl : D = g := by simpa [Value.ownBlock] using e'
        rw [hK] at hgb; cases hgb
    refine ⟨by simp, .inl ⟨_, _, rfl, run_takeDeferred hD1, ?_⟩⟩
    refine ⟨_, results_tmp rfl _ _ _, ?_, ?_⟩
    · rw [HQ.out]; rfl
    · exact ((hBl.alloc hbs _).grown HG.out (by simp; omega) (fun k e => (HOW.out.lt k e).1)).trans (belowK_b (w := w) (Nat.le_refl _) w1 D _ _ (by omega) hD1 rfl rfl)
  case stop =>
    rintro D c pre W _ _ h _
    exact h.elim
end Go.Proofs.YtmmbbndoimleaaaDoor

/- Ident and Label of package quote. -/
namespace Go.Proofs.YtmmbbndoimleaaaDoor
open Go.RowKit Go.Shelf

def wordsL : List ByteArray := [⟨#[110, 117, 108, 108]⟩, ⟨#[116, 114, 117, 101]⟩, ⟨#[102, 97, 108, 115, 101]⟩, ⟨#[98, 111, 111, 108]⟩, ⟨#[105, 110, 116]⟩, ⟨#[110, 117, 109, 98, 101, 114]⟩, ⟨#[115, 116, 114, 105, 110, 103]⟩,
  ⟨#[108, 101, 116]⟩, ⟨#[105, 102]⟩, ⟨#[102, 111, 114]⟩, ⟨#[105, 110]⟩, ⟨#[112, 97, 99, 107, 97, 103, 101]⟩, ⟨#[105, 109, 112, 111, 114, 116]⟩]
def idChar (b : Nat) : Bool := letterN b || b == 95 || (decide (48 ≤ b) && decide (b ≤ 57))
def idAll (T : ByteArray) : Bool := (List.range T.size).all fun j => idChar (T.get! j).toNat
def identT (T : ByteArray) : Bool := decide (0 < T.size) && letterN (T.get! 0).toNat && idAll T
def headB (S : ByteArray) : Bool := decide (0 < S.size) && ((S.get! 0).toNat == 35 || (S.get! 0).toNat == 95)
def identB (S : ByteArray) : Bool := decide (S.size ≤ 32) && !(Lib.containsS wordsL S) && identT (if headB S then S.extract 1 S.size else S)

theorem all_up {T : ByteArray} {k : Nat} (h : ∀ j, j < k → idChar (T.get! j).toNat = true) (hk : idChar (T.get! k).toNat = true) : ∀ j, j < k + 1 → idChar (T.get! j).toNat = true := fun j hj => by
  rcases Nat.lt_or_ge j k with h1 | h1
  · exact h j h1
  · obtain rfl : j = k := by omega
    exact hk
theorem all_no {T : ByteArray} {k : Nat} (hk : k < T.size) (h : idChar (T.get! k).toNat = false) : idAll T = false := by
  unfold idAll
  rw [List.all_eq_false]
  exact ⟨k, List.mem_range.2 hk, by rw [h]; decide⟩
theorem all_yes {T : ByteArray} (h : ∀ j, j < T.size → idChar (T.get! j).toNat = true) : idAll T = true := by
  unfold idAll
  rw [List.all_eq_true]
  exact fun j hj => h j (List.mem_range.1 hj)
theorem letter_same (b : Nat) (w : World) : Calls Tryd.prog 83 #[.int .u8 b] w fun e w' => e = .returned (.bool (letterN b)) ∧ w = w' := (letter_run b w).mono fun _ _ h => ⟨h.1, h.2.symm⟩
theorem words_cells (w : World) (j : Nat) (hj : j < wordsL.length) : (w.alloc (Obj.cells ((wordsL.map Value.string).toArray) 9)).cell? ⟨w.heap.size, 0 + j, none⟩ = some (.string (wordsL.getD j ByteArray.empty)) := by
  rw [Nat.zero_add, World.cell?_alloc_mark]
  simp [List.getD, List.getElem?_eq_getElem hj]

set_option maxRecDepth 100000 in
set_option maxHeartbeats 8000000 in
theorem Ident_run (S : ByteArray) (hS : S.size ≤ 1000000000) (w : World) : Calls Tryd.prog 72 #[.string S] w fun e w' => e = .returned (.bool (identB S)) ∧ Below w.heap.size w w' := by
  obtain ⟨cb, hcb⟩ : ∃ cb, cb = Lib.containsS (wordsL.take 13) S := ⟨_, rfl⟩
  have hcon := Any.slices_Contains_string containsL w.heap.size 0 13 13 wordsL S _ (by decide) (by decide) (words_cells w)
  rw [← hcb] at hcon
  have HCON := hide hcon
  have hid : identB S = (decide (S.size ≤ 32) && !cb && identT (if headB S then S.extract 1 S.size else S)) := by rw [hcb]; rfl
  have HID := hide hid
  clear hcon hid hcb
  have hBw := below_al (Below.refl w.heap.size w) (Obj.cells ((wordsL.map Value.string).toArray) 9)
  have HBW := hide hBw
  clear hBw
  go_enter Tryd.func72, Tryd.ntmps72
  by_cases h32 : S.size ≤ 32
  · cases cb with
    | true =>
      go_wp2_with (first | (go_at_call 82; refine HCON.out.mono ?_; rintro e w' ⟨rfl, rfl⟩) | fail)
      go_ret
      exact ⟨ret_bool (by rw [HID.out]; simp), HBW.out⟩
    | false =>
      go_upto_region 4 with (first | (go_at_call 82; refine HCON.out.mono ?_; rintro e w' ⟨rfl, rfl⟩) | fail)
      obtain ⟨wz, hwz⟩ : ∃ wz, wz = w.alloc (Obj.cells (List.map Value.string wordsL).toArray 9) := ⟨_, rfl⟩
      rw [← hwz] at HBW ⊢
      clear hwz HCON
      by_cases h0 : S.size = 0
      · go_wp2_with fail
        go_ret
        exact ⟨ret_bool (by rw [HID.out]; simp [headB, identT, h0]), HBW.out⟩
      · have h0p : 0 < S.size := by omega
        have hgk : (S.get! 0).toNat = S[0].toNat := by rw [get_eq S 0 h0p]
        obtain ⟨b, hbb⟩ : ∃ b, b = S[0].toNat := ⟨_, rfl⟩
        have hb2 : (S[0].toNat : Int) = (b : Int) := by rw [hbb]
        rw [← hbb] at hgk
        clear hbb
        obtain ⟨hb, hhb⟩ : ∃ hb, hb = headB S := ⟨_, rfl⟩
        have hhd : hb = (b == 35 || b == 95) := by rw [hhb]; unfold headB; rw [hgk]; simp [h0p]
        rw [← hhb] at HID
        have HHD := hide hhd
        clear hhd hgk hhb
        go_cut [26] from 14 to 26 (fun a wc => a = .bool hb ∧ wc = wz)
        case first =>
          rcases (show b = 35 ∨ b = 95 ∨ (b ≠ 35 ∧ b ≠ 95) by omega) with rfl | rfl | ⟨g1, g2⟩
          · go_wp2_with fail
            go_meet
            exact ⟨by rw [HHD.out]; rfl, rfl⟩
          · go_wp2_with fail
            go_meet
            exact ⟨by rw [HHD.out]; rfl, rfl⟩
          · have g3 : ((b : Int) == 35) = false := by simp; omega
            have g4 : ((b : Int) == 95) = false := by simp; omega
            go_wp2_with fail
            go_meet
            exact ⟨by rw [HHD.out]; simp [g1, g2], rfl⟩
        case rest =>
          obtain ⟨rfl, ew⟩ := hcut
          obtain rfl := ew.symm
          clear hb2 HHD
          cases hb with
          | true =>
            go_upto_region 6 with fail
            obtain ⟨T, hT⟩ : ∃ T, T = S.extract 1 S.size := ⟨_, rfl⟩
            have hTs : T.size ≤ 32 := by rw [hT, ByteArray.size_extract]; omega
            have HIT := hide (show identB S = identT T by rw [HID.out, if_pos rfl, ← hT]; simp [h32])
            rw [← hT]
            clear hT HID
            by_cases t0 : T.size = 0
            · go_wp2_with fail
              go_ret
              exact ⟨ret_bool (by rw [HIT.out]; simp [identT, t0]), HBW.out⟩
            · have t0p : 0 < T.size := by omega
              have t0b : ((T.size : Int) == 0) = false := beq_false_of_ne (by omega)
              have t0c : decide (32 < (S.size : Int)) = false := by simp; omega
              have hgk : (T.get! 0).toNat = T[0].toNat := by rw [get_eq T 0 t0p]
              obtain ⟨c, hcc⟩ : ∃ c, c = T[0].toNat := ⟨_, rfl⟩
              have hc2 : (T[0].toNat : Int) = (c : Int) := by rw [hcc]
              rw [← hcc] at hgk
              clear hcc
              have HLET := hide fun w => letter_same c w
              cases hl : letterN c with
              | false =>
                rw [hl] at HLET
                have HF := hide (show identT T = false by unfold identT; rw [hgk, hl]; simp)
                clear hgk hl
                go_wp2_with (first | (go_at_call 83; refine (HLET.out _).mono ?_; rintro e w' ⟨rfl, rfl⟩) | fail)
                go_ret
                exact ⟨ret_bool (by rw [HIT.out, HF.out]), HBW.out⟩
              | true =>
                rw [hl] at HLET
                have HF := hide (show identT T = idAll T by unfold identT; rw [hgk, hl]; simp [t0p])
                clear hgk hl
                go_wp2_with (first | (go_at_call 83; refine (HLET.out _).mono ?_; rintro e w' ⟨rfl, rfl⟩) | fail)
                clear hc2 HLET
                go_loopw [4, 40] (fun a iv wr => ∃ k : Nat, k ≤ T.size ∧ iv = .int .i64 k ∧ wr = wz ∧ Hid (∀ j, j < k → idChar (T.get! j).toNat = true)) (fun _ iv _ => T.size - (intOf iv).toNat)
                case atStart => exact ⟨0, Nat.zero_le _, rfl, rfl, hide fun j hj => by omega⟩
                case round =>
                  obtain ⟨k, hk, rfl, rfl, hI⟩ := hrel
                  by_cases hlt : k < T.size
                  · have hgk : (T.get! k).toNat = T[k].toNat := by rw [get_eq T k hlt]
                    obtain ⟨c, hcc⟩ : ∃ c, c = T[k].toNat := ⟨_, rfl⟩
                    have hc2 : (T[k].toNat : Int) = (c : Int) := by rw [hcc]
                    rw [← hcc] at hgk
                    clear hcc
                    have HGK := Lib.hid hgk
                    have HLET := hide fun w => letter_same c w
                    clear hgk
                    have hcase : (letterN c = true ∨ letterN c = false ∧ (c = 95 ∨ (c ≠ 95 ∧ (c < 48 ∨ (48 ≤ c ∧ (57 < c ∨ c ≤ 57)))))) := by
                      cases letterN c
                      · exact .inr ⟨rfl, by omega⟩
                      · exact .inl rfl
                    rcases hcase with hl | ⟨hl, rfl | ⟨g1, g2 | ⟨g2, g3 | g3⟩⟩⟩
                    · have HX := hide (show idChar c = true by unfold idChar; rw [hl]; rfl)
                      rw [hl] at HLET
                      clear hl
                      go_wp2_with (first | (go_at_call 83; refine (HLET.out _).mono ?_; rintro e w' ⟨rfl, rfl⟩) | fail)
                      go_roundw
                      case rel => exact ⟨k + 1, by omega, by go_num, by first | trivial | rfl, hide (all_up hI.out (by rw [HGK.out]; exact HX.out))⟩
                      case measure => simp [intOf]; omega
                    · rw [hl] at HLET
                      clear hl
                      go_wp2_with (first | (go_at_call 83; refine (HLET.out _).mono ?_; rintro e w' ⟨rfl, rfl⟩) | fail)
                      go_roundw
                      case rel => exact ⟨k + 1, by omega, by go_num, by first | trivial | rfl, hide (all_up hI.out (by rw [HGK.out]; rfl))⟩
                      case measure => simp [intOf]; omega
                    · have HX := hide (show idChar c = false by unfold idChar; rw [hl]; simp; omega)
                      have e1 : ((c : Int) == 95) = false := by simp; omega
                      have e2 : decide ((c : Int) < 48) = true := by simp; omega
                      rw [hl] at HLET
                      clear hl
                      go_wp2_with (first | (go_at_call 83; refine (HLET.out _).mono ?_; rintro e w' ⟨rfl, rfl⟩) | fail)
                      go_ret
                      exact ⟨ret_bool (by rw [HIT.out, HF.out]; exact (all_no hlt (by rw [HGK.out]; exact HX.out)).symm), HBW.out⟩
                    · have HX := hide (show idChar c = false by unfold idChar; rw [hl]; simp; omega)
                      have e1 : ((c : Int) == 95) = false := by simp; omega
                      have e2 : decide ((c : Int) < 48) = false := by simp; omega
                      have e3 : decide ((c : Int) > 57) = true := by simp; omega
                      rw [hl] at HLET
                      clear hl
                      go_wp2_with (first | (go_at_call 83; refine (HLET.out _).mono ?_; rintro e w' ⟨rfl, rfl⟩) | fail)
                      go_ret
                      exact ⟨ret_bool (by rw [HIT.out, HF.out]; exact (all_no hlt (by rw [HGK.out]; exact HX.out)).symm), HBW.out⟩
                    · have HX := hide (show idChar c = true by unfold idChar; rw [hl]; simp; omega)
                      have e1 : ((c : Int) == 95) = false := by simp; omega
                      have e2 : decide ((c : Int) < 48) = false := by simp; omega
                      have e3 : decide ((c : Int) > 57) = false := by simp; omega
                      rw [hl] at HLET
                      clear hl
                      go_wp2_with (first | (go_at_call 83; refine (HLET.out _).mono ?_; rintro e w' ⟨rfl, rfl⟩) | fail)
                      go_roundw
                      case rel => exact ⟨k + 1, by omega, by go_num, by first | trivial | rfl, hide (all_up hI.out (by rw [HGK.out]; exact HX.out))⟩
                      case measure => simp [intOf]; omega
                  · obtain rfl : k = T.size := by omega
                    go_wp2_with fail
                    go_ret
                    exact ⟨ret_bool (by rw [HIT.out, HF.out]; exact (all_yes hI.out).symm), HBW.out⟩

          | false =>
            have HIT := hide (show identB S = identT S by rw [HID.out, if_neg (by decide)]; simp [h32])
            clear HID
            go_upto_region 6 with fail
            by_cases t0 : S.size = 0
            · go_wp2_with fail
              go_ret
              exact ⟨ret_bool (by rw [HIT.out]; simp [identT, t0]), HBW.out⟩
            · have t0p : 0 < S.size := by omega
              have t0b : ((S.size : Int) == 0) = false := beq_false_of_ne (by omega)
              have t0c : decide (32 < (S.size : Int)) = false := by simp; omega
              have hgk : (S.get! 0).toNat = S[0].toNat := by rw [get_eq S 0 t0p]
              obtain ⟨c, hcc⟩ : ∃ c, c = S[0].toNat := ⟨_, rfl⟩
              have hc2 : (S[0].toNat : Int) = (c : Int) := by rw [hcc]
              rw [← hcc] at hgk
              clear hcc
              have HLET := hide fun w => letter_same c w
              cases hl : letterN c with
              | false =>
                rw [hl] at HLET
                have HF := hide (show identT S = false by unfold identT; rw [hgk, hl]; simp)
                clear hgk hl
                go_wp2_with (first | (go_at_call 83; refine (HLET.out _).mono ?_; rintro e w' ⟨rfl, rfl⟩) | fail)
                go_ret
                exact ⟨ret_bool (by rw [HIT.out, HF.out]), HBW.out⟩
              | true =>
                rw [hl] at HLET
                have HF := hide (show identT S = idAll S by unfold identT; rw [hgk, hl]; simp [t0p])
                clear hgk hl
                go_wp2_with (first | (go_at_call 83; refine (HLET.out _).mono ?_; rintro e w' ⟨rfl, rfl⟩) | fail)
                clear hc2 HLET
                go_loopw [4, 40] (fun a iv wr => ∃ k : Nat, k ≤ S.size ∧ iv = .int .i64 k ∧ wr = wz ∧ Hid (∀ j, j < k → idChar (S.get! j).toNat = true)) (fun _ iv _ => S.size - (intOf iv).toNat)
                case atStart => exact ⟨0, Nat.zero_le _, rfl, rfl, hide fun j hj => by omega⟩
                case round =>
                  obtain ⟨k, hk, rfl, rfl, hI⟩ := hrel
                  by_cases hlt : k < S.size
                  · have hgk : (S.get! k).toNat = S[k].toNat := by rw [get_eq S k hlt]
                    obtain ⟨c, hcc⟩ : ∃ c, c = S[k].toNat := ⟨_, rfl⟩
                    have hc2 : (S[k].toNat : Int) = (c : Int) := by rw [hcc]
                    rw [← hcc] at hgk
                    clear hcc
                    have HGK := Lib.hid hgk
                    have HLET := hide fun w => letter_same c w
                    clear hgk
                    have hcase : (letterN c = true ∨ letterN c = false ∧ (c = 95 ∨ (c ≠ 95 ∧ (c < 48 ∨ (48 ≤ c ∧ (57 < c ∨ c ≤ 57)))))) := by
                      cases letterN c
                      · exact .inr ⟨rfl, by omega⟩
                      · exact .inl rfl
                    rcases hcase with hl | ⟨hl, rfl | ⟨g1, g2 | ⟨g2, g3 | g3⟩⟩⟩
                    · have HX := hide (show idChar c = true by unfold idChar; rw [hl]; rfl)
                      rw [hl] at HLET
                      clear hl
                      go_wp2_with (first | (go_at_call 83; refine (HLET.out _).mono ?_; rintro e w' ⟨rfl, rfl⟩) | fail)
                      go_roundw
                      case rel => exact ⟨k + 1, by omega, by go_num, by first | trivial | rfl, hide (all_up hI.out (by rw [HGK.out]; exact HX.out))⟩
                      case measure => simp [intOf]; omega
                    · rw [hl] at HLET
                      clear hl
                      go_wp2_with (first | (go_at_call 83; refine (HLET.out _).mono ?_; rintro e w' ⟨rfl, rfl⟩) | fail)
                      go_roundw
                      case rel => exact ⟨k + 1, by omega, by go_num, by first | trivial | rfl, hide (all_up hI.out (by rw [HGK.out]; rfl))⟩
                      case measure => simp [intOf]; omega
                    · have HX := hide (show idChar c = false by unfold idChar; rw [hl]; simp; omega)
                      have e1 : ((c : Int) == 95) = false := by simp; omega
                      have e2 : decide ((c : Int) < 48) = true := by simp; omega
                      rw [hl] at HLET
                      clear hl
                      go_wp2_with (first | (go_at_call 83; refine (HLET.out _).mono ?_; rintro e w' ⟨rfl, rfl⟩) | fail)
                      go_ret
                      exact ⟨ret_bool (by rw [HIT.out, HF.out]; exact (all_no hlt (by rw [HGK.out]; exact HX.out)).symm), HBW.out⟩
                    · have HX := hide (show idChar c = false by unfold idChar; rw [hl]; simp; omega)
                      have e1 : ((c : Int) == 95) = false := by simp; omega
                      have e2 : decide ((c : Int) < 48) = false := by simp; omega
                      have e3 : decide ((c : Int) > 57) = true := by simp; omega
                      rw [hl] at HLET
                      clear hl
                      go_wp2_with (first | (go_at_call 83; refine (HLET.out _).mono ?_; rintro e w' ⟨rfl, rfl⟩) | fail)
                      go_ret
                      exact ⟨ret_bool (by rw [HIT.out, HF.out]; exact (all_no hlt (by rw [HGK.out]; exact HX.out)).symm), HBW.out⟩
                    · have HX := hide (show idChar c = true by unfold idChar; rw [hl]; simp; omega)
                      have e1 : ((c : Int) == 95) = false := by simp; omega
                      have e2 : decide ((c : Int) < 48) = false := by simp; omega
                      have e3 : decide ((c : Int) > 57) = false := by simp; omega
                      rw [hl] at HLET
                      clear hl
                      go_wp2_with (first | (go_at_call 83; refine (HLET.out _).mono ?_; rintro e w' ⟨rfl, rfl⟩) | fail)
                      go_roundw
                      case rel => exact ⟨k + 1, by omega, by go_num, by first | trivial | rfl, hide (all_up hI.out (by rw [HGK.out]; exact HX.out))⟩
                      case measure => simp [intOf]; omega
                  · obtain rfl : k = S.size := by omega
                    go_wp2_with fail
                    go_ret
                    exact ⟨ret_bool (by rw [HIT.out, HF.out]; exact (all_yes hI.out).symm), HBW.out⟩
  · go_wp2_with fail
    go_ret
    exact ⟨ret_bool (by rw [HID.out]; simp; omega), HBW.out⟩
end Go.Proofs.YtmmbbndoimleaaaDoor

/- The text of data: what it is, how long, and Label, join. -/
namespace Go.Proofs.YtmmbbndoimleaaaDoor
open Go.RowKit Go.Shelf

def labelB (s : ByteArray) : ByteArray := if identB s = true then s else quoteB s
def joinB (o e : ByteArray) (l : List ByteArray) : ByteArray := o ++ ⟨(Lib.join (l.map (·.data.toList)) [44, 32]).toArray⟩ ++ e
def textK (k n : Int) (s : ByteArray) (L : List ByteArray) : ByteArray :=
  if k = 2 then (if n = 1 then ⟨#[116, 114, 117, 101]⟩ else ⟨#[102, 97, 108, 115, 101]⟩) else if k = 3 then numB n else if k = 4 then quoteB s
  else if k = 5 then joinB ⟨#[91]⟩ ⟨#[93]⟩ L else if k = 6 then joinB ⟨#[123]⟩ ⟨#[125]⟩ L else ⟨#[110, 117, 108, 108]⟩
def mtext (f : Dt → ByteArray) (x : ByteArray × Dt) : ByteArray := labelB x.1 ++ ⟨#[58, 32]⟩ ++ f x.2
def partsL (f : Dt → ByteArray) (d : Dt) : List ByteArray := (iD d).map f ++ (mD d).map (mtext f)
def textF : Nat → Dt → ByteArray
  | 0, _ => ByteArray.empty
  | m + 1, d => textK (kD d) (nD d) (sD d) (partsL (textF m) d)

/-- A sum over a list. -/
def sumN {α : Type} (f : α → Nat) : List α → Nat
  | [] => 0
  | x :: l => f x + sumN f l
theorem sumN_append {α : Type} (f : α → Nat) : ∀ l k : List α, sumN f (l ++ k) = sumN f l + sumN f k
  | [], k => by simp [sumN]
  | x :: l, k => by rw [List.cons_append, sumN, sumN, sumN_append f l k]; omega
theorem sumN_le {α : Type} (f : α → Nat) : ∀ {l : List α} {x : α}, x ∈ l → f x ≤ sumN f l
  | y :: l, x, h => by
    rcases List.mem_cons.1 h with rfl | h
    · rw [sumN]; omega
    · have := sumN_le f h; rw [sumN]; omega
theorem sumN_len {α : Type} (f : α → Nat) (hf : ∀ x, 1 ≤ f x) : ∀ l : List α, l.length ≤ sumN f l
  | [] => by simp [sumN]
  | x :: l => by have := sumN_len f hf l; have := hf x; rw [sumN, List.length_cons]; omega
theorem sumN_mono {α : Type} {f g : α → Nat} : ∀ {l : List α}, (∀ x ∈ l, f x ≤ g x) → sumN f l ≤ sumN g l
  | [], _ => Nat.le_refl _
  | x :: l, h => by
    have := sumN_mono (l := l) fun y hy => h y (List.mem_cons_of_mem _ hy)
    have := h x (List.mem_cons_self ..)
    rw [sumN, sumN]; omega
/-- A bound for the text, and for all that is made on the way. -/
def tbF : Nat → Dt → Nat
  | 0, _ => 60
  | m + 1, d => 60 + 4 * (sD d).size + sumN (tbF m) (iD d) + sumN (fun x : ByteArray × Dt => 10 + 4 * x.1.size + tbF m x.2) (mD d)

theorem bsize_append (a b : ByteArray) : (a ++ b).size = a.size + b.size := ByteArray.size_append
theorem quoteB_size (s : ByteArray) : (quoteB s).size ≤ 2 + 4 * s.size := by
  have : (quoteB s).size = (34 :: escL s ++ [34]).length := by
    show (34 :: escL s ++ [34]).toArray.size = _; simp
  rw [this, List.length_append]
  have h := fB_len (uptoL (fun j => escZ (s.get! j).toNat) s.size)
  rw [fB_def, uptoL_length] at h
  have : (34 :: escL s).length = (34 :: (uptoL (fun j => escZ (s.get! j).toNat) s.size).flatMap fun x => x.1.data.toList).length := rfl
  rw [this]; simp only [List.length_singleton]; omega
theorem labelB_size (s : ByteArray) : (labelB s).size ≤ 2 + 4 * s.size := by
  unfold labelB; split
  · omega
  · exact quoteB_size s
theorem trimF_size : ∀ (n : Nat) (s : ByteArray), (trimF n s).size ≤ s.size
  | 0, s => Nat.le_refl _
  | n + 1, s => by
    unfold trimF; split
    · exact Nat.le_trans (trimF_size n _) (by rw [ByteArray.size_extract]; omega)
    · exact Nat.le_refl _
theorem fracB_size (r : Nat) (hr : r < 10000) : (fracB r).size ≤ 20 := by
  have h1 := nDigits_small (u := r + 10000) (by omega)
  rw [← decB_size] at h1
  have := trimF_size ((decB (r + 10000)).extract 1 (decB (r + 10000)).size).size ((decB (r + 10000)).extract 1 (decB (r + 10000)).size)
  rw [ByteArray.size_extract] at this
  unfold fracB trimB
  rw [ByteArray.size_extract]
  omega
theorem numB_size (u : Int) : (numB u).size ≤ 50 := by
  unfold numB; split
  · decide
  · rename_i hv
    have hv : validB u = true := by cases h : validB u <;> simp_all
    have hv' : -1000000000000000 ≤ u ∧ u ≤ 1000000000000000 := by unfold validB at hv; simpa using hv
    have h1 := nDigits_small (u := u.natAbs / 10000) (by omega)
    rw [← decB_size] at h1
    have h2 := fracB_size (u.natAbs % 10000) (by omega)
    have h3 : (signB u (decB (u.natAbs / 10000))).size ≤ 21 := by
      unfold signB; split
      · rw [bsize_append]; have : (⟨#[45]⟩ : ByteArray).size = 1 := rfl
        omega
      · omega
    have h4 : (dotB (fracB (u.natAbs % 10000))).size ≤ 21 := by
      unfold dotB; split
      · have : ByteArray.empty.size = 0 := rfl
        omega
      · rw [bsize_append]; have : (⟨#[46]⟩ : ByteArray).size = 1 := rfl
        omega
    rw [bsize_append]; omega
theorem lens_sumN : ∀ l : List ByteArray, Lib.lens (l.map (·.data.toList)) = sumN (·.size) l
  | [] => rfl
  | x :: l => by
    have ih := lens_sumN l
    have : Lib.lens (List.map (·.data.toList) (x :: l)) = x.data.toList.length + Lib.lens (l.map (·.data.toList)) := by simp [Lib.lens]
    rw [this, ih, sumN, Array.length_toList]; rfl
theorem join_le (l : List ByteArray) : (Lib.join (l.map (·.data.toList)) [44, 32]).length ≤ sumN (fun x => x.size + 2) l := by
  cases l with
  | nil => simp [Lib.join_nil]
  | cons x l =>
    rw [List.map_cons, Lib.join_length]
    show _ + Lib.lens ((x :: l).map (fun y : ByteArray => y.data.toList)) ≤ _
    rw [lens_sumN]
    have : ∀ k : List ByteArray, sumN (fun x => x.size + 2) k = sumN (·.size) k + 2 * k.length := by
      intro k
      induction k with
      | nil => rfl
      | cons y k ih => rw [sumN, sumN, ih, List.length_cons]; omega
    rw [this]; simp; omega
theorem joinB_size (o e : ByteArray) (l : List ByteArray) (ho : o.size = 1) (he : e.size = 1) : (joinB o e l).size ≤ 2 + sumN (fun x => x.size + 2) l := by
  unfold joinB
  rw [bsize_append, bsize_append, ho, he]
  have : (⟨(Lib.join (l.map (·.data.toList)) [44, 32]).toArray⟩ : ByteArray).size = (Lib.join (l.map (·.data.toList)) [44, 32]).length := by show (_ : List UInt8).toArray.size = _; simp
  rw [this]; have := join_le l; omega
theorem sumN_map {α β : Type} (f : β → Nat) (g : α → β) : ∀ l : List α, sumN f (l.map g) = sumN (fun x => f (g x)) l
  | [] => rfl
  | x :: l => by rw [List.map_cons, sumN, sumN, sumN_map f g l]
/-- All texts between brackets are no longer than the bound. -/
theorem partsL_le (m : Nat) (f : Dt → ByteArray) (hf : ∀ x, (f x).size + 2 ≤ tbF m x) (d : Dt) : 60 + 4 * (sD d).size + sumN (fun x => x.size + 2) (partsL f d) ≤ tbF (m + 1) d := by
  unfold partsL
  rw [sumN_append, sumN_map, sumN_map, tbF]
  have h1 : sumN (fun x => (f x).size + 2) (iD d) ≤ sumN (tbF m) (iD d) := sumN_mono fun x _ => hf x
  have h2 : sumN (fun x => (mtext f x).size + 2) (mD d) ≤ sumN (fun x : ByteArray × Dt => 10 + 4 * x.1.size + tbF m x.2) (mD d) := sumN_mono fun x _ => by
    unfold mtext
    rw [bsize_append, bsize_append]
    have := labelB_size x.1
    have := hf x.2
    have : (⟨#[58, 32]⟩ : ByteArray).size = 2 := rfl
    omega
  omega
theorem textF_le : ∀ (m : Nat) (d : Dt), (textF m d).size + 2 ≤ tbF m d
  | 0, d => by rw [textF, tbF]; decide
  | m + 1, d => by
    have h := partsL_le m (textF m) (textF_le m) d
    rw [textF]; unfold textK
    split
    · split
      · have : (⟨#[116, 114, 117, 101]⟩ : ByteArray).size = 4 := rfl
        omega
      · have : (⟨#[102, 97, 108, 115, 101]⟩ : ByteArray).size = 5 := rfl
        omega
    · split
      · have := numB_size (nD d); omega
      · split
        · have := quoteB_size (sD d); omega
        · split
          · have := joinB_size ⟨#[91]⟩ ⟨#[93]⟩ (partsL (textF m) d) rfl rfl; omega
          · split
            · have := joinB_size ⟨#[123]⟩ ⟨#[125]⟩ (partsL (textF m) d) rfl rfl; omega
            · have : (⟨#[110, 117, 108, 108]⟩ : ByteArray).size = 4 := rfl
              omega

theorem Label_run (S : ByteArray) (hS : S.size ≤ 1000000000) (w : World) : Calls Tryd.prog 62 #[.string S] w fun e w' => e = .returned (.string (labelB S)) ∧ Below w.heap.size w w' := by
  have HI := hide fun w => Ident_run S hS w
  have HQ := hide fun w => Quote_run S hS w
  unfold labelB
  obtain ⟨b, hb⟩ : ∃ b, b = identB S := ⟨_, rfl⟩
  rw [← hb] at HI ⊢
  clear hb
  go_enter Tryd.func62, Tryd.ntmps62
  go_wp2_with fail
  refine (HI.out _).mono ?_; rintro e w1 ⟨rfl, hB1⟩
  have HB1 := hide hB1
  clear hB1
  cases b with
  | true =>
    go_wp2_with fail
    go_ret
    exact ⟨rfl, HB1.out⟩
  | false =>
    go_wp2_with fail
    refine (HQ.out _).mono ?_; rintro e w2 ⟨rfl, hB2⟩
    have HB2 := hide (HB1.out.trans (hB2.mono HB1.out.size))
    clear hB2
    go_wp2_with fail
    go_ret
    exact ⟨rfl, HB2.out⟩

theorem joinExtra : Builder.Extra Tryd.prog joinL_ren where
  sizeBuilder := by kernel_rfl
  liesBuilder := by kernel_rfl
  t5 := Tryd.underlying5
  a5 := Tryd.isAgg5
  z5 := Tryd.sizeOf5
  v5 := Tryd.zeroValue5
  infoByte := by kernel_rfl
  cellsByte := by kernel_rfl
  sizeByte := by kernel_rfl
  neB5 := by decide

/-- The strings, a cell each. -/
def strsV (l : List ByteArray) : List Value := l.map Value.string
theorem strsV_get {l : List ByteArray} {j : Nat} {x : ByteArray} (h : l[j]? = some x) : (strsV l)[j]? = some (.string x) := by
  unfold strsV; rw [List.getElem?_map, h]; rfl

theorem join_run (o e : ByteArray) (u : Value) (l : List ByteArray) (base : Nat) (w : World) (hown : w.ownsRow base 9 1 u l.length (strsV l)) (ho : o.size = 1) (he : e.size = 1) (hl : sumN (fun x => x.size + 2) l ≤ 1000000000) :
    Calls Tryd.prog 65 #[.string o, .string e, u] w fun r w' => r = .returned (.string (joinB o e l)) ∧ Below w.heap.size w w' := by
  have hlen : l.length ≤ 1000000000 := Nat.le_trans (sumN_len (fun x : ByteArray => x.size + 2) (fun x => by omega) l) hl
  have hjl := join_le l
  unfold joinB
  have HJ : Hid (∀ w1, Below w.heap.size w w1 → Calls Tryd.prog 44 #[u, .string ⟨#[44, 32]⟩] w1 fun r w' => r = .returned (.string ⟨(Lib.join (l.map (·.data.toList)) [44, 32]).toArray⟩) ∧ Below w1.heap.size w1 w') := hide fun w1 hB => by
    rcases hown.2 with ⟨rfl, hn⟩ | ⟨g, cap, cur, rfl, hb, hg, hc, _⟩
    · have : l = [] := List.eq_nil_of_length_eq_zero hn
      subst this
      exact (Any.strings_Join_none joinL joinExtra none 0 ⟨#[44, 32]⟩ w1).mono fun e w' ⟨he, hw⟩ => ⟨he, hw ▸ Below.refl _ _⟩
    · have hgl : g < w.heap.size := (Array.getElem?_eq_some_iff.1 hg).1
      exact Any.strings_Join joinL joinExtra g 0 cap l ⟨#[44, 32]⟩ w1 (fun j x hx => by
        rw [Nat.zero_add]
        have := hown.cells rfl j _ (strsV_get hx)
        rw [add_head] at this
        exact (hB.cell (p := ⟨g, j, none⟩) hgl).trans this) (by have := hB.size; omega) (by omega) hc (by show (Lib.join (l.map (·.data.toList)) [44, 32]).length ≤ _; omega)
  obtain ⟨J, hJ⟩ : ∃ J : ByteArray, J = ⟨(Lib.join (l.map (·.data.toList)) [44, 32]).toArray⟩ := ⟨_, rfl⟩
  have hJs : J.size ≤ 1000000000 := by rw [hJ]; show (_ : List UInt8).toArray.size ≤ _; simp; omega
  rw [← hJ] at HJ ⊢
  clear hJ hown hjl hl hlen
  go_enter Tryd.func65, Tryd.ntmps65
  go_wp2_with fail
  refine (HJ.out _ (by first | exact Below.refl _ _ | assumption)).mono ?_; rintro e w1 ⟨rfl, hB1⟩
  go_wp2_with fail
  go_ret
  exact ⟨rfl, hB1⟩
end Go.Proofs.YtmmbbndoimleaaaDoor

/- size, short and Small of the reference. -/
namespace Go.Proofs.YtmmbbndoimleaaaDoor
open Go.RowKit

/-- The loop of size. -/
def loopS (f : Dt → Int → Int) (most : Int) : List Dt → Int → Int
  | [], n => n
  | x :: l, n => if n ≤ most then loopS f most l (n + f x (most - n)) else n
def sizeF : Nat → Dt → Int → Int
  | 0, _, _ => 0
  | m + 1, d, most => loopS (sizeF m) most (kids d) 1
theorem loopS_le (f : Dt → Int → Int) (hf : ∀ x b, 0 ≤ b → 0 ≤ f x b ∧ f x b ≤ b + 1) (most : Int) : ∀ (l : List Dt) (n : Int), 1 ≤ n → n ≤ most + 1 → 1 ≤ loopS f most l n ∧ loopS f most l n ≤ most + 1
  | [], n, h1, h2 => ⟨h1, h2⟩
  | x :: l, n, h1, h2 => by
    unfold loopS
    split
    · have := hf x (most - n) (by omega)
      exact loopS_le f hf most l _ (by omega) (by omega)
    · exact ⟨h1, h2⟩
theorem sizeF_le : ∀ (m : Nat) (d : Dt) (most : Int), 0 ≤ most → 0 ≤ sizeF m d most ∧ sizeF m d most ≤ most + 1
  | 0, _, most, h => by simp [sizeF]; omega
  | m + 1, d, most, h => by
    have := loopS_le (sizeF m) (fun x b hb => sizeF_le m x b hb) most (kids d) 1 (by omega) (by omega)
    unfold sizeF; omega
theorem loopS_append (f : Dt → Int → Int) (most : Int) : ∀ (a b : List Dt) (n : Int), loopS f most (a ++ b) n = loopS f most b (loopS f most a n)
  | [], b, n => rfl
  | x :: a, b, n => by
    by_cases h : n ≤ most
    · rw [List.cons_append, loopS, if_pos h, loopS, if_pos h]; exact loopS_append f most a b _
    · rw [List.cons_append, loopS, if_neg h, loopS, if_neg h]
      cases b with
      | nil => rfl
      | cons y b => rw [loopS, if_neg h]

end Go.Proofs.YtmmbbndoimleaaaDoor

/- short and Small of the reference. -/
namespace Go.Proofs.YtmmbbndoimleaaaDoor
open Go.RowKit

def shortM (f : Dt → Bool) (x : ByteArray × Dt) : Bool := decide (x.1.size ≤ 80) && f x.2
def shortF : Nat → Dt → Bool
  | 0, _ => true
  | m + 1, d => decide ((sD d).size ≤ 80) && ((iD d).all (shortF m) && (mD d).all (shortM (shortF m)))

def smallF (m : Nat) (d : Dt) : Bool := decide (sizeF m d 40 ≤ 40) && shortF m d
end Go.Proofs.YtmmbbndoimleaaaDoor

/- measure, Depth and Size; depth, Depth and Size of the reference. -/
namespace Go.Proofs.YtmmbbndoimleaaaDoor
open Go.RowKit

def maxL (f : Dt → Int) : List Dt → Int → Int
  | [], a => a
  | x :: l, a => maxL f l (max a (f x))
def sumL (f : Dt → Int) : List Dt → Int
  | [] => 0
  | x :: l => f x + sumL f l
/-- The levels, and the number of parts. -/
def heightF : Nat → Dt → Int
  | 0, _ => 0
  | m + 1, d => maxL (heightF m) (kids d) 0 + 1
def partsF : Nat → Dt → Int
  | 0, _ => 0
  | m + 1, d => 1 + sumL (partsF m) (kids d)
theorem sumL_nonneg (f : Dt → Int) (hf : ∀ x, 0 ≤ f x) : ∀ l : List Dt, 0 ≤ sumL f l
  | [] => by simp [sumL]
  | x :: l => by have := hf x; have := sumL_nonneg f hf l; unfold sumL; omega
theorem partsF_nonneg : ∀ (m : Nat) (d : Dt), 0 ≤ partsF m d
  | 0, _ => by simp [partsF]
  | m + 1, d => by have := sumL_nonneg (partsF m) (partsF_nonneg m) (kids d); unfold partsF; omega
theorem maxL_le (f g : Dt → Int) (hfg : ∀ x, f x ≤ g x) (hg : ∀ x, 0 ≤ g x) : ∀ (l : List Dt) (a : Int), 0 ≤ a → a ≤ maxL f l a ∧ maxL f l a ≤ a + sumL g l
  | [], a, h => by simp [maxL, sumL]
  | x :: l, a, h => by
    have h1 := hfg x; have h2 := hg x
    have h3 := maxL_le f g hfg hg l (max a (f x)) (by omega)
    unfold maxL sumL; omega
theorem heightF_le : ∀ (m : Nat) (d : Dt), 0 ≤ heightF m d ∧ heightF m d ≤ partsF m d
  | 0, _ => by simp [heightF, partsF]
  | m + 1, d => by
    have := maxL_le (heightF m) (partsF m) (fun x => (heightF_le m x).2) (partsF_nonneg m) (kids d) 0 (by omega)
    unfold heightF partsF; omega
theorem sumL_mem {f : Dt → Int} (hf : ∀ x, 0 ≤ f x) : ∀ {l : List Dt} {x : Dt}, x ∈ l → f x ≤ sumL f l
  | y :: l, x, h => by
    have h1 := hf y; have h2 := sumL_nonneg f hf l
    unfold sumL
    rcases List.mem_cons.1 h with rfl | h
    · omega
    · have := sumL_mem hf h; omega
theorem partsF_pos {w : World} {B : Nat} : ∀ {m : Nat} {d : Dt} {A c A' c'}, Parts w B m d A c A' c' → 1 ≤ partsF m d
  | 0, _, _, _, _, _, h => h.elim
  | m + 1, d, _, _, _, _, _ => by have := sumL_nonneg (partsF m) (partsF_nonneg m) (kids d); unfold partsF; omega
/-- What the parts of data read as. -/
theorem parts_kid {w : World} {B m : Nat} {d : Dt} {A c A' c'} (h : Parts w B (m + 1) d A c A' c') {x : Dt} (hx : x ∈ kids d) : ∃ a q a' q', Parts w B m x a q a' q' := by
  rcases List.mem_append.1 hx with hx | hx
  · obtain ⟨i, hi⟩ := List.getElem?_of_mem hx
    obtain ⟨ad, _, _, a, q, a', q', _, hp⟩ := h.2.1 i x hi
    exact ⟨a, q, a', q', hp⟩
  · obtain ⟨y, hy, rfl⟩ := List.mem_map.1 hx
    obtain ⟨i, hi⟩ := List.getElem?_of_mem hy
    obtain ⟨ad, _, _, _, a, q, a', q', _, hp⟩ := h.2.2 i y hi
    exact ⟨a, q, a', q', hp⟩
theorem length_le_sumL {f : Dt → Int} (l : List Dt) (hf : ∀ x ∈ l, 1 ≤ f x) : (l.length : Int) ≤ sumL f l := by
  induction l with
  | nil => simp [sumL]
  | cons x l ih =>
    have h1 := hf x (List.mem_cons_self ..)
    have h2 := ih fun y hy => hf y (List.mem_cons_of_mem _ hy)
    unfold sumL; rw [List.length_cons]; omega
theorem kids_le {w : World} {B m : Nat} {d : Dt} {A c A' c'} (h : Parts w B (m + 1) d A c A' c') : ((kids d).length : Int) + 1 ≤ partsF (m + 1) d := by
  have := length_le_sumL (f := partsF m) (kids d) fun x hx => by
    obtain ⟨a, q, a', q', hp⟩ := parts_kid h hx
    exact partsF_pos hp
  unfold partsF; omega
theorem parts_kid_le {m : Nat} {d x : Dt} (hx : x ∈ kids d) : partsF m x ≤ partsF (m + 1) d := by
  have := sumL_mem (partsF_nonneg m) hx
  show partsF m x ≤ 1 + sumL (partsF m) (kids d)
  omega
theorem fit_of_parts {w : World} {B : Nat} : ∀ (m : Nat) {d : Dt} {A c A' c'} (r : Nat), Parts w B m d A c A' c' → partsF m d ≤ 1000000000 → FitD r d
  | _, d, _, _, _, _, 0, _, _ => trivial
  | 0, d, _, _, _, _, r + 1, h, _ => h.elim
  | m + 1, d, A, c, A', c', r + 1, h, hle => by
    refine ⟨by have := kids_le h; omega, fun x hx => ?_⟩
    obtain ⟨a, q, a', q', hp⟩ := parts_kid h hx
    exact fit_of_parts m r hp (by have := parts_kid_le (m := m) hx; omega)

end Go.Proofs.YtmmbbndoimleaaaDoor
