/- Arguments that read as data, opened to the words of the walks; The table of powers of ten as the row lays it; a witness world. -/
import Derived.Test.YtajpgmacabeeeaaDoorRows
import Derived.Test.YtajpgmacabeeeaaDoorGA
import Derived.Test.YtajpgmacabeeeaaDoorGE
import Derived.ProofKit
import Derived.OpenShut
import Derived.ShutString
import Derived.ChangeOld
import Derived.Deep.Slices
import Derived.Deep.Strs
import Derived.Lib.LaidTab
import Derived.Lib.LaidIn

/- Arguments that read as data, opened to the words of the walks. -/
namespace Go.Proofs.YtajpgmacabeeeaaDoor
open Go.ChangeShapes Go.WideShapes Go.ChangeAt Go.RowKit Go.Deep

theorem ownK : ownKnob Tryd.prog.godebug = none := by kernel_rfl
theorem laidOut : laidOutB Tryd.prog = true := by kernel_rfl
theorem cellsData : Tryd.prog.cellsOf 25 = 5 := by kernel_rfl
theorem cellsMember : Tryd.prog.cellsOf 53 = 6 := by kernel_rfl
theorem cellsInt : Tryd.prog.cellsOf 3 = 1 := by kernel_rfl
theorem cellsInt64 : Tryd.prog.cellsOf 2 = 1 := by kernel_rfl
theorem cellsString : Tryd.prog.cellsOf 9 = 1 := by kernel_rfl
theorem cellsDatas : Tryd.prog.cellsOf 22 = 1 := by kernel_rfl
theorem cellsMembers : Tryd.prog.cellsOf 23 = 1 := by kernel_rfl

theorem cells_get {w : World} {base n : Nat} {p : Addr} {cs : List Value} (h : w.cells? base p n = some cs) : cs.length = n ∧ ∀ i, i < n → w.cell? (p.add i) = cs[i]? := by
  unfold World.cells? at h
  split at h
  · refine ⟨by have := mapM_some_length h; simpa using this, fun i hi => mapM_some_get h i i (by simp [hi])⟩
  · cases h
theorem add_pos (p : Addr) (k : Nat) (hk : 0 < k) : p.add k = ⟨p.block, p.off + k, none⟩ := by unfold Addr.add; rw [if_neg (by omega)]

section
variable {H : Type} {enc : TypeId × Value → H} {P : Program} {w : World} {base : Nat} {spare : Nat → Bool} {held : Bool}
theorem trod_five {t : TypeId} {f0 f1 f2 f3 f4 : Field} {fuel : Nat} {cs : List Value} {x : DataW H × List MemPlace} (ht : P.underlying t = some (.struct #[f0, f1, f2, f3, f4])) (h : DataW.trod enc P w base spare held fuel t cs = some x) :
    ∃ y0 y1 y2 y3 y4 n, fuel = n + 1 ∧ cs.length = P.cellsOf t ∧ DataW.trod enc P w base spare held n f0.type ((cs.drop f0.offset).take (P.cellsOf f0.type)) = some y0 ∧
      DataW.trod enc P w base spare held n f1.type ((cs.drop f1.offset).take (P.cellsOf f1.type)) = some y1 ∧ DataW.trod enc P w base spare held n f2.type ((cs.drop f2.offset).take (P.cellsOf f2.type)) = some y2 ∧
      DataW.trod enc P w base spare held n f3.type ((cs.drop f3.offset).take (P.cellsOf f3.type)) = some y3 ∧ DataW.trod enc P w base spare held n f4.type ((cs.drop f4.offset).take (P.cellsOf f4.type)) = some y4 := by
  obtain ⟨xs, n, hn, rfl, hl, hlen, hf⟩ := DataW.trod_struct ht h
  match xs, hlen with
  | [y0, y1, y2, y3, y4], _ => exact ⟨y0, y1, y2, y3, y4, n, hn, hl, by simpa using hf 0 f0 rfl, by simpa using hf 1 f1 rfl, by simpa using hf 2 f2 rfl, by simpa using hf 3 f3 rfl, by simpa using hf 4 f4 rfl⟩
theorem trod_two {t : TypeId} {f0 f1 : Field} {fuel : Nat} {cs : List Value} {x : DataW H × List MemPlace} (ht : P.underlying t = some (.struct #[f0, f1])) (h : DataW.trod enc P w base spare held fuel t cs = some x) :
    ∃ y0 y1 n, fuel = n + 1 ∧ cs.length = P.cellsOf t ∧ DataW.trod enc P w base spare held n f0.type ((cs.drop f0.offset).take (P.cellsOf f0.type)) = some y0 ∧
      DataW.trod enc P w base spare held n f1.type ((cs.drop f1.offset).take (P.cellsOf f1.type)) = some y1 := by
  obtain ⟨xs, n, hn, rfl, hl, hlen, hf⟩ := DataW.trod_struct ht h
  match xs, hlen with
  | [y0, y1], _ => exact ⟨y0, y1, n, hn, hl, by simpa using hf 0 f0 rfl, by simpa using hf 1 f1 rfl⟩
end
section
variable {H : Type} {enc : TypeId × Value → H} {W : World} {base : Nat} {spare : Nat → Bool} {held : Bool}

set_option maxRecDepth 20000 in
theorem dat_of_trod : ∀ (f : Nat) {cs : List Value} {x : DataW H × List MemPlace}, DataW.trod enc Tryd.prog W base spare held f 25 cs = some x → ∃ D a c a' c', cs = datCs D a c a' c' ∧ Parts W W.heap.size f D a c a' c' := by
  intro f
  induction f using Nat.strongRecOn with
  | ind f ih =>
    intro cs x h
    obtain ⟨x0, x1, x2, x3, x4, n, hfn, hl, f0, f1, f2, f3, f4⟩ := trod_five Tryd.underlying25 h
    rw [cellsData] at hl
    match cs, hl with
    | [u0, u1, u2, u3, u4], _ =>
      simp only [cellsInt, cellsInt64, cellsString, cellsDatas, cellsMembers] at f0 f1 f2 f3 f4
      obtain ⟨z0, e0, _⟩ := DataW.trod_int Tryd.underlying3 f0
      obtain ⟨z1, e1, _⟩ := DataW.trod_int Tryd.underlying2 f1
      obtain ⟨z2, e2, _⟩ := DataW.trod_string Tryd.underlying9 f2
      simp at e0 e1 e2
      subst e0 e1 e2
      have key3 : ∃ A c l, u3 = .slice A l.length c ∧ l.length ≤ c ∧ c ≤ maxLen ∧ DatsAt (Parts W W.heap.size n) W W.heap.size A l := by
        rcases DataW.trod_slice Tryd.underlying22 f3 with ⟨hcs, _⟩ | ⟨ad, len, cap, elems, rest, n', hn', hcs, _, _, hle, hm, hel, hget, _⟩
        · simp at hcs
          exact ⟨none, 0, [], by rw [hcs]; rfl, Nat.le_refl _, Nat.zero_le _, fun i x h => by simp at h⟩
        · simp at hcs
          have key : ∀ i, ∃ D, i < len → ∃ a c a' c', Five W (ad.add (i * 5)) D a c a' c' ∧ Parts W W.heap.size n' D a c a' c' := fun i => by
            by_cases hi : i < len
            · have hg := hget i hi
              rw [cellsData] at hg
              have hi' : i < elems.length := by omega
              rw [List.getElem?_eq_getElem hi', Option.bind_eq_some_iff] at hg
              obtain ⟨cs', hc, ht⟩ := hg
              obtain ⟨D, a, c, a', c', e, hp⟩ := ih n' (by omega) ht
              obtain ⟨_, hcell⟩ := cells_get hc
              refine ⟨D, fun _ => ⟨a, c, a', c', five_of (fun k => (ad.add (i * 5)).add k) rfl (fun k hk => add_pos _ _ hk) (fun k hk u hu => by rw [hcell k hk, e]; exact hu), hp⟩⟩
            · exact ⟨mkD 0 0 ByteArray.empty [] [], fun h => absurd h hi⟩
          obtain ⟨F, hF⟩ : ∃ F : Nat → Dt, ∀ i, i < len → ∃ a c a' c', Five W (ad.add (i * 5)) (F i) a c a' c' ∧ Parts W W.heap.size n' (F i) a c a' c' := ⟨fun i => Classical.choose (key i), fun i => Classical.choose_spec (key i)⟩
          refine ⟨some ad, cap, (List.range len).map F, by rw [hcs]; simp, by simpa using hle, hm, fun i x hx => ?_⟩
          have hlt : i < len := by have := (List.getElem?_eq_some_iff.1 hx).1; simpa using this
          simp [hlt] at hx
          subst hx
          obtain ⟨a, c, a', c', h5, hp⟩ := hF i hlt
          refine ⟨ad, rfl, ?_, a, c, a', c', h5, hp.le (by omega)⟩
          have := World.block_lt_of_cell? W _ h5.1
          rwa [block_of_add] at this
      have key4 : ∃ A c l, u4 = .slice A (List.length l) c ∧ l.length ≤ c ∧ c ≤ maxLen ∧ MemsAt (Parts W W.heap.size n) W W.heap.size A l := by
        rcases DataW.trod_slice Tryd.underlying23 f4 with ⟨hcs, _⟩ | ⟨ad, len, cap, elems, rest, n', hn', hcs, _, _, hle, hm, hel, hget, _⟩
        · simp at hcs
          exact ⟨none, 0, [], by rw [hcs]; rfl, Nat.le_refl _, Nat.zero_le _, fun i x h => by simp at h⟩
        · simp at hcs
          have key : ∀ i, ∃ M : ByteArray × Dt, i < len → W.cell? (ad.add (i * 6)) = some (.string M.1) ∧ ∃ a c a' c', Five W ⟨(ad.add (i * 6)).block, (ad.add (i * 6)).off + 1, none⟩ M.2 a c a' c' ∧ Parts W W.heap.size n' M.2 a c a' c' := fun i => by
            by_cases hi : i < len
            · have hg := hget i hi
              rw [cellsMember] at hg
              have hi' : i < elems.length := by omega
              rw [List.getElem?_eq_getElem hi', Option.bind_eq_some_iff] at hg
              obtain ⟨cs', hc, ht⟩ := hg
              obtain ⟨hcl, hcell⟩ := cells_get hc
              obtain ⟨t0, t1, n2, hn2, _, y0, y1⟩ := trod_two Tryd.underlying53 ht
              match cs', hcl with
              | v0 :: cs2, hcl =>
                simp only [cellsString, cellsData] at y0 y1
                obtain ⟨s0, e0, _⟩ := DataW.trod_string Tryd.underlying9 y0
                simp at e0
                subst e0
                have hc2 : cs2.length = 5 := by simpa using hcl
                have y1' : DataW.trod enc Tryd.prog W base spare held n2 25 cs2 = some t1 := by
                  have e : (cs2.take 5) = cs2 := List.take_of_length_le (by omega)
                  simpa [e] using y1
                obtain ⟨D, a, c, a', c', e, hp⟩ := ih n2 (by omega) y1'
                refine ⟨(s0, D), fun _ => ⟨hcell 0 (by omega), a, c, a', c', five_of (fun k => (ad.add (i * 6)).add (1 + k)) (add_pos _ 1 (by omega)) (fun k hk => by rw [add_pos _ _ (by omega)]; simp [Nat.add_assoc]) (fun k hk u hu => by
                  rw [hcell (1 + k) (by omega), Nat.add_comm, List.getElem?_cons_succ, e]; exact hu), hp.le (by omega)⟩⟩
            · exact ⟨(ByteArray.empty, mkD 0 0 ByteArray.empty [] []), fun h => absurd h hi⟩
          obtain ⟨F, hF⟩ : ∃ F : Nat → ByteArray × Dt, ∀ i, i < len → W.cell? (ad.add (i * 6)) = some (.string (F i).1) ∧ ∃ a c a' c', Five W ⟨(ad.add (i * 6)).block, (ad.add (i * 6)).off + 1, none⟩ (F i).2 a c a' c' ∧ Parts W W.heap.size n' (F i).2 a c a' c' := ⟨fun i => Classical.choose (key i), fun i => Classical.choose_spec (key i)⟩
          refine ⟨some ad, cap, (List.range len).map F, by rw [hcs]; simp, by simpa using hle, hm, fun i x hx => ?_⟩
          have hlt : i < len := by have := (List.getElem?_eq_some_iff.1 hx).1; simpa using this
          simp [hlt] at hx
          subst hx
          obtain ⟨h0, a, c, a', c', h5, hp⟩ := hF i hlt
          refine ⟨ad, rfl, ?_, h0, a, c, a', c', h5, hp.le (by omega)⟩
          have := World.block_lt_of_cell? W _ h0
          rwa [block_of_add] at this
      obtain ⟨A, c, IS, rfl, i1, i2, i3⟩ := key3
      obtain ⟨A', c', MS, rfl, m1, m2, m3⟩ := key4
      subst hfn
      exact ⟨mkD z0 z1 z2 IS MS, A, c, A', c', by unfold datCs; simp, ⟨i1, i2, by rw [mD_mk]; exact m1, m2⟩, i3, by rw [mD_mk]; exact m3⟩
set_option maxRecDepth 20000 in
theorem dat_of {r : Reach} {b0 : Nat} {v : Value} {d : DataW H} {p : List MemPlace} (hv : Value.okWide Tryd.prog W r b0 25 v) (h : DataW.Trod enc Tryd.prog W base spare held 25 v d p) :
    ∃ m D a c a' c', v = datV D a c a' c' ∧ Parts W W.heap.size m D a c a' c' := by
  obtain ⟨f, hf⟩ := h
  obtain ⟨D, a, c, a', c', e, hp⟩ := dat_of_trod f hf
  obtain ⟨xs, rfl, _⟩ := okWide_struct Tryd.underlying25 hv
  refine ⟨f, D, a, c, a', c', ?_, hp⟩
  have e' : xs.toList = datCs D a c a' c' := by simpa [Value.cells] using e
  unfold datV
  rw [← e', Array.toArray_toList]
end
theorem gT : Tryd.prog.globalNamed "internal/strconv.uint64pow10" = some 0 := by kernel_rfl
end Go.Proofs.YtajpgmacabeeeaaDoor

/- The table of powers of ten as the row lays it; a witness world. -/
namespace Go.Proofs.YtajpgmacabeeeaaDoor
open Go.ChangeShapes Go.WideShapes Go.ChangeAt Go.RowKit Go.Deep

theorem laid_tail {P : Program} {a : String × DataW Unit} {rest : List (String × DataW Unit)} {W : World} (h : laidMet P (a :: rest) W) : laidMet P rest W := by
  obtain ⟨ps, ⟨g, t, cs, fuel, p, q, _, _, _, _, hq, rfl⟩, hn, hr⟩ := h
  exact ⟨q, hq, (List.nodup_append.1 hn).2.1, fun b off hm => hr b off (List.mem_append_right _ hm)⟩
theorem gTen : Tryd.prog.globalNamed "internal/strconv.uint64pow10" = some 0 := by kernel_rfl
theorem gTenType : (Tryd.prog.globals[0]?).map (·.type) = some 119 := by kernel_rfl
theorem tab_of {W : World} (h : laidMetH Tryd.prog [("math/bits.deBruijn32tab", Rows.laid_math_bits_deBruijn32tab), ("math/bits.deBruijn64tab", Rows.laid_math_bits_deBruijn64tab), ("internal/strconv.uint64pow10", Rows.laid_internal_strconv_uint64pow10)] W) : Tab W := by
  have h' : laidMet Tryd.prog [("math/bits.deBruijn32tab", Rows.laid_math_bits_deBruijn32tab), ("math/bits.deBruijn64tab", Rows.laid_math_bits_deBruijn64tab), ("internal/strconv.uint64pow10", Rows.laid_internal_strconv_uint64pow10)] W := h
  have h2 : laidMet Tryd.prog [("internal/strconv.uint64pow10", Lib.tabData .u64 Lib.pow10Tab)] W := laid_tail (laid_tail h')
  exact Lib.tabIs_of_head gTen gTenType Tryd.underlying119 Tryd.underlying84 (by kernel_rfl) (by kernel_rfl) h2
abbrev LAID : List (String × DataW Unit) := [("math/bits.deBruijn32tab", Rows.laid_math_bits_deBruijn32tab), ("math/bits.deBruijn64tab", Rows.laid_math_bits_deBruijn64tab), ("internal/strconv.uint64pow10", Rows.laid_internal_strconv_uint64pow10)]
def numsOf : DataW Unit → Array Value
  | .agg l => (l.filterMap fun | .lit (.int k n) => some (Value.int k n) | _ => none).toArray
  | _ => #[]
/-- The settled world, the three tables laid. -/
noncomputable def laidWorld (os : Os) : World :=
  let w0 := World.holding Tryd.prog os ⟨#[], #[], []⟩
  let put := fun (a : Array Value) => fun
    | Obj.cells _ t frozen => Obj.cells a t frozen
    | o => o
  { w0 with heap := ((w0.heap.modify 0 (put (numsOf Rows.laid_internal_strconv_uint64pow10))).modify 3 (put (numsOf Rows.laid_math_bits_deBruijn64tab))).modify 2 (put (numsOf Rows.laid_math_bits_deBruijn32tab)) }
set_option maxRecDepth 100000 in
theorem laid_met (os : Os) (args : Array Value) : laidMetH Tryd.prog LAID ((laidWorld os).forCall (fun _ _ => 0) ⟨#[], args, []⟩).memory :=
  (LaidIn.of_run (l := LAID) [0, 2, 3] 8 (by kernel_rfl) (by kernel_rfl) (by kernel_rfl) (by kernel_rfl)).met
end Go.Proofs.YtajpgmacabeeeaaDoor
