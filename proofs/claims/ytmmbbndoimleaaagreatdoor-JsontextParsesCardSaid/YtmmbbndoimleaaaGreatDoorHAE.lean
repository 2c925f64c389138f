/- Quote of package quote; Ident and Label of package quote; The text of data: what it is, how long, and Label, join; text and Text of package data; Compare and Equal; Results that lie in a block; step; clean: the function's own blocks, and rows that grow by data made afresh. -/
import Derived.Test.YtmmbbndoimleaaaGreatDoorHAD
import Derived.Lib.AppendStr
import Derived.Test.YtmmbbndoimleaaaGreatDoorHAA
import Derived.Test.YtmmbbndoimleaaaGreatDoorHAC
import Derived.Test.YtmmbbndoimleaaaGreatDoorHAB
import Derived.Laws.ResultCell
import Derived.Laws.Rows

/- Quote of package quote. -/
namespace Go.Proofs.YtmmbbndoimleaaaGreatDoor
open Go.RowKit

attribute [local go_sem] Oper.semAt_some

theorem wpListIn_append_str {F : Fence} {n : Nat} {P : Program} (w : World) {ops : Array Oper} {rest : List Oper} {o : Oper} {a : Act} {Q : Exit → Act → World → Prop}
    (hg : o.guard = none) (sl x : Operand) (t u : TypeId) (ho : o.op = .call { callee := .builtin .append, args := #[sl, x], argTypes := #[t, u] })
    (base : Nat) (e : TypeId) (i : TypeInfo) (ht : P.underlying t = some (.slice e)) (hu : P.underlying u = some .string) (hi : P.info? e = some i) (hz : i.zero = some (.int .u8 0))
    (hsize : i.size = 1) (hby : i.bytes = 1)
    (v : Value) (k : Nat) (xs : List Value) (hs : a.eval sl = v) (hown : w.ownsRow base e 1 v k xs) (s : ByteArray) (hx : a.eval x = .string s)
    (h63 : k + s.size ≤ maxLen) (hbytes : k + s.size ≤ 140737488355328) (hbase : base ≤ w.heap.size)
    (h : ∀ v' w', w'.ownsRow base e 1 v' (k + s.size) (xs ++ Lib.strCells s) → w.grownBy w' v.ownBlock → wpListIn F n P ops Q rest (a.put o.dst v') w') : wpListIn F n P ops Q (o :: rest) a w := by
  refine wpListIn_plain hg fun K hK => ?_
  obtain ⟨v', w', hr, h2, h3, _⟩ := Lib.run_append_own_string (P := P) w base t u o.type e i ht hu hi hz hsize hby v k xs hown s h63 hbytes hbase
  unfold Oper.wpIn
  refine ⟨?_, ?_⟩
  · simp [Oper.about, ho, resolve, Target.leads, Sem.run_pure]
  · rw [Oper.semAt_plain F _ _ (by rw [ho]; intro c hc'; cases hc')]
    simp [execOp, ho, resolve, invoke, builtin, hs, hx, hr, Result.andThen]
    exact hK _ _ (h v' w' h2 h3)

def bytesV (l : List UInt8) : List Value := l.map fun b => .int .u8 (b.toNat : Int)
/-- The bytes of a literal, without the quotes. -/
def escL (S : ByteArray) : List UInt8 := (uptoL (fun j => escZ (S.get! j).toNat) S.size).flatMap fun x => x.1.data.toList
def quoteB (S : ByteArray) : ByteArray := ⟨(34 :: escL S ++ [34]).toArray⟩
theorem infoU8 : (Tryz.prog.info? 5).map (fun i => (i.zero, i.size, i.bytes)) = some (some (.int .u8 0), 1, 1) := by kernel_rfl

def fB (pre : List Pz) : List UInt8 := 34 :: pre.flatMap fun x => x.1.data.toList
theorem fB_def (pre : List Pz) : fB pre = 34 :: pre.flatMap fun x => x.1.data.toList := rfl

theorem fB_len (pre : List Pz) : (fB pre).length ≤ 1 + 4 * pre.length := by
  rw [fB_def]
  show (pre.flatMap fun x => x.1.data.toList).length + 1 ≤ _
  have : ∀ l : List Pz, (l.flatMap fun x => x.1.data.toList).length ≤ 4 * l.length := by
    intro l
    induction l with
    | nil => simp
    | cons a l ih =>
      have ha : a.1.data.toList.length ≤ 4 := by rw [Array.length_toList]; exact a.2
      rw [List.flatMap_cons, List.length_append, List.length_cons]; omega
  have := this pre; omega
theorem bytesV_len (l : List UInt8) : (bytesV l).length = l.length := by unfold bytesV; simp
theorem conv_own {w1 : World} {B g cap : Nat} {l : List UInt8} {b : UInt8} (h : w1.ownsRow B 5 1 (.slice (some ⟨g, 0, none⟩) (l.length + 1) cap) (l.length + 1) (bytesV l ++ [.int .u8 (b.toNat : Int)])) :
    (convert 73 9 (.slice (some ⟨g, 0, none⟩) (l.length + 1) cap)).run Tryz.prog w1 = .ok (.string ⟨(l ++ [b]).toArray⟩) w1 := by
  have := run_convert_bytes_back (P := Tryz.prog) w1 73 9 5 ⟨g, 0, none⟩ cap (l ++ [b]) Tryz.underlying73 Tryz.underlying5 Tryz.underlying9 (fun j hj => by
    refine h.cells rfl j _ ?_
    have : bytesV l ++ [.int .u8 (b.toNat : Int)] = bytesV (l ++ [b]) := by unfold bytesV; simp
    rw [this]; unfold bytesV; rw [List.getElem?_map, List.getElem?_eq_getElem hj]; rfl)
  rw [List.length_append, List.length_singleton] at this
  exact this
theorem own_boxed {β : Type} (B : Nat) (t : TypeId) (u : Value) : Own (fun (_ : β) W => Boxed W B t u) := by
  rintro s X Y row h hg hrow
  refine h.kept hg (fun e' => ?_)
  obtain ⟨o, ho, hc⟩ := hrow B e'.symm
  rw [show X.heap[B]? = _ from h] at ho; cases ho; cases hc
theorem pieces_run (S : ByteArray) (w : World) : Calls Tryz.prog 112 #[.string S] w fun e w' => e = .returned (.func (.func 125) #[] #[.pointer (some ⟨w.heap.size, 0, none⟩)]) ∧ w' = w.alloc (.cells #[.string S] 9) := by
  go_enter Tryz.func112, Tryz.ntmps112
  go_wp2_with fail
  go_ret
  exact ⟨rfl, rfl⟩
theorem pieces_stops (n : Nat) (hn : 1 ≤ n) (Bs : Nat) (S : ByteArray) (hS : S.size ≤ 1000000000) (w : World) (hb : Bs < w.heap.size) (hBs : w.cell? ⟨Bs, 0, none⟩ = some (.string S)) :
    SeqStopsK Fence.wide n Tryz.prog 125 #[.pointer (some ⟨Bs, 0, none⟩)] (fun x : Pz => #[.string x.1]) (KeepB Bs) (fun xs => xs = uptoL (fun j => escZ (S.get! j).toNat) S.size) (fun _ => True) S.size w := fun l J Jx W hW hJ _ hY h0 =>
  pieces1_in n hn l Bs S hS J Jx hY W hJ ((hW.cell (p := ⟨Bs, 0, none⟩) hb).trans hBs) h0

set_option maxRecDepth 100000 in
set_option maxHeartbeats 2000000 in
theorem Quote_run (S : ByteArray) (hS : S.size ≤ 1000000000) (w : World) : Calls Tryz.prog 96 #[.string S] w fun e w' => e = .returned (.string (quoteB S)) ∧ Below w.heap.size w w' := by
  refine (callsIn_wide (n := 4)).1 ?_
  obtain ⟨i0, hi0, hz0, hz1, hz2⟩ := info_parts infoU8
  refine callsIn_of_wp_marks Tryz.func96 rfl trivial ?_ rfl
  simp only [Tryz.ntmps96, List.size_toArray, List.length_cons, List.length_nil, Nat.reduceAdd, Nat.reduceSub, Array.replicate_succ, Array.replicate_zero, List.push_toArray, List.append_toArray, List.nil_append, List.cons_append]
  gi_wp2
  refine ⟨trivial, (callsIn_wide.2 (pieces_run S _)).mono ?_⟩
  rintro e w1 ⟨rfl, rfl⟩
  gi_wp2
  obtain ⟨W3, hW3⟩ : ∃ W3, W3 = ((w.alloc (Obj.cells #[Value.int IntKind.u8 34] 5)).alloc (Obj.cells #[Value.slice (some { block := w.heap.size, off := 0 }) 1 1] 73)).alloc (Obj.cells #[Value.string S] 9) := ⟨_, rfl⟩
  have hsz : W3.heap.size = w.heap.size + 3 := by rw [hW3]; simp
  have hbox : Boxed W3 (w.heap.size + 1) 73 (.slice (some ⟨w.heap.size, 0, none⟩) 1 1) := by
    rw [hW3]
    have := (Boxed.new (w.alloc (Obj.cells #[Value.int IntKind.u8 34] 5)) 73 (Value.slice (some { block := w.heap.size, off := 0 }) 1 1)).alloc (Obj.cells #[Value.string S] 9)
    rwa [World.size_alloc] at this
  have hown : W3.ownsRow w.heap.size 5 1 (.slice (some ⟨w.heap.size, 0, none⟩) 1 1) 1 (bytesV [34]) := by
    rw [hW3]
    have h0 : (w.alloc (Obj.cells #[Value.int IntKind.u8 34] 5)).ownsRow w.heap.size 5 1 (.slice (some ⟨w.heap.size, 0, none⟩) 1 1) 1 (bytesV [34]) :=
      ⟨rfl, .inr ⟨w.heap.size, 1, #[Value.int .u8 34], rfl, Nat.le_refl _, heap_alloc_new w _, by omega, by simp [maxLen], rfl, rfl⟩⟩
    exact (h0.alloc _).alloc _
  have hBx : Boxed W3 (w.heap.size + 1 + 1) 9 (.string S) := by
    have := (Boxed.new ((w.alloc (Obj.cells #[Value.int IntKind.u8 34] 5)).alloc (Obj.cells #[Value.slice (some { block := w.heap.size, off := 0 }) 1 1] 73)) 9 (Value.string S))
    rw [World.size_alloc, World.size_alloc] at this
    rw [hW3]; exact this
  have hBs := hBx.cell
  have hB : Below w.heap.size w W3 := by rw [hW3]; exact below_al (below_al (below_al (Below.refl _ _) _) _) _
  rw [← hW3]
  clear hW3
  refine wpIn_rangeFunc_ownF rfl (by omega) (gf := 125) (lb := #[.pointer (some ⟨w.heap.size + 1 + 1, 0, none⟩)]) rfl trivial (enters_of Tryz.func125 (by kernel_rfl) rfl)
    (pieces_stops (4 - 1) (by omega) (w.heap.size + 1 + 1) S hS W3 (by omega) hBs) (fun h k => k.trans h)
    (fun W l o o' hl ho _ _ => World.putObj_heap_other (by omega)) (Below.refl _ _) (fun _ => rfl)
    (fun pre W => (∃ v, Boxed W (w.heap.size + 1) 73 v ∧ W.ownsRow w.heap.size 5 1 v (fB pre).length (bytesV (fB pre)) ∧ True) ∧ Boxed W (w.heap.size + 1 + 1) 9 (.string S) ∧ Below w.heap.size w W) (fun _ _ _ => False)
    (OwnFrom.and (Own.from (holdsRow_own w.heap.size (w.heap.size + 1) 73 5 1 (fun pre => (fB pre).length) (fun pre => bytesV (fB pre)) (fun _ _ => True)) _) (OwnFrom.and (Own.from (own_boxed (w.heap.size + 1 + 1) 9 (.string S)) _) (ownFrom_below (Nat.le_refl _) (by omega))))
    (fun _ _ _ _ _ hs _ _ => hs) ⟨⟨_, hbox, hown, trivial⟩, hBx, hB⟩
    (fun x => { tmps := #[Value.string S, undef, Value.string { data := #[] }, Value.pointer (some { block := w.heap.size + 1, off := 0 }), (.string x.1), Value.slice (some { block := w.heap.size, off := 0 }) 1 1, Value.string S,
          Value.func (Fn.func 125) #[] #[Value.pointer (some { block := w.heap.size + 1 + 1, off := 0 })], (.string x.1), undef, undef, undef, undef, undef, undef, undef], defers := [] }) ?assign ?body ?done ?stop
  case assign =>
    intro l x W K hK
    gi_wp2
    exact hK
  case body =>
    rintro l pre x W ⟨⟨v, hbx, how, _⟩, hSb, hBl⟩ hpre
    have hx := x.2
    have hc := hbx.cell
    have hf := hbx.frozen
    have hlen := fB_len pre
    have HOW := hide how; have HBX := hide hbx
    have hbs : w.heap.size ≤ W.heap.size := hBl.size
    gi_wp2_with (gi_at_builtin; refine wpListIn_append_str _ rfl (.tmp 9) (.tmp 10) _ _ rfl w.heap.size 5 i0 Tryz.underlying73 Tryz.underlying9 hi0 hz0 hz1 hz2 v (fB pre).length (bytesV (fB pre)) rfl HOW.out x.1 rfl (by unfold maxLen; omega) (by omega) hbs ?_)
    intro v' w1 hown1 hgrow
    have hlen2 : (fB (pre ++ [x])).length = (fB pre).length + x.1.size := by
      have hxs : x.1.data.size = x.1.size := rfl
      rw [fB_def, fB_def]; simp only [List.flatMap_append, List.flatMap_cons, List.flatMap_nil, List.append_nil, List.length_cons, List.length_append, Array.length_toList]
      omega
    have hbytes : bytesV (fB pre) ++ Lib.strCells x.1 = bytesV (fB (pre ++ [x])) := by
      rw [fB_def, fB_def]; unfold bytesV Lib.strCells
      simp only [List.flatMap_append, List.flatMap_cons, List.flatMap_nil, List.append_nil, List.map_cons, List.map_append, List.cons_append]
    rw [← hlen2, hbytes] at hown1
    have hpos : 0 < (fB (pre ++ [x])).length := by rw [fB_def]; simp
    obtain ⟨g', cap', rfl⟩ : ∃ g cap, v' = .slice (some ⟨g, 0, none⟩) (fB (pre ++ [x])).length cap := by
      rcases hown1.2 with ⟨_, h0⟩ | ⟨g, cap, cur, rfl, _⟩
      · omega
      · exact ⟨g, cap, rfl⟩
    have hne : some (w.heap.size + 1) ≠ v.ownBlock := hbx.not_row (by decide) how
    have hv1 : Boxed w1 (w.heap.size + 1) 73 v := hbx.kept hgrow hne
    have hc1 := hv1.cell
    have hf1 := hv1.frozen
    have HV1 := hide hv1; have HO1 := hide hown1
    have HK := hide (show KeepsOthers W w1 from KeepsOthers.of_grownBy hgrow fun j o ej hj => by
      rcases HOW.out.2 with ⟨rfl, _⟩ | ⟨g, cap, cur, rfl, _, hgb, _⟩
      · simp [Value.ownBlock] at ej
      · obtain rfl : g = j := by simpa [Value.ownBlock] using ej
        rw [hgb] at hj; cases hj; rfl)
    have HB1 := hide (hBl.grown hgrow hbs fun k e => (how.lt k e).1)
    have hneS : some (w.heap.size + 1 + 1) ≠ v.ownBlock := hSb.not_row (by decide) how
    have HS1 := hide (hSb.kept hgrow hneS)
    have HSb := hide hSb
    clear hown1 hgrow hbytes hlen2 hv1 hc hf how hbx hSb
    gi_wp2
    refine ⟨HK.out.trans (KeepsOthers.setCell _ _ _), ?_, ⟨_, HV1.out.set _, HO1.out.kept (grownBy_setCell' w1 _ _) (.inr (HV1.out.not_row (by decide) HO1.out).symm), trivial⟩, HS1.out.kept (grownBy_setCell' w1 _ _) (by simp), HB1.out.setCell (by show _ ≤ w.heap.size + 1; omega) _⟩
    have h2 := HS1.out.kept (grownBy_setCell' w1 (w.heap.size + 1) (Value.slice (some { block := g', off := 0 }) (fB (pre ++ [x])).length cap')) (by simp)
    exact h2.trans HSb.out.symm
  case done =>
    rintro D ys W hD rfl ⟨⟨v, hbx, how, _⟩, hSb, hBl⟩ hK
    have hc := hbx.cell
    have hf := hbx.frozen
    obtain ⟨ys, hys⟩ : ∃ ys, ys = uptoL (fun j => escZ (S.get! j).toNat) S.size := ⟨_, rfl⟩
    have hyl : ys.length ≤ S.size := by rw [hys]; simp [uptoL]
    have hlen := fB_len ys
    have hqB : quoteB S = ⟨(fB ys ++ [34]).toArray⟩ := by
      rw [fB_def, hys]; rfl
    have HQ := hide hqB
    rw [← hys] at how
    clear hqB hys
    have HOW := hide how; have HBX := hide hbx
    have hbs : w.heap.size ≤ W.heap.size := hBl.size
    have hne : some (w.heap.size + 1) ≠ v.ownBlock := hbx.not_row (by decide) how
    gi_wp2_with (gi_at_builtin; refine wpListIn_append_own _ rfl _ _ 73 rfl w.heap.size 5 i0 (.int .u8 0) 1 1 Tryz.underlying73 hi0 hz0 hz1 hz2 rfl (by decide) _ _ _ rfl (HOW.out.alloc _) ⟨W.heap.size, 0, none⟩ 1 1 [.int .u8 34] rfl rfl (cell_one_new _ _ _) (by simp [Value.oneCell']) (by unfold maxLen; omega) (by omega) (by simp; omega) ?_; intro v' w1 hown' hgrow _; obtain ⟨g', cap', rfl⟩ := ownsRow_succ hown'; have hcv := conv_own (b := 34) hown'; have HO := hide hown'; have HG := hide hgrow; clear hown' hgrow)
    have hD1 : w1.heap[D]? = some (Obj.deferred (some [])) := by
      refine (HG.out.block D (by have := (Array.getElem?_eq_some_iff.1 hK).1; simp; omega) ?_).trans ((World.grownBy_alloc W _ none).block D (Array.getElem?_eq_some_iff.1 hK).1 (by simp) |>.trans hK)
      intro e'
      change some D = v.ownBlock at e'
      rcases HOW.out.2 with ⟨rfl, _⟩ | ⟨g, cap, cur, rfl, _, hgb, _⟩
      · simp [Value.ownBlock] at e'
      · obtain rfl : D = g := by simpa [Value.ownBlock] using e'
        rw [hK] at hgb; cases hgb
    refine ⟨by simp, .inl ⟨_, _, rfl, run_takeDeferred hD1, ?_⟩⟩
    refine ⟨_, results_tmp rfl _ _ _, ?_, ?_⟩
    · rw [HQ.out]; rfl
    · exact ((hBl.alloc hbs _).grown HG.out (by simp; omega) (fun k e => (HOW.out.lt k e).1)).trans (belowK_b (w := w) (Nat.le_refl _) w1 D _ _ (by omega) hD1 rfl rfl)
  case stop =>
    rintro D c pre W _ _ h _
    exact h.elim
end Go.Proofs.YtmmbbndoimleaaaGreatDoor

/- Ident and Label of package quote. -/
namespace Go.Proofs.YtmmbbndoimleaaaGreatDoor
open Go.RowKit Go.Shelf

def wordsL : List ByteArray := [⟨#[110, 117, 108, 108]⟩, ⟨#[116, 114, 117, 101]⟩, ⟨#[102, 97, 108, 115, 101]⟩, ⟨#[98, 111, 111, 108]⟩, ⟨#[105, 110, 116]⟩, ⟨#[110, 117, 109, 98, 101, 114]⟩, ⟨#[115, 116, 114, 105, 110, 103]⟩,
  ⟨#[108, 101, 116]⟩, ⟨#[105, 102]⟩, ⟨#[102, 111, 114]⟩, ⟨#[105, 110]⟩, ⟨#[112, 97, 99, 107, 97, 103, 101]⟩, ⟨#[105, 109, 112, 111, 114, 116]⟩]
def idChar (b : Nat) : Bool := letterN b || b == 95 || (decide (48 ≤ b) && decide (b ≤ 57))
def idAll (T : ByteArray) : Bool := (List.range T.size).all fun j => idChar (T.get! j).toNat
def identT (T : ByteArray) : Bool := decide (0 < T.size) && letterN (T.get! 0).toNat && idAll T
def headB (S : ByteArray) : Bool := decide (0 < S.size) && ((S.get! 0).toNat == 35 || (S.get! 0).toNat == 95)
def identB (S : ByteArray) : Bool := decide (S.size ≤ 32) && !(Lib.containsS wordsL S) && identT (if headB S then S.extract 1 S.size else S)

theorem all_up {T : ByteArray} {k : Nat} (h : ∀ j, j < k → idChar (T.get! j).toNat = true) (hk : idChar (T.get! k).toNat = true) : ∀ j, j < k + 1 → idChar (T.get! j).toNat = true := fun j hj => by
  rcases Nat.lt_or_ge j k with h1 | h1
  · exact h j h1
  · obtain rfl : j = k := by omega
    exact hk
theorem all_no {T : ByteArray} {k : Nat} (hk : k < T.size) (h : idChar (T.get! k).toNat = false) : idAll T = false := by
  unfold idAll
  rw [List.all_eq_false]
  exact ⟨k, List.mem_range.2 hk, by rw [h]; decide⟩
theorem all_yes {T : ByteArray} (h : ∀ j, j < T.size → idChar (T.get! j).toNat = true) : idAll T = true := by
  unfold idAll
  rw [List.all_eq_true]
  exact fun j hj => h j (List.mem_range.1 hj)
theorem letter_same (b : Nat) (w : World) : Calls Tryz.prog 123 #[.int .u8 b] w fun e w' => e = .returned (.bool (letterN b)) ∧ w = w' := (letter_run b w).mono fun _ _ h => ⟨h.1, h.2.symm⟩
theorem words_cells (w : World) (j : Nat) (hj : j < wordsL.length) : (w.alloc (Obj.cells ((wordsL.map Value.string).toArray) 9)).cell? ⟨w.heap.size, 0 + j, none⟩ = some (.string (wordsL.getD j ByteArray.empty)) := by
  rw [Nat.zero_add, World.cell?_alloc_mark]
  simp [List.getD, List.getElem?_eq_getElem hj]

set_option maxRecDepth 100000 in
set_option maxHeartbeats 8000000 in
theorem Ident_run (S : ByteArray) (hS : S.size ≤ 1000000000) (w : World) : Calls Tryz.prog 109 #[.string S] w fun e w' => e = .returned (.bool (identB S)) ∧ Below w.heap.size w w' := by
  obtain ⟨cb, hcb⟩ : ∃ cb, cb = Lib.containsS (wordsL.take 13) S := ⟨_, rfl⟩
  have hcon := Any.slices_Contains_string containsL w.heap.size 0 13 13 wordsL S _ (by decide) (by decide) (words_cells w)
  rw [← hcb] at hcon
  have HCON := hide hcon
  have hid : identB S = (decide (S.size ≤ 32) && !cb && identT (if headB S then S.extract 1 S.size else S)) := by rw [hcb]; rfl
  have HID := hide hid
  clear hcon hid hcb
  have hBw := below_al (Below.refl w.heap.size w) (Obj.cells ((wordsL.map Value.string).toArray) 9)
  have HBW := hide hBw
  clear hBw
  go_enter Tryz.func109, Tryz.ntmps109
  by_cases h32 : S.size ≤ 32
  · cases cb with
    | true =>
      go_wp2_with (first | (go_at_call 122; refine HCON.out.mono ?_; rintro e w' ⟨rfl, rfl⟩) | fail)
      go_ret
      exact ⟨ret_bool (by rw [HID.out]; simp), HBW.out⟩
    | false =>
      go_upto_region 4 with (first | (go_at_call 122; refine HCON.out.mono ?_; rintro e w' ⟨rfl, rfl⟩) | fail)
      obtain ⟨wz, hwz⟩ : ∃ wz, wz = w.alloc (Obj.cells (List.map Value.string wordsL).toArray 9) := ⟨_, rfl⟩
      rw [← hwz] at HBW ⊢
      clear hwz HCON
      by_cases h0 : S.size = 0
      · go_wp2_with fail
        go_ret
        exact ⟨ret_bool (by rw [HID.out]; simp [headB, identT, h0]), HBW.out⟩
      · have h0p : 0 < S.size := by omega
        have hgk : (S.get! 0).toNat = S[0].toNat := by rw [get_eq S 0 h0p]
        obtain ⟨b, hbb⟩ : ∃ b, b = S[0].toNat := ⟨_, rfl⟩
        have hb2 : (S[0].toNat : Int) = (b : Int) := by rw [hbb]
        rw [← hbb] at hgk
        clear hbb
        obtain ⟨hb, hhb⟩ : ∃ hb, hb = headB S := ⟨_, rfl⟩
        have hhd : hb = (b == 35 || b == 95) := by rw [hhb]; unfold headB; rw [hgk]; simp [h0p]
        rw [← hhb] at HID
        have HHD := hide hhd
        clear hhd hgk hhb
        go_cut [26] from 14 to 26 (fun a wc => a = .bool hb ∧ wc = wz)
        case first =>
          rcases (show b = 35 ∨ b = 95 ∨ (b ≠ 35 ∧ b ≠ 95) by omega) with rfl | rfl | ⟨g1, g2⟩
          · go_wp2_with fail
            go_meet
            exact ⟨by rw [HHD.out]; rfl, rfl⟩
          · go_wp2_with fail
            go_meet
            exact ⟨by rw [HHD.out]; rfl, rfl⟩
          · have g3 : ((b : Int) == 35) = false := by simp; omega
            have g4 : ((b : Int) == 95) = false := by simp; omega
            go_wp2_with fail
            go_meet
            exact ⟨by rw [HHD.out]; simp [g1, g2], rfl⟩
        case rest =>
          obtain ⟨rfl, ew⟩ := hcut
          obtain rfl := ew.symm
          clear hb2 HHD
          cases hb with
          | true =>
            go_upto_region 6 with fail
            obtain ⟨T, hT⟩ : ∃ T, T = S.extract 1 S.size := ⟨_, rfl⟩
            have hTs : T.size ≤ 32 := by rw [hT, ByteArray.size_extract]; omega
            have HIT := hide (show identB S = identT T by rw [HID.out, if_pos rfl, ← hT]; simp [h32])
            rw [← hT]
            clear hT HID
            by_cases t0 : T.size = 0
            · go_wp2_with fail
              go_ret
              exact ⟨ret_bool (by rw [HIT.out]; simp [identT, t0]), HBW.out⟩
            · have t0p : 0 < T.size := by omega
              have t0b : ((T.size : Int) == 0) = false := beq_false_of_ne (by omega)
              have t0c : decide (32 < (S.size : Int)) = false := by simp; omega
              have hgk : (T.get! 0).toNat = T[0].toNat := by rw [get_eq T 0 t0p]
              obtain ⟨c, hcc⟩ : ∃ c, c = T[0].toNat := ⟨_, rfl⟩
              have hc2 : (T[0].toNat : Int) = (c : Int) := by rw [hcc]
              rw [← hcc] at hgk
              clear hcc
              have HLET := hide fun w => letter_same c w
              cases hl : letterN c with
              | false =>
                rw [hl] at HLET
                have HF := hide (show identT T = false by unfold identT; rw [hgk, hl]; simp)
                clear hgk hl
                go_wp2_with (first | (go_at_call 123; refine (HLET.out _).mono ?_; rintro e w' ⟨rfl, rfl⟩) | fail)
                go_ret
                exact ⟨ret_bool (by rw [HIT.out, HF.out]), HBW.out⟩
              | true =>
                rw [hl] at HLET
                have HF := hide (show identT T = idAll T by unfold identT; rw [hgk, hl]; simp [t0p])
                clear hgk hl
                go_wp2_with (first | (go_at_call 123; refine (HLET.out _).mono ?_; rintro e w' ⟨rfl, rfl⟩) | fail)
                clear hc2 HLET
                go_loopw [4, 40] (fun a iv wr => ∃ k : Nat, k ≤ T.size ∧ iv = .int .i64 k ∧ wr = wz ∧ Hid (∀ j, j < k → idChar (T.get! j).toNat = true)) (fun _ iv _ => T.size - (intOf iv).toNat)
                case atStart => exact ⟨0, Nat.zero_le _, rfl, rfl, hide fun j hj => by omega⟩
                case round =>
                  obtain ⟨k, hk, rfl, rfl, hI⟩ := hrel
                  by_cases hlt : k < T.size
                  · have hgk : (T.get! k).toNat = T[k].toNat := by rw [get_eq T k hlt]
                    obtain ⟨c, hcc⟩ : ∃ c, c = T[k].toNat := ⟨_, rfl⟩
                    have hc2 : (T[k].toNat : Int) = (c : Int) := by rw [hcc]
                    rw [← hcc] at hgk
                    clear hcc
                    have HGK := Lib.hid hgk
                    have HLET := hide fun w => letter_same c w
                    clear hgk
                    have hcase : (letterN c = true ∨ letterN c = false ∧ (c = 95 ∨ (c ≠ 95 ∧ (c < 48 ∨ (48 ≤ c ∧ (57 < c ∨ c ≤ 57)))))) := by
                      cases letterN c
                      · exact .inr ⟨rfl, by omega⟩
                      · exact .inl rfl
                    rcases hcase with hl | ⟨hl, rfl | ⟨g1, g2 | ⟨g2, g3 | g3⟩⟩⟩
                    · have HX := hide (show idChar c = true by unfold idChar; rw [hl]; rfl)
                      rw [hl] at HLET
                      clear hl
                      go_wp2_with (first | (go_at_call 123; refine (HLET.out _).mono ?_; rintro e w' ⟨rfl, rfl⟩) | fail)
                      go_roundw
                      case rel => exact ⟨k + 1, by omega, by go_num, by first | trivial | rfl, hide (all_up hI.out (by rw [HGK.out]; exact HX.out))⟩
                      case measure => simp [intOf]; omega
                    · rw [hl] at HLET
                      clear hl
                      go_wp2_with (first | (go_at_call 123; refine (HLET.out _).mono ?_; rintro e w' ⟨rfl, rfl⟩) | fail)
                      go_roundw
                      case rel => exact ⟨k + 1, by omega, by go_num, by first | trivial | rfl, hide (all_up hI.out (by rw [HGK.out]; rfl))⟩
                      case measure => simp [intOf]; omega
                    · have HX := hide (show idChar c = false by unfold idChar; rw [hl]; simp; omega)
                      have e1 : ((c : Int) == 95) = false := by simp; omega
                      have e2 : decide ((c : Int) < 48) = true := by simp; omega
                      rw [hl] at HLET
                      clear hl
                      go_wp2_with (first | (go_at_call 123; refine (HLET.out _).mono ?_; rintro e w' ⟨rfl, rfl⟩) | fail)
                      go_ret
                      exact ⟨ret_bool (by rw [HIT.out, HF.out]; exact (all_no hlt (by rw [HGK.out]; exact HX.out)).symm), HBW.out⟩
                    · have HX := hide (show idChar c = false by unfold idChar; rw [hl]; simp; omega)
                      have e1 : ((c : Int) == 95) = false := by simp; omega
                      have e2 : decide ((c : Int) < 48) = false := by simp; omega
                      have e3 : decide ((c : Int) > 57) = true := by simp; omega
                      rw [hl] at HLET
                      clear hl
                      go_wp2_with (first | (go_at_call 123; refine (HLET.out _).mono ?_; rintro e w' ⟨rfl, rfl⟩) | fail)
                      go_ret
                      exact ⟨ret_bool (by rw [HIT.out, HF.out]; exact (all_no hlt (by rw [HGK.out]; exact HX.out)).symm), HBW.out⟩
                    · have HX := hide (show idChar c = true by unfold idChar; rw [hl]; simp; omega)
                      have e1 : ((c : Int) == 95) = false := by simp; omega
                      have e2 : decide ((c : Int) < 48) = false := by simp; omega
                      have e3 : decide ((c : Int) > 57) = false := by simp; omega
                      rw [hl] at HLET
                      clear hl
                      go_wp2_with (first | (go_at_call 123; refine (HLET.out _).mono ?_; rintro e w' ⟨rfl, rfl⟩) | fail)
                      go_roundw
                      case rel => exact ⟨k + 1, by omega, by go_num, by first | trivial | rfl, hide (all_up hI.out (by rw [HGK.out]; exact HX.out))⟩
                      case measure => simp [intOf]; omega
                  · obtain rfl : k = T.size := by omega
                    go_wp2_with fail
                    go_ret
                    exact ⟨ret_bool (by rw [HIT.out, HF.out]; exact (all_yes hI.out).symm), HBW.out⟩

          | false =>
            have HIT := hide (show identB S = identT S by rw [HID.out, if_neg (by decide)]; simp [h32])
            clear HID
            go_upto_region 6 with fail
            by_cases t0 : S.size = 0
            · go_wp2_with fail
              go_ret
              exact ⟨ret_bool (by rw [HIT.out]; simp [identT, t0]), HBW.out⟩
            · have t0p : 0 < S.size := by omega
              have t0b : ((S.size : Int) == 0) = false := beq_false_of_ne (by omega)
              have t0c : decide (32 < (S.size : Int)) = false := by simp; omega
              have hgk : (S.get! 0).toNat = S[0].toNat := by rw [get_eq S 0 t0p]
              obtain ⟨c, hcc⟩ : ∃ c, c = S[0].toNat := ⟨_, rfl⟩
              have hc2 : (S[0].toNat : Int) = (c : Int) := by rw [hcc]
              rw [← hcc] at hgk
              clear hcc
              have HLET := hide fun w => letter_same c w
              cases hl : letterN c with
              | false =>
                rw [hl] at HLET
                have HF := hide (show identT S = false by unfold identT; rw [hgk, hl]; simp)
                clear hgk hl
                go_wp2_with (first | (go_at_call 123; refine (HLET.out _).mono ?_; rintro e w' ⟨rfl, rfl⟩) | fail)
                go_ret
                exact ⟨ret_bool (by rw [HIT.out, HF.out]), HBW.out⟩
              | true =>
                rw [hl] at HLET
                have HF := hide (show identT S = idAll S by unfold identT; rw [hgk, hl]; simp [t0p])
                clear hgk hl
                go_wp2_with (first | (go_at_call 123; refine (HLET.out _).mono ?_; rintro e w' ⟨rfl, rfl⟩) | fail)
                clear hc2 HLET
                go_loopw [4, 40] (fun a iv wr => ∃ k : Nat, k ≤ S.size ∧ iv = .int .i64 k ∧ wr = wz ∧ Hid (∀ j, j < k → idChar (S.get! j).toNat = true)) (fun _ iv _ => S.size - (intOf iv).toNat)
                case atStart => exact ⟨0, Nat.zero_le _, rfl, rfl, hide fun j hj => by omega⟩
                case round =>
                  obtain ⟨k, hk, rfl, rfl, hI⟩ := hrel
                  by_cases hlt : k < S.size
                  · have hgk : (S.get! k).toNat = S[k].toNat := by rw [get_eq S k hlt]
                    obtain ⟨c, hcc⟩ : ∃ c, c = S[k].toNat := ⟨_, rfl⟩
                    have hc2 : (S[k].toNat : Int) = (c : Int) := by rw [hcc]
                    rw [← hcc] at hgk
                    clear hcc
                    have HGK := Lib.hid hgk
                    have HLET := hide fun w => letter_same c w
                    clear hgk
                    have hcase : (letterN c = true ∨ letterN c = false ∧ (c = 95 ∨ (c ≠ 95 ∧ (c < 48 ∨ (48 ≤ c ∧ (57 < c ∨ c ≤ 57)))))) := by
                      cases letterN c
                      · exact .inr ⟨rfl, by omega⟩
                      · exact .inl rfl
                    rcases hcase with hl | ⟨hl, rfl | ⟨g1, g2 | ⟨g2, g3 | g3⟩⟩⟩
                    · have HX := hide (show idChar c = true by unfold idChar; rw [hl]; rfl)
                      rw [hl] at HLET
                      clear hl
                      go_wp2_with (first | (go_at_call 123; refine (HLET.out _).mono ?_; rintro e w' ⟨rfl, rfl⟩) | fail)
                      go_roundw
                      case rel => exact ⟨k + 1, by omega, by go_num, by first | trivial | rfl, hide (all_up hI.out (by rw [HGK.out]; exact HX.out))⟩
                      case measure => simp [intOf]; omega
                    · rw [hl] at HLET
                      clear hl
                      go_wp2_with (first | (go_at_call 123; refine (HLET.out _).mono ?_; rintro e w' ⟨rfl, rfl⟩) | fail)
                      go_roundw
                      case rel => exact ⟨k + 1, by omega, by go_num, by first | trivial | rfl, hide (all_up hI.out (by rw [HGK.out]; rfl))⟩
                      case measure => simp [intOf]; omega
                    · have HX := hide (show idChar c = false by unfold idChar; rw [hl]; simp; omega)
                      have e1 : ((c : Int) == 95) = false := by simp; omega
                      have e2 : decide ((c : Int) < 48) = true := by simp; omega
                      rw [hl] at HLET
                      clear hl
                      go_wp2_with (first | (go_at_call 123; refine (HLET.out _).mono ?_; rintro e w' ⟨rfl, rfl⟩) | fail)
                      go_ret
                      exact ⟨ret_bool (by rw [HIT.out, HF.out]; exact (all_no hlt (by rw [HGK.out]; exact HX.out)).symm), HBW.out⟩
                    · have HX := hide (show idChar c = false by unfold idChar; rw [hl]; simp; omega)
                      have e1 : ((c : Int) == 95) = false := by simp; omega
                      have e2 : decide ((c : Int) < 48) = false := by simp; omega
                      have e3 : decide ((c : Int) > 57) = true := by simp; omega
                      rw [hl] at HLET
                      clear hl
                      go_wp2_with (first | (go_at_call 123; refine (HLET.out _).mono ?_; rintro e w' ⟨rfl, rfl⟩) | fail)
                      go_ret
                      exact ⟨ret_bool (by rw [HIT.out, HF.out]; exact (all_no hlt (by rw [HGK.out]; exact HX.out)).symm), HBW.out⟩
                    · have HX := hide (show idChar c = true by unfold idChar; rw [hl]; simp; omega)
                      have e1 : ((c : Int) == 95) = false := by simp; omega
                      have e2 : decide ((c : Int) < 48) = false := by simp; omega
                      have e3 : decide ((c : Int) > 57) = false := by simp; omega
                      rw [hl] at HLET
                      clear hl
                      go_wp2_with (first | (go_at_call 123; refine (HLET.out _).mono ?_; rintro e w' ⟨rfl, rfl⟩) | fail)
                      go_roundw
                      case rel => exact ⟨k + 1, by omega, by go_num, by first | trivial | rfl, hide (all_up hI.out (by rw [HGK.out]; exact HX.out))⟩
                      case measure => simp [intOf]; omega
                  · obtain rfl : k = S.size := by omega
                    go_wp2_with fail
                    go_ret
                    exact ⟨ret_bool (by rw [HIT.out, HF.out]; exact (all_yes hI.out).symm), HBW.out⟩
  · go_wp2_with fail
    go_ret
    exact ⟨ret_bool (by rw [HID.out]; simp; omega), HBW.out⟩
end Go.Proofs.YtmmbbndoimleaaaGreatDoor

/- The text of data: what it is, how long, and Label, join. -/
namespace Go.Proofs.YtmmbbndoimleaaaGreatDoor
open Go.RowKit Go.Shelf

def labelB (s : ByteArray) : ByteArray := if identB s = true then s else quoteB s
def joinB (o e : ByteArray) (l : List ByteArray) : ByteArray := o ++ ⟨(Lib.join (l.map (·.data.toList)) [44, 32]).toArray⟩ ++ e
def textK (k n : Int) (s : ByteArray) (L : List ByteArray) : ByteArray :=
  if k = 2 then (if n = 1 then ⟨#[116, 114, 117, 101]⟩ else ⟨#[102, 97, 108, 115, 101]⟩) else if k = 3 then numB n else if k = 4 then quoteB s
  else if k = 5 then joinB ⟨#[91]⟩ ⟨#[93]⟩ L else if k = 6 then joinB ⟨#[123]⟩ ⟨#[125]⟩ L else ⟨#[110, 117, 108, 108]⟩
def mtext (f : Dt → ByteArray) (x : ByteArray × Dt) : ByteArray := labelB x.1 ++ ⟨#[58, 32]⟩ ++ f x.2
def partsL (f : Dt → ByteArray) (d : Dt) : List ByteArray := (iD d).map f ++ (mD d).map (mtext f)
def textF : Nat → Dt → ByteArray
  | 0, _ => ByteArray.empty
  | m + 1, d => textK (kD d) (nD d) (sD d) (partsL (textF m) d)

/-- A sum over a list. -/
def sumN {α : Type} (f : α → Nat) : List α → Nat
  | [] => 0
  | x :: l => f x + sumN f l
theorem sumN_append {α : Type} (f : α → Nat) : ∀ l k : List α, sumN f (l ++ k) = sumN f l + sumN f k
  | [], k => by simp [sumN]
  | x :: l, k => by rw [List.cons_append, sumN, sumN, sumN_append f l k]; omega
theorem sumN_le {α : Type} (f : α → Nat) : ∀ {l : List α} {x : α}, x ∈ l → f x ≤ sumN f l
  | y :: l, x, h => by
    rcases List.mem_cons.1 h with rfl | h
    · rw [sumN]; omega
    · have := sumN_le f h; rw [sumN]; omega
theorem sumN_len {α : Type} (f : α → Nat) (hf : ∀ x, 1 ≤ f x) : ∀ l : List α, l.length ≤ sumN f l
  | [] => by simp [sumN]
  | x :: l => by have := sumN_len f hf l; have := hf x; rw [sumN, List.length_cons]; omega
theorem sumN_mono {α : Type} {f g : α → Nat} : ∀ {l : List α}, (∀ x ∈ l, f x ≤ g x) → sumN f l ≤ sumN g l
  | [], _ => Nat.le_refl _
  | x :: l, h => by
    have := sumN_mono (l := l) fun y hy => h y (List.mem_cons_of_mem _ hy)
    have := h x (List.mem_cons_self ..)
    rw [sumN, sumN]; omega
/-- A bound for the text, and for all that is made on the way. -/
def tbF : Nat → Dt → Nat
  | 0, _ => 60
  | m + 1, d => 60 + 4 * (sD d).size + sumN (tbF m) (iD d) + sumN (fun x : ByteArray × Dt => 10 + 4 * x.1.size + tbF m x.2) (mD d)

theorem bsize_append (a b : ByteArray) : (a ++ b).size = a.size + b.size := ByteArray.size_append
theorem quoteB_size (s : ByteArray) : (quoteB s).size ≤ 2 + 4 * s.size := by
  have : (quoteB s).size = (34 :: escL s ++ [34]).length := by
    show (34 :: escL s ++ [34]).toArray.size = _; simp
  rw [this, List.length_append]
  have h := fB_len (uptoL (fun j => escZ (s.get! j).toNat) s.size)
  rw [fB_def, uptoL_length] at h
  have : (34 :: escL s).length = (34 :: (uptoL (fun j => escZ (s.get! j).toNat) s.size).flatMap fun x => x.1.data.toList).length := rfl
  rw [this]; simp only [List.length_singleton]; omega
theorem labelB_size (s : ByteArray) : (labelB s).size ≤ 2 + 4 * s.size := by
  unfold labelB; split
  · omega
  · exact quoteB_size s
theorem trimF_size : ∀ (n : Nat) (s : ByteArray), (trimF n s).size ≤ s.size
  | 0, s => Nat.le_refl _
  | n + 1, s => by
    unfold trimF; split
    · exact Nat.le_trans (trimF_size n _) (by rw [ByteArray.size_extract]; omega)
    · exact Nat.le_refl _
theorem fracB_size (r : Nat) (hr : r < 10000) : (fracB r).size ≤ 20 := by
  have h1 := nDigits_small (u := r + 10000) (by omega)
  rw [← decB_size] at h1
  have := trimF_size ((decB (r + 10000)).extract 1 (decB (r + 10000)).size).size ((decB (r + 10000)).extract 1 (decB (r + 10000)).size)
  rw [ByteArray.size_extract] at this
  unfold fracB trimB
  rw [ByteArray.size_extract]
  omega
theorem numB_size (u : Int) : (numB u).size ≤ 50 := by
  unfold numB; split
  · decide
  · rename_i hv
    have hv : validB u = true := by cases h : validB u <;> simp_all
    have hv' : -1000000000000000 ≤ u ∧ u ≤ 1000000000000000 := by unfold validB at hv; simpa using hv
    have h1 := nDigits_small (u := u.natAbs / 10000) (by omega)
    rw [← decB_size] at h1
    have h2 := fracB_size (u.natAbs % 10000) (by omega)
    have h3 : (signB u (decB (u.natAbs / 10000))).size ≤ 21 := by
      unfold signB; split
      · rw [bsize_append]; have : (⟨#[45]⟩ : ByteArray).size = 1 := rfl
        omega
      · omega
    have h4 : (dotB (fracB (u.natAbs % 10000))).size ≤ 21 := by
      unfold dotB; split
      · have : ByteArray.empty.size = 0 := rfl
        omega
      · rw [bsize_append]; have : (⟨#[46]⟩ : ByteArray).size = 1 := rfl
        omega
    rw [bsize_append]; omega
theorem lens_sumN : ∀ l : List ByteArray, Lib.lens (l.map (·.data.toList)) = sumN (·.size) l
  | [] => rfl
  | x :: l => by
    have ih := lens_sumN l
    have : Lib.lens (List.map (·.data.toList) (x :: l)) = x.data.toList.length + Lib.lens (l.map (·.data.toList)) := by simp [Lib.lens]
    rw [this, ih, sumN, Array.length_toList]; rfl
theorem join_le (l : List ByteArray) : (Lib.join (l.map (·.data.toList)) [44, 32]).length ≤ sumN (fun x => x.size + 2) l := by
  cases l with
  | nil => simp [Lib.join_nil]
  | cons x l =>
    rw [List.map_cons, Lib.join_length]
    show _ + Lib.lens ((x :: l).map (fun y : ByteArray => y.data.toList)) ≤ _
    rw [lens_sumN]
    have : ∀ k : List ByteArray, sumN (fun x => x.size + 2) k = sumN (·.size) k + 2 * k.length := by
      intro k
      induction k with
      | nil => rfl
      | cons y k ih => rw [sumN, sumN, ih, List.length_cons]; omega
    rw [this]; simp; omega
theorem joinB_size (o e : ByteArray) (l : List ByteArray) (ho : o.size = 1) (he : e.size = 1) : (joinB o e l).size ≤ 2 + sumN (fun x => x.size + 2) l := by
  unfold joinB
  rw [bsize_append, bsize_append, ho, he]
  have : (⟨(Lib.join (l.map (·.data.toList)) [44, 32]).toArray⟩ : ByteArray).size = (Lib.join (l.map (·.data.toList)) [44, 32]).length := by show (_ : List UInt8).toArray.size = _; simp
  rw [this]; have := join_le l; omega
theorem sumN_map {α β : Type} (f : β → Nat) (g : α → β) : ∀ l : List α, sumN f (l.map g) = sumN (fun x => f (g x)) l
  | [] => rfl
  | x :: l => by rw [List.map_cons, sumN, sumN, sumN_map f g l]
/-- All texts between brackets are no longer than the bound. -/
theorem partsL_le (m : Nat) (f : Dt → ByteArray) (hf : ∀ x, (f x).size + 2 ≤ tbF m x) (d : Dt) : 60 + 4 * (sD d).size + sumN (fun x => x.size + 2) (partsL f d) ≤ tbF (m + 1) d := by
  unfold partsL
  rw [sumN_append, sumN_map, sumN_map, tbF]
  have h1 : sumN (fun x => (f x).size + 2) (iD d) ≤ sumN (tbF m) (iD d) := sumN_mono fun x _ => hf x
  have h2 : sumN (fun x => (mtext f x).size + 2) (mD d) ≤ sumN (fun x : ByteArray × Dt => 10 + 4 * x.1.size + tbF m x.2) (mD d) := sumN_mono fun x _ => by
    unfold mtext
    rw [bsize_append, bsize_append]
    have := labelB_size x.1
    have := hf x.2
    have : (⟨#[58, 32]⟩ : ByteArray).size = 2 := rfl
    omega
  omega
theorem textF_le : ∀ (m : Nat) (d : Dt), (textF m d).size + 2 ≤ tbF m d
  | 0, d => by rw [textF, tbF]; decide
  | m + 1, d => by
    have h := partsL_le m (textF m) (textF_le m) d
    rw [textF]; unfold textK
    split
    · split
      · have : (⟨#[116, 114, 117, 101]⟩ : ByteArray).size = 4 := rfl
        omega
      · have : (⟨#[102, 97, 108, 115, 101]⟩ : ByteArray).size = 5 := rfl
        omega
    · split
      · have := numB_size (nD d); omega
      · split
        · have := quoteB_size (sD d); omega
        · split
          · have := joinB_size ⟨#[91]⟩ ⟨#[93]⟩ (partsL (textF m) d) rfl rfl; omega
          · split
            · have := joinB_size ⟨#[123]⟩ ⟨#[125]⟩ (partsL (textF m) d) rfl rfl; omega
            · have : (⟨#[110, 117, 108, 108]⟩ : ByteArray).size = 4 := rfl
              omega

theorem Label_run (S : ByteArray) (hS : S.size ≤ 1000000000) (w : World) : Calls Tryz.prog 94 #[.string S] w fun e w' => e = .returned (.string (labelB S)) ∧ Below w.heap.size w w' := by
  have HI := hide fun w => Ident_run S hS w
  have HQ := hide fun w => Quote_run S hS w
  unfold labelB
  obtain ⟨b, hb⟩ : ∃ b, b = identB S := ⟨_, rfl⟩
  rw [← hb] at HI ⊢
  clear hb
  go_enter Tryz.func94, Tryz.ntmps94
  go_wp2_with fail
  refine (HI.out _).mono ?_; rintro e w1 ⟨rfl, hB1⟩
  have HB1 := hide hB1
  clear hB1
  cases b with
  | true =>
    go_wp2_with fail
    go_ret
    exact ⟨rfl, HB1.out⟩
  | false =>
    go_wp2_with fail
    refine (HQ.out _).mono ?_; rintro e w2 ⟨rfl, hB2⟩
    have HB2 := hide (HB1.out.trans (hB2.mono HB1.out.size))
    clear hB2
    go_wp2_with fail
    go_ret
    exact ⟨rfl, HB2.out⟩

theorem joinExtra : Builder.Extra Tryz.prog joinL_ren where
  sizeBuilder := by kernel_rfl
  liesBuilder := by kernel_rfl
  t5 := Tryz.underlying5
  a5 := Tryz.isAgg5
  z5 := Tryz.sizeOf5
  v5 := Tryz.zeroValue5
  infoByte := by kernel_rfl
  cellsByte := by kernel_rfl
  sizeByte := by kernel_rfl
  neB5 := by decide

/-- The strings, a cell each. -/
def strsV (l : List ByteArray) : List Value := l.map Value.string
theorem strsV_get {l : List ByteArray} {j : Nat} {x : ByteArray} (h : l[j]? = some x) : (strsV l)[j]? = some (.string x) := by
  unfold strsV; rw [List.getElem?_map, h]; rfl

theorem join_run (o e : ByteArray) (u : Value) (l : List ByteArray) (base : Nat) (w : World) (hown : w.ownsRow base 9 1 u l.length (strsV l)) (ho : o.size = 1) (he : e.size = 1) (hl : sumN (fun x => x.size + 2) l ≤ 1000000000) :
    Calls Tryz.prog 97 #[.string o, .string e, u] w fun r w' => r = .returned (.string (joinB o e l)) ∧ Below w.heap.size w w' := by
  have hlen : l.length ≤ 1000000000 := Nat.le_trans (sumN_len (fun x : ByteArray => x.size + 2) (fun x => by omega) l) hl
  have hjl := join_le l
  unfold joinB
  have HJ : Hid (∀ w1, Below w.heap.size w w1 → Calls Tryz.prog 61 #[u, .string ⟨#[44, 32]⟩] w1 fun r w' => r = .returned (.string ⟨(Lib.join (l.map (·.data.toList)) [44, 32]).toArray⟩) ∧ Below w1.heap.size w1 w') := hide fun w1 hB => by
    rcases hown.2 with ⟨rfl, hn⟩ | ⟨g, cap, cur, rfl, hb, hg, hc, _⟩
    · have : l = [] := List.eq_nil_of_length_eq_zero hn
      subst this
      exact (Any.strings_Join_none joinL joinExtra none 0 ⟨#[44, 32]⟩ w1).mono fun e w' ⟨he, hw⟩ => ⟨he, hw ▸ Below.refl _ _⟩
    · have hgl : g < w.heap.size := (Array.getElem?_eq_some_iff.1 hg).1
      exact Any.strings_Join joinL joinExtra g 0 cap l ⟨#[44, 32]⟩ w1 (fun j x hx => by
        rw [Nat.zero_add]
        have := hown.cells rfl j _ (strsV_get hx)
        rw [add_head] at this
        exact (hB.cell (p := ⟨g, j, none⟩) hgl).trans this) (by have := hB.size; omega) (by omega) hc (by show (Lib.join (l.map (·.data.toList)) [44, 32]).length ≤ _; omega)
  obtain ⟨J, hJ⟩ : ∃ J : ByteArray, J = ⟨(Lib.join (l.map (·.data.toList)) [44, 32]).toArray⟩ := ⟨_, rfl⟩
  have hJs : J.size ≤ 1000000000 := by rw [hJ]; show (_ : List UInt8).toArray.size ≤ _; simp; omega
  rw [← hJ] at HJ ⊢
  clear hJ hown hjl hl hlen
  go_enter Tryz.func97, Tryz.ntmps97
  go_wp2_with fail
  refine (HJ.out _ (by first | exact Below.refl _ _ | assumption)).mono ?_; rintro e w1 ⟨rfl, hB1⟩
  go_wp2_with fail
  go_ret
  exact ⟨rfl, hB1⟩
end Go.Proofs.YtmmbbndoimleaaaGreatDoor

/- text and Text of package data. -/
namespace Go.Proofs.YtmmbbndoimleaaaGreatDoor
open Go.RowKit

theorem infoS : (Tryz.prog.info? 9).map (fun i => (i.zero, i.size, i.bytes)) = some (some (.string ⟨#[]⟩), 1, 16) := by kernel_rfl
theorem strsV_append (a b : List ByteArray) : strsV (a ++ b) = strsV a ++ strsV b := by unfold strsV; rw [List.map_append]
theorem strsV_len (a : List ByteArray) : (strsV a).length = a.length := by unfold strsV; rw [List.length_map]
theorem tbF_kids {m : Nat} {d : Dt} : (∀ x ∈ iD d, tbF m x ≤ tbF (m + 1) d) ∧ (∀ x ∈ mD d, x.1.size + tbF m x.2 ≤ tbF (m + 1) d) := by
  constructor
  · intro x hx
    have := sumN_le (tbF m) hx
    rw [tbF]; omega
  · intro x hx
    have := sumN_le (fun x : ByteArray × Dt => 10 + 4 * x.1.size + tbF m x.2) hx
    rw [tbF]; omega

theorem own_below {w w' : World} {base : Nat} {e : TypeId} {size : Nat} {v : Value} {n : Nat} {xs : List Value} (h : w.ownsRow base e size v n xs) (hB : Below w.heap.size w w') : w'.ownsRow base e size v n xs :=
  h.kept (grown_of_below hB (Nat.le_refl _)) (by cases v.ownBlock <;> simp)
theorem one_str {t : ByteArray} : ∀ u ∈ [Value.string t], u.oneCell' = true := by simp [Value.oneCell']

set_option maxRecDepth 100000 in
set_option maxHeartbeats 4000000 in
theorem text_run : ∀ (m : Nat) (d : Dt) (A : Option Addr) (c : Nat) (A' : Option Addr) (c' : Nat) (w : World), Parts w w.heap.size m d A c A' c' → tbF m d ≤ 1000000000 → Tab w →
    Calls Tryz.prog 78 #[datV d A c A' c'] w fun e w' => e = .returned (.string (textF m d)) ∧ Below w.heap.size w w' := by
  intro m
  induction m with
  | zero => intro d A c A' c' w hp _ _; exact hp.elim
  | succ m ih =>
    intro d A c A' c' w hp hbd ht
    have htb := partsL_le m (textF m) (textF_le m) d
    have HPL := hide (show sumN (fun x => x.size + 2) (partsL (textF m) d) ≤ 1000000000 by omega)
    have hpl : (partsL (textF m) d).length ≤ 1000000000 := Nat.le_trans (sumN_len (fun x : ByteArray => x.size + 2) (fun x => by omega) _) HPL.out
    have hsz : (sD d).size ≤ 1000000000 := by omega
    obtain ⟨hb1, hb2⟩ := tbF_kids (m := m) (d := d)
    obtain ⟨⟨h1, h2, h3, h4⟩, hI, hM⟩ := hp
    have hm := maxLen_le h2; have hm' := maxLen_le h4
    have HI := hide fun i x (h : (iD d)[i]? = some x) => And.intro (hI i x h) (show tbF m x ≤ 1000000000 by have := hb1 x (List.mem_of_getElem? h); omega)
    have HM := hide fun i x (h : (mD d)[i]? = some x) => And.intro (hM i x h) (show x.1.size ≤ 1000000000 ∧ tbF m x.2 ≤ 1000000000 by have := hb2 x (List.mem_of_getElem? h); omega)
    have HTAB := hide fun W (hB : Below w.heap.size w W) => tab_below ht hB
    obtain ⟨i0, hi0, hz0, hz1, hz2⟩ := info_parts infoS
    obtain ⟨res, hres⟩ : ∃ r, r = textF (m + 1) d := ⟨_, rfl⟩
    rw [← hres]
    rw [textF] at hres
    unfold datV datCs
    obtain ⟨k, hk⟩ : ∃ k, k = kD d := ⟨_, rfl⟩
    obtain ⟨n, hn'⟩ : ∃ k, k = nD d := ⟨_, rfl⟩
    obtain ⟨s, hs⟩ : ∃ k, k = sD d := ⟨_, rfl⟩
    obtain ⟨L, hL⟩ : ∃ k, k = partsL (textF m) d := ⟨_, rfl⟩
    rw [← hL] at HPL hpl
    rw [← hk, ← hn', ← hs, ← hL] at hres
    rw [← hs] at hsz
    unfold partsL at hL
    obtain ⟨xs, hxs⟩ : ∃ k, k = iD d := ⟨_, rfl⟩
    obtain ⟨ys, hys⟩ : ∃ k, k = mD d := ⟨_, rfl⟩
    rw [← hxs] at HI h1
    rw [← hys] at HM h3
    rw [← hxs, ← hys] at hL
    rw [← hk, ← hn', ← hs, ← hxs, ← hys]
    have hxy : xs.length + ys.length ≤ 1000000000 := by rw [hL] at hpl; simpa using hpl
    obtain ⟨LA, hLA⟩ : ∃ k, k = xs.map (textF m) := ⟨_, rfl⟩
    obtain ⟨LC, hLC⟩ : ∃ k, k = ys.map (mtext (textF m)) := ⟨_, rfl⟩
    have HLA := hide (show ∀ i X, xs[i]? = some X → LA[i]? = some (textF m X) from fun i X h => by rw [hLA, List.getElem?_map, h]; rfl)
    have HLC := hide (show ∀ i X, ys[i]? = some X → LC[i]? = some (mtext (textF m) X) from fun i X h => by rw [hLC, List.getElem?_map, h]; rfl)
    have HLAL := hide (show LA.length = xs.length by rw [hLA, List.length_map])
    have HLCL := hide (show LC.length = ys.length by rw [hLC, List.length_map])
    rw [← hLA, ← hLC] at hL
    clear hLA hLC
    obtain ⟨x, hx⟩ : ∃ k, k = xs.length := ⟨_, rfl⟩
    obtain ⟨y, hy⟩ : ∃ k, k = ys.length := ⟨_, rfl⟩
    rw [← hx] at h1 hxy
    rw [← hy] at h3 hxy
    rw [← hx, ← hy]
    have HL := Lib.hid hL; have HX := Lib.hid hx; have HY := Lib.hid hy; have HRES := Lib.hid hres
    have HQ := hide fun w => Quote_run s hsz w
    have HN := hide fun w (h : Tab w) => numText_run n w h
    clear hk hn' hs hxs hys hx hy h2 h4 hL hM hI hres hb1 hb2 hbd ht htb hpl
    go_enter Tryz.func78, Tryz.ntmps78
    go_upto_region 1 with fail
    obtain ⟨w1, g, e1, e2, hBL, c0, c1, c2, c3, c4, hROW⟩ := boxD w k n s (.slice A x c) (.slice A' y c')
    rw [e1, e2]
    have HBL := hide hBL; have HROW := hide hROW
    have hgl : g < w1.heap.size := hROW.lt
    have hgw : w.heap.size ≤ g := by omega
    clear e1 e2 hBL hROW
    have HC := hide fun W (h : Below w1.heap.size w1 W) => row5 (HROW.out.below h)
    go_wp2_with fail
    go_loopw [3, 5, 11] (fun ov _ iv wr => ∃ i : Nat, iv = .int .i64 i ∧ i ≤ x ∧ Hid (Below w1.heap.size w1 wr) ∧ Hid (wr.ownsRow w1.heap.size 9 1 ov i (strsV (LA.take i)))) (fun _ _ iv _ => x - (intOf iv).toNat)
    case atStart => exact ⟨0, rfl, Nat.zero_le _, hide (Below.refl _ _), hide (World.ownsRow_nil _ _ _ _)⟩
    case round =>
      obtain ⟨i, rfl, hi, hB, hO⟩ := hrel
      have hwB := HBL.out.trans (hB.out.mono HBL.out.size)
      by_cases hlt : i < x
      · have hlt' : i < xs.length := by rw [← HX.out]; exact hlt
        obtain ⟨⟨ad, rfl, hb, a, q, a', q', hfive, hpts⟩, htx⟩ := HI.out i _ (List.getElem?_eq_getElem hlt')
        obtain ⟨X, hX⟩ : ∃ X, X = xs[i] := ⟨_, rfl⟩
        rw [← hX] at hfive hpts htx
        have hbb : (ad.add (i * 5)).block < w.heap.size := by rw [block_of_add]; exact hb
        obtain ⟨s0, s1, s2, s3, s4⟩ := hfive.same hbb (Same.of_below hwB)
        have HCK := hide fun w' (hB' : Below w.heap.size w w') => ih X a q a' q' w' (hpts.turn (Same.of_below hB') hB'.size) htx (HTAB.out _ hB')
        have HXX := hide (show strsV (LA.take (i + 1)) = strsV (LA.take i) ++ [.string (textF m X)] by
          rw [List.take_add_one, HLA.out i _ (List.getElem?_eq_getElem hlt'), strsV_append, hX]; rfl)
        unfold datV datCs at HCK
        obtain ⟨T, hT⟩ : ∃ T, T = textF m X := ⟨_, rfl⟩
        rw [← hT] at HCK HXX
        have HB := hide (below_al hwB (Obj.cells #[Value.int IntKind.i64 (kD X), Value.int IntKind.i64 (nD X), Value.string (sD X), Value.slice a (iD X).length q, Value.slice a' (mD X).length q'] 25))
        have HB1 := hide (below_al hB.out (Obj.cells #[Value.int IntKind.i64 (kD X), Value.int IntKind.i64 (nD X), Value.string (sD X), Value.slice a (iD X).length q, Value.slice a' (mD X).length q'] 25))
        have HO := hide (hO.out.alloc (Obj.cells #[Value.int IntKind.i64 (kD X), Value.int IntKind.i64 (nD X), Value.string (sD X), Value.slice a (iD X).length q, Value.slice a' (mD X).length q'] 25))
        clear hfive hpts hX hlt' hb hbb htx hT hwB hB hO c0 c1 c2 c3 c4
        go_wp2_with fail
        refine (HCK.out _ HB.out).mono ?_; rintro e w4 ⟨rfl, hB4⟩
        have HB4 := hide (hB4.mono HB1.out.size)
        have HO4 := hide (own_below HO.out hB4)
        have hw4 : w1.heap.size ≤ w4.heap.size := Nat.le_trans HB1.out.size hB4.size
        clear hB4 HCK s0 s1 s2 s3 s4 HO HB
        go_wp2_with (at_builtin; refine wpList_append_all _ rfl (.tmp 15) (.tmp 18) _ rfl w1.heap.size 9 i0 _ 1 16 Tryz.underlying70 hi0 hz0 hz1 hz2 rfl (by omega) u3 i (strsV (LA.take i)) rfl (HO4.out.alloc _) (some ⟨w4.heap.size, 0, none⟩) 1 1 [.string T] rfl (by intro h; cases h) rfl (by intro ad' h; injection h with h; subst h; exact World.news_of_block (heap_alloc_new _ _)) one_str (by unfold maxLen; omega) (by omega) (by simp; omega) ?_)
        intro v' w' o1 o2
        have HB5 := hide (Below.grown (below_al (HB1.out.trans HB4.out) (.cells #[.string T] 9)) o2.out (by simp; omega) (fun k e => (HO4.out.lt k e).1))
        have HO5 := hide (show w'.ownsRow w1.heap.size 9 1 v' (i + 1) (strsV (LA.take (i + 1))) by rw [HXX.out]; exact o1.out)
        clear o1 o2 HO4 HB4
        go_wp2_with fail
        go_roundw
        case rel => exact ⟨i + 1, by go_num, by omega, HB5, HO5⟩
        case measure => simp [intOf]; omega
      · obtain rfl : x = i := by omega
        have HO0 := hide (show wr.ownsRow w1.heap.size 9 1 u3 (x + 0) (strsV (LA ++ LC.take 0)) by
          have := hO.out
          have e : LA.take x = LA := by rw [HX.out, ← HLAL.out, List.take_length]
          rw [e] at this
          rw [List.take_zero, List.append_nil]
          exact this)
        have HB0 := hide hB.out
        obtain ⟨c0, c1, c2, c3, c4⟩ := HC.out _ hB.out
        clear hO hB hwB
        go_wp2_with fail
        clear hi hlt
        go_loopw [3, 7, 24] (fun ov _ iv wr => ∃ i : Nat, iv = .int .i64 i ∧ i ≤ y ∧ Hid (Below w1.heap.size w1 wr) ∧ Hid (wr.ownsRow w1.heap.size 9 1 ov (x + i) (strsV (LA ++ LC.take i)))) (fun _ _ iv _ => y - (intOf iv).toNat)
        case atStart => exact ⟨0, rfl, Nat.zero_le _, HB0, HO0⟩
        case round =>
          clear HB0 HO0 c0 c1 c2 c3 c4
          obtain ⟨i, rfl, hi, hB, hO⟩ := hrel
          have hwB := HBL.out.trans (hB.out.mono HBL.out.size)
          by_cases hlt : i < y
          · have hlt' : i < ys.length := by rw [← HY.out]; exact hlt
            obtain ⟨⟨ad, rfl, hb, hlab, a, q, a', q', hfive, hpts⟩, hls, htx⟩ := HM.out i _ (List.getElem?_eq_getElem hlt')
            obtain ⟨M, hMM⟩ : ∃ M, M = ys[i] := ⟨_, rfl⟩
            rw [← hMM] at hlab hfive hpts htx hls
            have hbb : (ad.add (i * 6)).block < w.heap.size := by rw [block_of_add]; exact hb
            have HSIX := hide (six_of ((hwB.cell (p := ad.add (i * 6)) hbb).trans hlab) (hfive.same (p := ⟨_, _, none⟩) hbb (Same.of_below hwB)))
            obtain ⟨s0, s1, s2, s3, s4, s5⟩ := HSIX.out
            have HCK := hide fun w' (hB' : Below w.heap.size w w') => ih M.2 a q a' q' w' (hpts.turn (Same.of_below hB') hB'.size) htx (HTAB.out _ hB')
            have HLB := hide fun w' => Label_run M.1 hls w'
            have HXX := hide (show strsV (LA ++ LC.take (i + 1)) = strsV (LA ++ LC.take i) ++ [.string (labelB M.1 ++ ⟨#[58, 32]⟩ ++ textF m M.2)] by
              rw [List.take_add_one, HLC.out i _ (List.getElem?_eq_getElem hlt'), ← List.append_assoc, strsV_append _ (Option.toList _), hMM]; rfl)
            have hts := textF_le m M.2
            have hlbs := labelB_size M.1
            unfold datV datCs at HCK
            obtain ⟨T, hT⟩ : ∃ T, T = textF m M.2 := ⟨_, rfl⟩
            rw [← hT] at HCK HXX hts
            obtain ⟨LB, hLB⟩ : ∃ T, T = labelB M.1 := ⟨_, rfl⟩
            rw [← hLB] at HLB HXX hlbs
            clear hlab hfive hpts hMM hlt' hb hbb HSIX hT hLB
            go_upto_region 10 with fail
            obtain ⟨wa, hwa⟩ : ∃ wa, wa = wr.alloc (Obj.cells #[Value.string M.1, Value.int IntKind.i64 (kD M.2), Value.int IntKind.i64 (nD M.2), Value.string (sD M.2), Value.slice a (iD M.2).length q, Value.slice a' (mD M.2).length q'] 57) := ⟨_, rfl⟩
            obtain ⟨b, hbb⟩ : ∃ b, b = wr.heap.size := ⟨_, rfl⟩
            have hR : Row wa b 57 [Value.string M.1, Value.int IntKind.i64 (kD M.2), Value.int IntKind.i64 (nD M.2), Value.string (sD M.2), Value.slice a (iD M.2).length q, Value.slice a' (mD M.2).length q'] := by rw [hwa, hbb]; exact Row.new wr _ _
            have HBA := hide (show Below w1.heap.size w1 wa by rw [hwa]; exact below_al hB.out _)
            have HOA := hide (show wa.ownsRow w1.heap.size 9 1 u3 (x + i) (strsV (LA ++ LC.take i)) by rw [hwa]; exact hO.out.alloc _)
            have hS0 : w1.heap.size ≤ wa.heap.size := HBA.out.size
            rw [← hwa, ← hbb]
            have HS := hide fun W (h : Below wa.heap.size wa W) => row6 (hR.below h)
            have HR := hide hR
            have HWB := hide fun W (h : Below wa.heap.size wa W) => HBL.out.trans ((HBA.out.trans (h.mono HBA.out.size)).mono HBL.out.size)
            obtain ⟨d0, d1, d2, d3, d4, d5⟩ := HS.out _ (Below.refl _ _)
            clear hwa hbb hR s0 s1 s2 s3 s4 s5 hB hO hwB
            go_region_held_law (fun W => W.cell? ⟨b, 0, none⟩ = some (.string M.1) ∧ W.cell? ⟨b, 1, none⟩ = some (.int .i64 (kD M.2)) ∧ W.cell? ⟨b, 2, none⟩ = some (.int .i64 (nD M.2)) ∧ W.cell? ⟨b, 3, none⟩ = some (.string (sD M.2)) ∧
                W.cell? ⟨b, 4, none⟩ = some (.slice a (iD M.2).length q) ∧ W.cell? ⟨b, 5, none⟩ = some (.slice a' (mD M.2).length q'))
              (first
                | exact row6 (((HR.out.below hB5).alloc _).grown o2.out (own_row_ne HOA.out HR.out (by decide)).symm)
                | exact HS.out _ (below_al (((Below.refl _ _).drew.trans hB3).trans (hB4.mono hB3.size)) _)
                | exact HS.out _ (((Below.refl _ _).drew.trans hB3).trans (hB4.mono hB3.size))
                | exact HS.out _ ((Below.refl _ _).drew.trans hB3)
                | exact HS.out _ (Below.refl _ _).drew)
              (first
                | (go_at_call 94; refine (HLB.out _).mono ?_; rintro e w3 ⟨rfl, hB3⟩)
                | (go_at_call 78; refine (HCK.out _ (HWB.out _ ((Below.refl _ _).drew.trans hB3))).mono ?_; rintro e w4 ⟨rfl, hB4⟩; have hB5 := ((Below.refl _ _).drew.trans hB3).trans (hB4.mono hB3.size); have hS5 := hB5.size)
                | (refine step_append_all _ rfl (.tmp 28) (.tmp 37) _ rfl w1.heap.size 9 i0 _ 1 16 Tryz.underlying70 hi0 hz0 hz1 hz2 rfl (by omega) u3 (x + i) (strsV (LA ++ LC.take i)) rfl ((own_below HOA.out hB5).alloc _) (some ⟨w4.heap.size, 0, none⟩) 1 1 [.string (LB ++ ⟨#[58, 32]⟩ ++ T)] rfl (by intro h; cases h) rfl (by intro ad' h; injection h with h; subst h; exact World.news_of_block (heap_alloc_new _ _)) one_str (by unfold maxLen; omega) (by omega) (by simp; omega) ?_; intro v' w' o1 o2))
            all_goals
              have HB5 := hide (Below.grown (below_al (HBA.out.trans (hB5.mono hS0)) (.cells #[.string (LB ++ ⟨#[58, 32]⟩ ++ T)] 9)) o2.out (by simp; omega) (fun k e => (HOA.out.lt k e).1))
              have HO5 := hide (show w'.ownsRow w1.heap.size 9 1 v' (x + (i + 1)) (strsV (LA ++ LC.take (i + 1))) by rw [HXX.out]; exact o1.out)
              clear o1 o2 HBA hB5 hB3 hB4 HS HR HOA HWB HCK HLB HXX d0 d1 d2 d3 d4 d5
              go_wp2_with fail
              go_roundw
              case rel => exact ⟨i + 1, by go_num, by omega, HB5, HO5⟩
              case measure => simp [intOf]; omega
          · obtain rfl : y = i := by omega
            obtain ⟨c0, c1, c2, c3, c4⟩ := HC.out _ hB.out
            have HJ := hide fun o e w' (ho : ByteArray.size o = 1) (he : ByteArray.size e = 1) (h : Below wr.heap.size wr w') => join_run o e u3 L w1.heap.size w' (by
              have h1 := own_below hO.out h
              have e1 : LC.take y = LC := by rw [HY.out, ← HLCL.out, List.take_length]
              rw [e1, ← HL.out] at h1
              have e2 : L.length = x + y := by rw [HL.out, List.length_append, HLAL.out, HLCL.out, ← HX.out, ← HY.out]
              rw [e2]; exact h1) ho he HPL.out
            have HB := hide hwB
            clear hO hB hwB HX HY HLA HLC HLAL HLCL HL HPL
            by_cases k2 : k = 2
            · subst k2
              by_cases n1 : n = 1
              · subst n1
                have HZ := hide (show res = ⟨#[116, 114, 117, 101]⟩ by rw [HRES.out]; rfl)
                go_wp2_with fail
                go_ret
                exact ⟨ret_str HZ.out.symm, HB.out⟩
              · have HZ := hide (show res = ⟨#[102, 97, 108, 115, 101]⟩ by rw [HRES.out]; unfold textK; rw [if_pos rfl, if_neg n1])
                have g1 : (n == 1) = false := by simpa using n1
                go_wp2_with fail
                go_ret
                exact ⟨ret_str HZ.out.symm, HB.out⟩
            · have g2 : (k == 2) = false := by simpa using k2
              by_cases k3 : k = 3
              · subst k3
                have HZ := hide (show res = numB n by rw [HRES.out]; rfl)
                go_wp2_with fail
                refine (HN.out _ (HTAB.out _ HB.out)).mono ?_; rintro e w4 ⟨rfl, hB4⟩
                have HB4 := hide (HB.out.trans (hB4.mono HB.out.size))
                clear hB4
                go_wp2_with fail
                go_ret
                exact ⟨ret_str HZ.out.symm, HB4.out⟩
              · have g3 : (k == 3) = false := by simpa using k3
                by_cases k4 : k = 4
                · subst k4
                  have HZ := hide (show res = quoteB s by rw [HRES.out]; rfl)
                  go_wp2_with fail
                  refine (HQ.out _).mono ?_; rintro e w4 ⟨rfl, hB4⟩
                  have HB4 := hide (HB.out.trans (hB4.mono HB.out.size))
                  clear hB4
                  go_wp2_with fail
                  go_ret
                  exact ⟨ret_str HZ.out.symm, HB4.out⟩
                · have g4 : (k == 4) = false := by simpa using k4
                  by_cases k5 : k = 5
                  · subst k5
                    have HZ := hide (show res = joinB ⟨#[91]⟩ ⟨#[93]⟩ L by rw [HRES.out]; rfl)
                    go_wp2_with fail
                    refine (HJ.out ⟨#[91]⟩ ⟨#[93]⟩ _ rfl rfl (Below.refl _ _)).mono ?_; rintro e w4 ⟨rfl, hB4⟩
                    have HB4 := hide (HB.out.trans (hB4.mono HB.out.size))
                    clear hB4
                    go_wp2_with fail
                    go_ret
                    exact ⟨ret_str HZ.out.symm, HB4.out⟩
                  · have g5 : (k == 5) = false := by simpa using k5
                    by_cases k6 : k = 6
                    · subst k6
                      have HZ := hide (show res = joinB ⟨#[123]⟩ ⟨#[125]⟩ L by rw [HRES.out]; rfl)
                      go_wp2_with fail
                      refine (HJ.out ⟨#[123]⟩ ⟨#[125]⟩ _ rfl rfl (Below.refl _ _)).mono ?_; rintro e w4 ⟨rfl, hB4⟩
                      have HB4 := hide (HB.out.trans (hB4.mono HB.out.size))
                      clear hB4
                      go_wp2_with fail
                      go_ret
                      exact ⟨ret_str HZ.out.symm, HB4.out⟩
                    · have g6 : (k == 6) = false := by simpa using k6
                      have HZ := hide (show res = ⟨#[110, 117, 108, 108]⟩ by rw [HRES.out]; unfold textK; rw [if_neg k2, if_neg k3, if_neg k4, if_neg k5, if_neg k6])
                      go_wp2_with fail
                      go_ret
                      exact ⟨ret_str HZ.out.symm, HB.out⟩
end Go.Proofs.YtmmbbndoimleaaaGreatDoor

/- Compare and Equal. -/
namespace Go.Proofs.YtmmbbndoimleaaaGreatDoor
open Go.RowKit

def compareD (m : Nat) (d e : Dt) : Int := if checkD d = 0 then (if checkD e = 0 then compF m d e else 0) else 0
def equalD (m : Nat) (d e : Dt) : Bool := (checkD d == 0) && ((checkD e == 0) && (compF m d e == 0))

end Go.Proofs.YtmmbbndoimleaaaGreatDoor

/- Results that lie in a block. -/
namespace Go.Proofs.YtmmbbndoimleaaaGreatDoor
open Go.RowKit

def set5 (w : World) (g : Nat) (a b c d e : Value) : World := ((((w.setCell ⟨g, 0, none⟩ a).setCell ⟨g, 1, none⟩ b).setCell ⟨g, 2, none⟩ c).setCell ⟨g, 3, none⟩ d).setCell ⟨g, 4, none⟩ e
theorem row_set5 {w : World} {g : Nat} {t : TypeId} {x0 x1 x2 x3 x4 : Value} (h : Row w g t [x0, x1, x2, x3, x4]) (a b c d e : Value) : Row (set5 w g a b c d e) g t [a, b, c, d, e] :=
  ((((h.set_ 0 a).set_ 1 b).set_ 2 c).set_ 3 d).set_ 4 e
theorem below_set5 {B : Nat} {w0 w : World} (h : Below B w0 w) {g : Nat} (hg : B ≤ g) (a b c d e : Value) : Below B w0 (set5 w g a b c d e) :=
  ((((h.setCell (p := ⟨g, 0, none⟩) hg a).setCell (p := ⟨g, 1, none⟩) hg b).setCell (p := ⟨g, 2, none⟩) hg c).setCell (p := ⟨g, 3, none⟩) hg d).setCell (p := ⟨g, 4, none⟩) hg e
theorem row_far5 {w : World} {g g' : Nat} {t : TypeId} {vs : List Value} (h : Row w g t vs) (hne : g ≠ g') (a b c d e : Value) : Row (set5 w g' a b c d e) g t vs :=
  ((((h.far (p := ⟨g', 0, none⟩) hne a).far (p := ⟨g', 1, none⟩) hne b).far (p := ⟨g', 2, none⟩) hne c).far (p := ⟨g', 3, none⟩) hne d).far (p := ⟨g', 4, none⟩) hne e
theorem infoSizeD : (Tryz.prog.info? 25).map (·.size) = some 5 := by kernel_rfl
theorem row_heap {w : World} {g : Nat} {t : TypeId} {vs : List Value} (h : Row w g t vs) : ∃ fr, w.heap[g]? = some (.cells vs.toArray t fr) := ⟨_, h⟩
/-- A result that lies in a block, and one that does not. -/
theorem results_dat2 {fn : Func} {p u : Tmp} (h : fn.results = #[.cell p 25, .tmp u]) (tmps : Array Value) (w : World) (g : Nat) (a b c d e : Value)
    (hp : tmps.getD p undef = .pointer (some ⟨g, 0, none⟩)) (hR : Row w g 25 [a, b, c, d, e]) : (results fn tmps).run Tryz.prog w = .ok (.tuple #[.agg #[a, b, c, d, e], tmps.getD u undef]) w := by
  obtain ⟨fr, hr⟩ := row_heap hR
  have hl := run_loadVar_row (P := Tryz.prog) w g 25 25 _ fr _ hr Tryz.underlying25 rfl infoSizeD
  rw [results_cell_tmp h, hp]
  simp only [asAddr, Sem.run_pure, Result.andThen_ok, hl]
theorem results_dat {fn : Func} {p : Tmp} (h : fn.results = #[.cell p 25]) (tmps : Array Value) (w : World) (g : Nat) (a b c d e : Value)
    (hp : tmps.getD p undef = .pointer (some ⟨g, 0, none⟩)) (hR : Row w g 25 [a, b, c, d, e]) : (results fn tmps).run Tryz.prog w = .ok (.agg #[a, b, c, d, e]) w := by
  obtain ⟨fr, hr⟩ := row_heap hR
  exact results_cell_row h tmps w g 25 _ fr _ hp hr Tryz.underlying25 rfl infoSizeD
end Go.Proofs.YtmmbbndoimleaaaGreatDoor

/- step. -/
namespace Go.Proofs.YtmmbbndoimleaaaGreatDoor
open Go.RowKit

def zeroD : Dt := mkD 0 0 ByteArray.empty [] []
theorem zero_parts (w : World) (B m : Nat) : Parts w B (m + 1) zeroD none 0 none 0 :=
  ⟨⟨Nat.le_refl _, Nat.zero_le _, Nat.le_refl _, Nat.zero_le _⟩, fun i x h => by simp [zeroD] at h, fun i x h => by simp [zeroD] at h⟩
def findM (lab : ByteArray) : List (ByteArray × Dt) → Option Dt
  | [] => none
  | x :: l => if x.1.toList == lab.toList then some x.2 else findM lab l
/-- The part to which a step leads. -/
def stepD (d : Dt) (lab : ByteArray) (ix : Int) : Option Dt :=
  if lab.toList = [] then (if 0 ≤ ix ∧ ix < (iD d).length then (iD d)[ix.toNat]? else none) else findM lab (mD d)
/-- What a function hands back that may find data. -/
def FoundPost (B : Nat) (w : World) (m : Nat) (o : Option Dt) (e : Ending) (w' : World) : Prop :=
  ∃ X a q a' q', e = .returned (.tuple #[datV X a q a' q', .bool o.isSome]) ∧ X = o.getD zeroD ∧ Parts w' B m X a q a' q' ∧ Below w.heap.size w w'

end Go.Proofs.YtmmbbndoimleaaaGreatDoor

/- clean: the function's own blocks, and rows that grow by data made afresh. -/
namespace Go.Proofs.YtmmbbndoimleaaaGreatDoor
open Go.RowKit

theorem infoM : (Tryz.prog.info? 57).map (fun i => (i.zero, i.size, i.bytes)) = some (some (.agg #[.string ⟨#[]⟩, .int .i64 0, .int .i64 0, .string ⟨#[]⟩, .slice none 0 0, .slice none 0 0]), 6, 96) := by kernel_rfl

theorem memCs_one {s : ByteArray} {d : Dt} {a c a' c'} : ∀ u ∈ (Value.string s :: datCs d a c a' c'), u.oneCell' = true := fun u hu => by
  rcases List.mem_cons.1 hu with rfl | hu
  · rfl
  · exact datCs_one u hu
/-- The three boxes of a call of clean. -/
def CSt (w : World) (g g4 g5 b0 : Nat) (D2 D4 D5 : List Value) (wr : World) : Prop :=
  (w.heap.size = g ∧ g4 = g + 1 ∧ g5 = g + 2 ∧ b0 = g + 3) ∧ b0 ≤ wr.heap.size ∧ Below w.heap.size w wr ∧ Row wr g 25 D2 ∧ Row wr g4 25 D4 ∧ Row wr g5 25 D5
section
variable {w wr W : World} {g g4 g5 b0 : Nat} {D2 D4 D5 : List Value}
theorem CSt.below (h : CSt w g g4 g5 b0 D2 D4 D5 wr) (hb : Below wr.heap.size wr W) : CSt w g g4 g5 b0 D2 D4 D5 W := by
  obtain ⟨h0, h1, h2, h3, h4, h5⟩ := h
  exact ⟨h0, Nat.le_trans h1 hb.size, h2.trans (hb.mono h2.size), h3.below hb, h4.below hb, h5.below hb⟩
theorem CSt.grown (h : CSt w g g4 g5 b0 D2 D4 D5 wr) {row : Option Nat} (hg : wr.grownBy W row) (hr : ∀ k, row = some k → b0 ≤ k) : CSt w g g4 g5 b0 D2 D4 D5 W := by
  obtain ⟨h0, h1, h2, h3, h4, h5⟩ := h
  exact ⟨h0, Nat.le_trans h1 hg.size, h2.grown hg h2.size (fun k e => by have := hr k e; omega), h3.grown hg (fun e => by have := hr g e.symm; omega), h4.grown hg (fun e => by have := hr g4 e.symm; omega), h5.grown hg (fun e => by have := hr g5 e.symm; omega)⟩
theorem CSt.set (h : CSt w g g4 g5 b0 D2 D4 D5 wr) (i : Nat) (u : Value) : CSt w g g4 g5 b0 D2 D4 (D5.set i u) (wr.setCell ⟨g5, i, none⟩ u) := by
  obtain ⟨h0, h1, h2, h3, h4, h5⟩ := h
  have hs : wr.heap.size ≤ (wr.setCell ⟨g5, i, none⟩ u).heap.size := (Below.setCell (B := 0) (Below.refl 0 wr) (p := ⟨g5, i, none⟩) (Nat.zero_le _) u).size
  exact ⟨h0, Nat.le_trans h1 hs, h2.setCell (p := ⟨g5, i, none⟩) (by show _ ≤ g5; omega) u, h3.far (by show g ≠ g5; omega) u, h4.far (by show g4 ≠ g5; omega) u, h5.set_ i u⟩
theorem csize_set (wr : World) (p : Addr) (u : Value) : (wr.setCell p u).heap.size = wr.heap.size := by
  show (Array.modify _ _ _).size = _; rw [Array.size_modify]
end
/-- The end of clean. -/
theorem clean_fin {w wr : World} {g g4 g5 b0 m : Nat} {D2 D4 : List Value} {k n : Int} {s : ByteArray} {u v : Value} {l : List Dt} {ms : List (ByteArray × Dt)} {r : Dt}
    (h : CSt w g g4 g5 b0 D2 D4 [.int .i64 k, .int .i64 n, .string s, u, v] wr) (hd : DZ b0 wr m u l) (hm : MZ b0 wr m v ms) (hr : r = mkD k n s l ms) (x0 x1 x2 x3 x4 : Value) :
    ∃ a c a' c', Ending.returned (.agg #[.int .i64 k, .int .i64 n, .string s, u, v]) = .returned (datV r a c a' c') ∧ Below w.heap.size w (set5 wr g4 x0 x1 x2 x3 x4) ∧ PZ w.heap.size none (set5 wr g4 x0 x1 x2 x3 x4) (m + 1) r a c a' c' := by
  obtain ⟨h0, h1, h2, h3, h4, h5⟩ := h
  have hb := below_set5 h2 (g := g4) (by omega) x0 x1 x2 x3 x4
  have hs : (set5 wr g4 x0 x1 x2 x3 x4).heap.size = wr.heap.size := by unfold set5; simp only [csize_set]
  have hk : ∀ k, k ≠ g4 → (set5 wr g4 x0 x1 x2 x3 x4).heap[k]? = wr.heap[k]? := fun k hk => by
    unfold set5
    rw [Below.heap_setCell _ _ _ _ hk, Below.heap_setCell _ _ _ _ hk, Below.heap_setCell _ _ _ _ hk, Below.heap_setCell _ _ _ _ hk, Below.heap_setCell _ _ _ _ hk]
  obtain ⟨a, c, a', c', rfl, rfl, hp⟩ := pz_mk (k := k) (n := n) (s := s) (hd.turn (lo' := w.heap.size) (w' := set5 wr g4 x0 x1 x2 x3 x4) (by omega) (by omega) fun k k1 _ => hk k (by omega)) (hm.turn (lo' := w.heap.size) (w' := set5 wr g4 x0 x1 x2 x3 x4) (by omega) (by omega) fun k k1 _ => hk k (by omega))
  subst hr
  exact ⟨a, c, a', c', by unfold datV datCs; simp, hb, hp⟩
/-- A row takes one more made afresh. -/
theorem pz_push {g5 b0 : Nat} {wr w4 w5 : World} {m : Nat} {ob : Option Nat} {gn i : Nat} {u' : Value} {d : Dt} {a c a' c'} (hd : PZ b0 ob wr m d a c a' c') (hg5 : g5 < b0) (h2 : Below wr.heap.size wr w4)
    (o2 : w4.grownBy w5 ob) (o3 : ob = some gn ∨ gn = w4.heap.size) : PZ b0 (some gn) (w5.setCell ⟨g5, i, none⟩ u') m d a c a' c' := by
  refine hd.turn (by rw [csize_set]; exact Nat.le_trans h2.size o2.size) fun k k1 k2 k3 => ⟨?_, k1, ?_⟩
  · rw [Below.heap_setCell _ _ _ _ (by show k ≠ g5; omega), o2.block k (Nat.lt_of_lt_of_le k2 h2.size) k3, h2.block k k2]
  · rcases o3 with e | e
    · rw [← e]; exact k3
    · intro e'; injection e' with e'; have := h2.size; omega
theorem pz_new {g5 b0 H : Nat} {wr w3 w4 w5 : World} {m : Nat} {ob : Option Nat} {gn i : Nat} {u' : Value} {d : Dt} {a c a' c'} (hp : PZ H none w3 m d a c a' c') (hg5 : g5 < b0) (hb0 : b0 ≤ wr.heap.size) (h1 : wr.heap.size ≤ H) (hob : ∀ k, ob = some k → k < wr.heap.size) (h3 : Below w3.heap.size w3 w4) 
    (o2 : w4.grownBy w5 ob) (o3 : ob = some gn ∨ gn = w4.heap.size) : PZ b0 (some gn) (w5.setCell ⟨g5, i, none⟩ u') m d a c a' c' := by
  refine hp.turn (by rw [csize_set]; exact Nat.le_trans h3.size o2.size) fun k k1 k2 _ => ⟨?_, by omega, ?_⟩
  · have hne : some k ≠ ob := fun e => by have := hob k e.symm; omega
    rw [Below.heap_setCell _ _ _ _ (by show k ≠ g5; omega), o2.block k (Nat.lt_of_lt_of_le k2 h3.size) hne, h3.block k k2]
  · rcases o3 with e | e
    · intro e'; injection e' with e'; have := hob gn e; omega
    · intro e'; injection e' with e'; have := h3.size; omega
theorem own_set {w : World} {base : Nat} {e : TypeId} {size : Nat} {v : Value} {n : Nat} {xs : List Value} (h : w.ownsRow base e size v n xs) {p : Addr} (hp : p.block < base) (u : Value) : (w.setCell p u).ownsRow base e size v n xs := ownsRow_setCell_below h hp u
theorem own_push {g5 b0 H : Nat} {wr w3 w4 w5 : World} {m : Nat} {uv : Value} {l : List Dt} {r : Dt} {a : Option Addr} {c : Nat} {a' : Option Addr} {c' gn cap n : Nat} {xs : List Value} {i : Nat} {u' : Value}
    (ho : wr.ownsRow b0 25 5 uv n xs) (hf : FlatD (PZ b0 uv.ownBlock wr m) xs l) (hn : l.length = n) (hg5 : g5 < b0) (hb0 : b0 ≤ wr.heap.size) (h1 : wr.heap.size ≤ H) (h2 : Below wr.heap.size wr w4) (hp : PZ H none w3 m r a c a' c') (h3 : Below w3.heap.size w3 w4)
    (o1 : w5.ownsRow b0 25 5 (.slice (some ⟨gn, 0, none⟩) (n + 1) cap) (n + 1) (xs ++ datCs r a c a' c')) (o2 : w4.grownBy w5 uv.ownBlock) (o3 : uv.ownBlock = some gn ∨ gn = w4.heap.size) :
    OwnD (PZ b0 (Value.slice (some ⟨gn, 0, none⟩) (n + 1) cap).ownBlock (w5.setCell ⟨g5, i, none⟩ u') m) (w5.setCell ⟨g5, i, none⟩ u') b0 (.slice (some ⟨gn, 0, none⟩) (n + 1) cap) (l ++ [r]) := by
  refine ⟨_, by rw [List.length_append, hn]; exact own_set o1 hg5 u', ?_⟩
  exact (hf.turn fun x b q b' q' hx => pz_push hx hg5 h2 o2 o3).append (FlatD.one (pz_new hp hg5 hb0 h1 (fun k e => (ho.lt k e).2) h3 o2 o3))
theorem own_pushM {g5 b0 H : Nat} {wr w3 w4 w5 : World} {m : Nat} {uv : Value} {l : List (ByteArray × Dt)} {r : ByteArray × Dt} {a : Option Addr} {c : Nat} {a' : Option Addr} {c' gn cap n : Nat} {xs : List Value} {i : Nat} {u' : Value}
    (ho : wr.ownsRow b0 57 6 uv n xs) (hf : FlatM (PZ b0 uv.ownBlock wr m) xs l) (hn : l.length = n) (hg5 : g5 < b0) (hb0 : b0 ≤ wr.heap.size) (h1 : wr.heap.size ≤ H) (h2 : Below wr.heap.size wr w4) (hp : PZ H none w3 m r.2 a c a' c') (h3 : Below w3.heap.size w3 w4)
    (o1 : w5.ownsRow b0 57 6 (.slice (some ⟨gn, 0, none⟩) (n + 1) cap) (n + 1) (xs ++ .string r.1 :: datCs r.2 a c a' c')) (o2 : w4.grownBy w5 uv.ownBlock) (o3 : uv.ownBlock = some gn ∨ gn = w4.heap.size) :
    OwnM (PZ b0 (Value.slice (some ⟨gn, 0, none⟩) (n + 1) cap).ownBlock (w5.setCell ⟨g5, i, none⟩ u') m) (w5.setCell ⟨g5, i, none⟩ u') b0 (.slice (some ⟨gn, 0, none⟩) (n + 1) cap) (l ++ [r]) := by
  refine ⟨_, by rw [List.length_append, hn]; exact own_set o1 hg5 u', ?_⟩
  exact (hf.turn fun x b q b' q' hx => pz_push hx hg5 h2 o2 o3).append (FlatM.one (pz_new hp hg5 hb0 h1 (fun k e => (ho.lt k e).2) h3 o2 o3))
theorem clean_sort {b0 m : Nat} {wr : World} {u : Value} {L : List (ByteArray × Dt)} (h : OwnM (PZ b0 u.ownBlock wr m) wr b0 u L) (hl : L.length ≤ 1000000) :
    Calls Tryz.prog 69 #[u, .func (.func 70) #[] #[]] wr fun e w' => e = .returned (.tuple #[]) ∧ ∃ row, wr.grownBy w' row ∧ (∀ k, row = some k → b0 ≤ k) ∧ MZ b0 w' m u (sortK Prod.fst L) := by
  obtain ⟨xs, ho, hf⟩ := h
  rcases ho.2 with ⟨rfl, hn⟩ | ⟨g, cap, cur, rfl, hb, hh, hc, hm, hcs, htk⟩
  · refine (sortStable_nil wr).mono ?_
    rintro e w' ⟨rfl, rfl⟩
    rw [List.eq_nil_of_length_eq_zero hn]
    exact ⟨rfl, none, grown_refl _ _, by simp, MZ.nil _ _ _⟩
  · obtain ⟨ML, hxs, hML, hR⟩ := mcs_of_flat hf
    have hlen : ML.length = L.length := by rw [← hML, List.length_map]
    have hrow : SRow wr g ML (cur.toList.drop (L.length * 6)) := by
      unfold SRow Row
      rw [← hxs, ← htk, List.take_append_drop]
      simpa using hh
    refine (sortStable_run g cap L.length ML _ wr hrow hlen hl).mono ?_
    rintro e w' ⟨rfl, C, hC, hS, hG⟩
    refine ⟨rfl, some g, hG, fun k e => by injection e with e; omega, some ⟨g, 0, none⟩, cap, by rw [sortK_length], by rw [sortK_length]; exact hc, hm, fun W h1 h2 => ?_⟩
    rw [← hML, ← sorted_members hC]
    refine MemsAt.of_flat (flat_of_mcs fun e he => hR e (hC.2.1.mem he) W (Nat.le_trans hG.size h1) fun k k1 k2 k3 => (h2 k k1 (Nat.lt_of_lt_of_le k2 hG.size)).trans (hG.block k k2 k3)) ?_ fun j v hv => ?_
    · have := hS.lt; show g < _; omega
    · rw [add_head]
      refine (World.cell?_of_block (h2 g hb hS.lt)).trans ?_
      rw [Row.cell hS, List.getElem?_append_left (List.getElem?_eq_some_iff.1 hv).1]
      exact hv
end Go.Proofs.YtmmbbndoimleaaaGreatDoor
