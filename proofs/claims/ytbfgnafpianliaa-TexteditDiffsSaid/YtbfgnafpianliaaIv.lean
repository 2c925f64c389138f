/- Invert. -/
import Derived.Test.YtbfgnafpianliaaAr
import Derived.Deep.RegionHeldLaw
namespace Go.Proofs.Ytbfgnafpianliaa
open Go.RowKit

/-- The cells of edits, three each. -/
def edCells : List Ed → List Value
  | [] => []
  | e :: l => .int .i64 e.fr :: .int .i64 e.to :: .string e.tx :: edCells l
theorem edCells_length : ∀ es : List Ed, (edCells es).length = es.length * 3
  | [] => rfl
  | e :: l => by simp only [edCells, List.length_cons, edCells_length l]; omega
theorem edCells_append : ∀ a b : List Ed, edCells (a ++ b) = edCells a ++ edCells b
  | [], _ => rfl
  | e :: l, b => by simp [edCells, edCells_append l b]
theorem edCells_get : ∀ (es : List Ed) (i : Nat) (e : Ed), es[i]? = some e → (edCells es)[i * 3]? = some (.int .i64 e.fr) ∧ (edCells es)[i * 3 + 1]? = some (.int .i64 e.to) ∧ (edCells es)[i * 3 + 2]? = some (.string e.tx)
  | [], i, e, h => by simp at h
  | x :: l, 0, e, h => by
    simp at h; subst h; simp [edCells]
  | x :: l, i + 1, e, h => by
    have := edCells_get l i e (by simpa using h)
    rw [show (i + 1) * 3 = i * 3 + 3 by omega]
    simpa [edCells] using this

theorem Eds.of_own {w : World} {base n : Nat} {v : Value} {es : List Ed} (h : w.ownsRow base 35 3 v n (edCells es)) : n = es.length ∧ Eds w w.heap.size v es := by
  have h1 := h.1
  rw [edCells_length] at h1
  have hn : n = es.length := by omega
  refine ⟨hn, ?_⟩
  rcases h.2 with ⟨rfl, rfl⟩ | ⟨g, cap, cur, rfl, _, hh, hc, hm, _⟩
  · have : es = [] := List.eq_nil_of_length_eq_zero hn.symm
    subst this; exact Eds.nil
  · refine ⟨_, cap, by rw [hn], by omega, hm, fun i e he => ?_⟩
    have hlt : g < w.heap.size := (h.lt g rfl).2
    have hi : i < es.length := (List.getElem?_eq_some_iff.1 he).1
    obtain ⟨a, b, c⟩ := edCells_get es i e he
    refine ⟨_, rfl, hlt, ?_, ?_, ?_⟩
    · rw [add_head, h.cellAt _ (by omega)]; exact a
    · rw [add_head]
      show w.cell? ⟨g, i * 3 + 1, none⟩ = _
      rw [h.cellAt _ (by omega)]; exact b
    · rw [add_head]
      show w.cell? ⟨g, i * 3 + 2, none⟩ = _
      rw [h.cellAt _ (by omega)]; exact c

theorem keep3 {w1 w2 : World} {row : Option Nat} {b : Nat} {x y z : Value} (h2 : w1.grownBy w2 row) (hlt : b < w1.heap.size) (hne : row ≠ some b)
    (hS : w1.cell? ⟨b, 0, none⟩ = some x ∧ w1.cell? ⟨b, 1, none⟩ = some y ∧ w1.cell? ⟨b, 2, none⟩ = some z) :
    w2.cell? ⟨b, 0, none⟩ = some x ∧ w2.cell? ⟨b, 1, none⟩ = some y ∧ w2.cell? ⟨b, 2, none⟩ = some z :=
  ⟨(h2.cell_far _ hlt (Ne.symm hne)).trans hS.1, (h2.cell_far _ hlt (Ne.symm hne)).trans hS.2.1, (h2.cell_far _ hlt (Ne.symm hne)).trans hS.2.2⟩

theorem info35 : (Try.prog.info? 35).map (fun i => (i.zero, i.size, i.bytes)) = some (some (.agg #[.int .i64 0, .int .i64 0, .string ⟨#[]⟩]), 3, 32) := by kernel_rfl

set_option maxHeartbeats 1000000 in
theorem Invert_run (s : ByteArray) (v : Value) (es : List Ed) (w : World) (h : Eds w w.heap.size v es) (hF : Fit es) (hs : s.size ≤ 1000000000000) :
    Calls Try.prog 19 #[.string s, v] w fun e w' => ∃ u, e = .returned (.tuple #[u, .int .i64 (invertP s es).2]) ∧ Below w.heap.size w w' ∧ Eds w' w'.heap.size u (invertP s es).1 := by
  have hC := Apply_run s v es w h hF hs
  obtain ⟨A, c, rfl, hc1, hc2, hels⟩ := h
  have hm := maxLen_le hc2
  obtain ⟨hF1, hF2⟩ := hF
  have HF := Lib.hid hF2
  have HE := Lib.hid hels; clear hels hc2 hF2
  obtain ⟨n, hn⟩ : ∃ n, n = es.length := ⟨_, rfl⟩
  rw [← hn] at hc1 hC hF1 ⊢
  have HN := Lib.hid hn
  obtain ⟨r, hr⟩ : ∃ r, r = invertP s es := ⟨_, rfl⟩
  rw [← hr]
  obtain ⟨⟨t0, k0⟩, hk0⟩ : ∃ k, k = applyP s es := ⟨_, rfl⟩
  rw [← hk0] at hC
  have HC := hide hC
  have HR := Lib.hid hr
  have HK := Lib.hid hk0
  clear hn hr hC hk0
  by_cases hk : k0 = 0
  · subst hk
    have hch : Chain s.size 0 es := by
      have h := HK.out
      rw [applyP] at h
      split at h
      · rename_i h1; injection h with _ h; exact absurd h.symm h1
      · rename_i h1; exact chain_of_check (by omega) (by simpa using h1)
    have HCh := Lib.hid hch
    have hrr : r = (invL s 0 es, 0) := by rw [HR.out, invertP, ← HK.out]; simp
    have HRR := Lib.hid hrr
    clear hch hrr
    obtain ⟨i0, hi0, hz0, hz1, hz2⟩ := info_parts info35
    go_enter Try.func19, Try.ntmps19
    go_wp2_with (go_at_call 13; refine (unhide HC).mono ?_; rintro e wp ⟨rfl, hBp⟩)
    go_loopw [8, 9, 11, 12, 24] (fun vv cv e f i wr => ∃ (k : Nat) (C p : Int) (done : List Ed), i = .int .i64 k ∧ cv = .int .i64 C ∧ k ≤ n ∧ 0 ≤ p ∧ p ≤ s.size ∧ -10000000000000 * (k : Int) ≤ C ∧ C ≤ 10000000000000 * (k : Int) ∧ 
      Hid (invL s 0 es = done ++ invL s C (es.drop k)) ∧ Hid (Chain s.size p (es.drop k)) ∧ Hid (Below w.heap.size w wr) ∧ Hid (wr.ownsRow w.heap.size 35 3 vv k (edCells done))) (fun _ _ _ _ i _ => n - (intOf i).toNat)
    case atStart => exact ⟨0, 0, 0, [], rfl, rfl, by omega, by omega, by omega, by omega, by omega, by rfl, HCh, hide hBp, hide (World.ownsRow_nil _ _ _ _)⟩
    case round =>
      clear hBp HCh HC
      obtain ⟨k, C, p, done, rfl, rfl, hk2, hp0, hp1, hC1, hC2, hI, hL, hB, hO⟩ := hrel
      by_cases hlt : k < n
      · have hn := HN.out
        have hlt' : k < es.length := by omega
        obtain ⟨ad, rfl, hb, hf, ht, hx⟩ := HE.out.get (Same.of_below hB.out) hlt'
        have hL' := hL.out
        have hF : es[k].tx.size ≤ 1000000000 := HF.out _ (List.getElem_mem hlt')
        rw [drop_at hlt'] at hL'
        obtain ⟨l1, l2, l3, l4⟩ := hL'
        obtain ⟨f, ef⟩ := ofNat_of (show 0 ≤ es[k].fr by omega)
        obtain ⟨t, et⟩ := ofNat_of (show 0 ≤ es[k].to by omega)
        obtain ⟨T, eT⟩ : ∃ T, T = es[k].tx := ⟨_, rfl⟩
        rw [ef] at hf l1 l2
        rw [et] at ht l2 l3 l4
        rw [← eT] at hx hF
        have hq := hI.out
        rw [drop_at hlt', invL, chg, ef, et, ← eT, Int.toNat_natCast, Int.toNat_natCast] at hq
        have HQ := Lib.hid hq; have HL4 := Lib.hid l4
        have q1 : t ≤ s.size := by omega
        have q2 : f ≤ t := by omega
        have e1 : IntKind.i64.wrap ((f : Int) + C) = (f : Int) + C := IntWalk.i64_in _ (by omega)
        have e2 : IntKind.i64.wrap ((f : Int) + C + (T.size : Int)) = (f : Int) + C + (T.size : Int) := IntWalk.i64_in _ (by omega)
        have e3 : IntKind.i64.wrap ((t : Int) - (f : Int)) = (t : Int) - (f : Int) := IntWalk.i64_in _ (by omega)
        have e4 : IntKind.i64.wrap ((T.size : Int) - ((t : Int) - (f : Int))) = (T.size : Int) - ((t : Int) - (f : Int)) := IntWalk.i64_in _ (by omega)
        have e5 : IntKind.i64.wrap (C + ((T.size : Int) - ((t : Int) - (f : Int)))) = C + ((T.size : Int) - ((t : Int) - (f : Int))) := IntWalk.i64_in _ (by omega)
        clear hI hL l4 hq hn ef et eT
        go_wp2
        obtain ⟨wa, hwa⟩ : ∃ wa, wa = wr.alloc (Obj.cells #[Value.int IntKind.i64 (f:Int), Value.int IntKind.i64 (t:Int), Value.string T] 35) := ⟨_, rfl⟩
        obtain ⟨b, hbb⟩ : ∃ b, b = wr.heap.size := ⟨_, rfl⟩
        have c0 : wa.cell? ⟨b, 0, none⟩ = some (.int .i64 f) := by rw [hwa, hbb]; simp
        have c1 : wa.cell? ⟨b, 1, none⟩ = some (.int .i64 t) := by rw [hwa, hbb]; simp
        have c2 : wa.cell? ⟨b, 2, none⟩ = some (.string T) := by rw [hwa, hbb]; simp
        rw [← hwa, ← hbb]
        have HB2 := Lib.hid (show Below w.heap.size w wa by rw [hwa]; exact below_al hB.out _)
        have hbl : b < wa.heap.size := by rw [hwa, hbb]; simp
        have HO2 := Lib.hid (show wa.ownsRow w.heap.size 35 3 u8 k (edCells done) by rw [hwa]; exact hO.out.alloc _)
        have HBO := Lib.hid (show u8.ownBlock ≠ some b by intro e; have := (hO.out.lt _ e).2; omega)
        have HBB := Lib.hid hbb
        clear hwa hf ht hx hB hbb hO
        go_region_held_law (fun w' => w'.cell? ⟨b, 0, none⟩ = some (.int .i64 f) ∧ w'.cell? ⟨b, 1, none⟩ = some (.int .i64 t) ∧ w'.cell? ⟨b, 2, none⟩ = some (.string T)) (first | go_keep | (exact keep3 h2 (by simp; omega) HBO.out (by assumption)))
          ((refine step_append_lies _ rfl (.tmp 32) (.tmp 46) _ rfl w.heap.size 35 i0 _ 3 32 Try.underlying22 hi0 hz0 hz1 hz2 rfl (by omega) u8 k _ rfl (HO2.out.alloc _) ⟨wa.heap.size, 0, none⟩ 1 1 [.int .i64 ((f : Int) + C), .int .i64 ((f : Int) + C + (T.size : Int)), .string (s.extract f t)] rfl rfl (World.news_of_block (heap_alloc_new _ _)) (fun u hu => by simp at hu; rcases hu with rfl | rfl | rfl <;> rfl) (by omega) (by unfold maxLen; omega) (by omega) (by have := HB2.out.size; simp; omega) (wa.heap.size + 1) (by simp) ?_; intro g2 cap w2 h1 h2 h3 h4))
        have k3 := keep3 h2 (by simp; omega) HBO.out ⟨(World.cell?_alloc_lt _ _ _ hbl).trans c0, (World.cell?_alloc_lt _ _ _ hbl).trans c1, (World.cell?_alloc_lt _ _ _ hbl).trans c2⟩
        obtain ⟨k30, k31, k32⟩ := k3
        have HB3 := Lib.hid (show Below w.heap.size w w2 from Below.grown (below_al (Below.drew HB2.out) _) h2 (by have := HB2.out.size; simp; omega) (fun k e => (HO2.out.lt k e).1))
        have HO3 := Lib.hid h1
        clear c0 c1 c2 h1 h2 h3 h4 HB2 HO2 HBO e1 e2 hbl
        go_wp2_with fail
        go_roundw
        case rel =>
          refine ⟨k + 1, _, t, done ++ [⟨(f : Int) + C, (f : Int) + C + T.size, s.extract f t⟩], by go_num, rfl, by omega, by omega, by omega, by omega, by omega, hide ?_, HL4, HB3, hide ?_⟩
          · rw [HQ.out, List.append_assoc, Int.add_comm C]; rfl
          · have := HO3.out
            rw [edCells_append]; exact this
        case measure => simp [intOf]; omega
      · have hq := hI.out
        rw [List.drop_eq_nil_of_le (by have := HN.out; omega), invL, List.append_nil] at hq
        have HQ := Lib.hid hq; clear hq hI hL
        go_wp2
        go_ret2
        rw [HRR.out]
        refine ⟨_, rfl, hB.out, ?_⟩
        show Eds _ _ _ (invL s 0 es)
        rw [HQ.out]
        exact (Eds.of_own hO.out).2
  · have hrr : r = ([], k0) := by rw [HR.out, invertP, ← HK.out]; simp [hk]
    have HRR := Lib.hid hrr; clear hrr
    have hk' : (k0 == 0) = false := by simpa using hk
    go_enter Try.func19, Try.ntmps19
    go_wp2_with (go_at_call 13; refine (unhide HC).mono ?_; rintro e wp ⟨rfl, hBp⟩)
    go_ret2
    rw [HRR.out]
    exact ⟨_, rfl, hBp, Eds.nil⟩
end Go.Proofs.Ytbfgnafpianliaa
