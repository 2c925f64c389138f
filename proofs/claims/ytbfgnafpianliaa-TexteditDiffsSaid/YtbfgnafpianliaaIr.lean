/- The reference's Invert; Same. -/
import Derived.Test.YtbfgnafpianliaaIv
namespace Go.Proofs.Ytbfgnafpianliaa
open Go.RowKit

theorem keepE {w1 w2 : World} {row : Option Nat} {B : Nat} {a : Addr} {x y z : Value} (h2 : w1.grownBy w2 row) (hB : B ≤ w1.heap.size) (hb : a.block < B) (hne : ∀ k, row = some k → B ≤ k)
    (hS : w1.cell? a = some x ∧ w1.cell? ⟨a.block, a.off + 1, none⟩ = some y ∧ w1.cell? ⟨a.block, a.off + 2, none⟩ = some z) :
    w2.cell? a = some x ∧ w2.cell? ⟨a.block, a.off + 1, none⟩ = some y ∧ w2.cell? ⟨a.block, a.off + 2, none⟩ = some z := by
  have hn : some a.block ≠ row := fun e => by have := hne _ e.symm; omega
  exact ⟨(h2.cell_far a (by omega) hn).trans hS.1, (h2.cell_far ⟨a.block, a.off + 1, none⟩ (by show a.block < _; omega) hn).trans hS.2.1, (h2.cell_far ⟨a.block, a.off + 2, none⟩ (by show a.block < _; omega) hn).trans hS.2.2⟩
theorem cellsE_alloc {w1 : World} {a : Addr} {x y z : Value} (hb : a.block < w1.heap.size) (o : Obj)
    (hS : w1.cell? a = some x ∧ w1.cell? ⟨a.block, a.off + 1, none⟩ = some y ∧ w1.cell? ⟨a.block, a.off + 2, none⟩ = some z) :
    (w1.alloc o).cell? a = some x ∧ (w1.alloc o).cell? ⟨a.block, a.off + 1, none⟩ = some y ∧ (w1.alloc o).cell? ⟨a.block, a.off + 2, none⟩ = some z :=
  ⟨(World.cell?_alloc_lt _ _ _ hb).trans hS.1, (World.cell?_alloc_lt _ _ ⟨a.block, a.off + 1, none⟩ hb).trans hS.2.1, (World.cell?_alloc_lt _ _ ⟨a.block, a.off + 2, none⟩ hb).trans hS.2.2⟩

set_option maxHeartbeats 1000000 in
theorem refInvert_run (s : ByteArray) (v : Value) (es : List Ed) (w : World) (h : Eds w w.heap.size v es) (hF : Fit es) (hs : s.size ≤ 1000000000000) :
    Calls Try.prog 20 #[.string s, v] w fun e w' => ∃ u, e = .returned (.tuple #[u, .int .i64 (invertP s es).2]) ∧ Below w.heap.size w w' ∧ Eds w' w'.heap.size u (invertP s es).1 := by
  have hC := refApply_run s v es w _ h hF hs
  obtain ⟨A, c, rfl, hc1, hc2, hels⟩ := h
  have hm := maxLen_le hc2
  obtain ⟨hF1, hF2⟩ := hF
  have HF := Lib.hid hF2
  have HE := Lib.hid hels; clear hels hc2 hF2
  obtain ⟨n, hn⟩ : ∃ n, n = es.length := ⟨_, rfl⟩
  rw [← hn] at hc1 hC hF1 ⊢
  have HN := Lib.hid hn
  obtain ⟨r, hr⟩ : ∃ r, r = invertP s es := ⟨_, rfl⟩
  rw [← hr]
  obtain ⟨⟨t0, k0⟩, hk0⟩ : ∃ k, k = applyP s es := ⟨_, rfl⟩
  rw [← hk0] at hC
  have HC := hide hC
  have HR := Lib.hid hr
  have HK := Lib.hid hk0
  clear hn hr hC hk0
  by_cases hk : k0 = 0
  · subst hk
    have hch : Chain s.size 0 es := by
      have h := HK.out
      rw [applyP] at h
      split at h
      · rename_i h1; injection h with _ h; exact absurd h.symm h1
      · rename_i h1; exact chain_of_check (by omega) (by simpa using h1)
    have HCh := Lib.hid hch
    have hrr : r = (invL s 0 es, 0) := by rw [HR.out, invertP, ← HK.out]; simp
    have HRR := Lib.hid hrr
    clear hch hrr
    obtain ⟨i0, hi0, hz0, hz1, hz2⟩ := info_parts info35
    go_enter Try.func20, Try.ntmps20
    go_wp2_with (go_at_call 14; refine (unhide HC).mono ?_; rintro e w' ⟨rfl, m0, rfl⟩)
    go_loopw [8, 9, 10, 11] (fun vv cv i f wr => ∃ (k : Nat) (C p : Int) (done : List Ed), i = .int .i64 k ∧ cv = .int .i64 C ∧ k ≤ n ∧ 0 ≤ p ∧ p ≤ s.size ∧ -10000000000000 * (k : Int) ≤ C ∧ C ≤ 10000000000000 * (k : Int) ∧ 
      Hid (invL s 0 es = done ++ invL s C (es.drop k)) ∧ Hid (Chain s.size p (es.drop k)) ∧ Hid (Below w.heap.size w wr) ∧ Hid (wr.ownsRow w.heap.size 35 3 vv k (edCells done))) (fun _ _ i _ _ => n - (intOf i).toNat)
    case atStart => exact ⟨0, 0, 0, [], rfl, rfl, by omega, by omega, by omega, by omega, by omega, by rfl, HCh, hide (below_drewN (Below.refl _ _) _), hide (World.ownsRow_nil _ _ _ _)⟩
    case round =>
      clear HCh HC
      obtain ⟨k, C, p, done, rfl, rfl, hk2, hp0, hp1, hC1, hC2, hI, hL, hB, hO⟩ := hrel
      by_cases hlt : k < n
      · have hn := HN.out
        have hlt' : k < es.length := by omega
        obtain ⟨ad, rfl, hb, hf, ht, hx⟩ := HE.out.get (Same.of_below hB.out) hlt'
        have hL' := hL.out
        have hF : es[k].tx.size ≤ 1000000000 := HF.out _ (List.getElem_mem hlt')
        rw [drop_at hlt'] at hL'
        obtain ⟨l1, l2, l3, l4⟩ := hL'
        obtain ⟨f, ef⟩ := ofNat_of (show 0 ≤ es[k].fr by omega)
        obtain ⟨t, et⟩ := ofNat_of (show 0 ≤ es[k].to by omega)
        obtain ⟨T, eT⟩ : ∃ T, T = es[k].tx := ⟨_, rfl⟩
        rw [ef] at hf l1 l2
        rw [et] at ht l2 l3 l4
        rw [← eT] at hx hF
        have hq := hI.out
        rw [drop_at hlt', invL, chg, ef, et, ← eT, Int.toNat_natCast, Int.toNat_natCast] at hq
        have HQ := Lib.hid hq; have HL4 := Lib.hid l4
        have q1 : t ≤ s.size := by omega
        have q2 : f ≤ t := by omega
        have e1 : IntKind.i64.wrap ((f : Int) + C) = (f : Int) + C := IntWalk.i64_in _ (by omega)
        have e2 : IntKind.i64.wrap ((f : Int) + C + (T.size : Int)) = (f : Int) + C + (T.size : Int) := IntWalk.i64_in _ (by omega)
        have e3 : IntKind.i64.wrap ((t : Int) - (f : Int)) = (t : Int) - (f : Int) := IntWalk.i64_in _ (by omega)
        have e4 : IntKind.i64.wrap (C + (T.size : Int)) = C + (T.size : Int) := IntWalk.i64_in _ (by omega)
        have e5 : IntKind.i64.wrap (C + (T.size : Int) - ((t : Int) - (f : Int))) = C + (T.size : Int) - ((t : Int) - (f : Int)) := IntWalk.i64_in _ (by omega)
        have hbl : (ad.add (k * 3)).block < w.heap.size := by rw [block_of_add]; exact hb
        have hsz : w.heap.size ≤ wr.heap.size := hB.out.size
        clear hI hL l4 hq hn ef et eT
        go_wp2
        go_region_held_law (fun w' => w'.cell? (ad.add (k * 3)) = some (.int .i64 f) ∧ w'.cell? ⟨(ad.add (k * 3)).block, (ad.add (k * 3)).off + 1, none⟩ = some (.int .i64 t) ∧ w'.cell? ⟨(ad.add (k * 3)).block, (ad.add (k * 3)).off + 2, none⟩ = some (.string T)) (first | (exact ⟨hf, ht, hx⟩) | (exact keepE h2 (by first | omega | (simp; omega)) hbl (fun k e => (hO.out.lt k e).1) (by assumption)) | (exact cellsE_alloc (by first | omega | (simp; omega)) _ (by assumption)))
          ((refine step_append_lies _ rfl (.tmp 34) (.tmp 57) _ rfl w.heap.size 35 i0 _ 3 32 Try.underlying22 hi0 hz0 hz1 hz2 rfl (by omega) u8 k _ rfl (hO.out.alloc _) ⟨wr.heap.size, 0, none⟩ 1 1 [.int .i64 ((f : Int) + C), .int .i64 ((f : Int) + C + (T.size : Int)), .string (s.extract f t)] rfl rfl (World.news_of_block (heap_alloc_new _ _)) (fun u hu => by simp at hu; rcases hu with rfl | rfl | rfl <;> rfl) (by omega) (by unfold maxLen; omega) (by omega) (by simp; omega) (wr.heap.size + 1) (by simp) ?_; intro g2 cap w2 h1 h2 h3 h4))
        simp only [List.getElem_toArray, List.getElem_cons_succ, List.getElem_cons_zero, List.setIfInBounds_toArray, List.set_cons_succ, List.set_cons_zero]
        have k3 := keepE h2 (by first | omega | (simp; omega)) hbl (fun k e => (hO.out.lt k e).1) (cellsE_alloc (by first | omega | (simp; omega)) _ ⟨hf, ht, hx⟩)
        obtain ⟨k30, k31, k32⟩ := k3
        have HB3 := Lib.hid (show Below w.heap.size w w2 from Below.grown (below_al (Below.drew hB.out) _) h2 (by simp; omega) (fun k e => (hO.out.lt k e).1))
        have HO3 := Lib.hid h1
        clear hf ht hx h1 h2 h3 h4 hB hO e1 e2 hbl hsz
        go_wp2_with fail
        go_quiet (fail)
        go_wp2_with fail
        go_roundw
        case rel =>
          refine ⟨k + 1, _, t, done ++ [⟨(f : Int) + C, (f : Int) + C + T.size, s.extract f t⟩], by go_num, rfl, by omega, by omega, by omega, by omega, by omega, hide ?_, HL4, hide (below_drewN HB3.out _), hide ?_⟩
          · rw [HQ.out, List.append_assoc, show C + (T.size : Int) - ((t : Int) - f) = C + ((T.size : Int) - (t - f)) by omega]; rfl
          · have := HO3.out
            rw [edCells_append]; exact this
        case measure => simp [intOf]; omega
      · have hq := hI.out
        rw [List.drop_eq_nil_of_le (by have := HN.out; omega), invL, List.append_nil] at hq
        have HQ := Lib.hid hq; clear hq hI hL
        go_wp2
        go_ret2
        rw [HRR.out]
        refine ⟨_, rfl, hB.out, ?_⟩
        show Eds _ _ _ (invL s 0 es)
        rw [HQ.out]
        exact (Eds.of_own hO.out).2
  · have hrr : r = ([], k0) := by rw [HR.out, invertP, ← HK.out]; simp [hk]
    have HRR := Lib.hid hrr; clear hrr
    have hk' : (k0 == 0) = false := by simpa using hk
    go_enter Try.func20, Try.ntmps20
    go_wp2_with (go_at_call 14; refine (unhide HC).mono ?_; rintro e w' ⟨rfl, m0, rfl⟩)
    go_ret2
    rw [HRR.out]
    exact ⟨_, rfl, below_drewN (Below.refl _ _) _, Eds.nil⟩
end Go.Proofs.Ytbfgnafpianliaa
