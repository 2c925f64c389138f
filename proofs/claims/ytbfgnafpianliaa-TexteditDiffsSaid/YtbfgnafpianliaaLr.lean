/- Lines and its reference: the walks. -/
import Derived.Test.YtbfgnafpianliaaLn
namespace Go.Proofs.Ytbfgnafpianliaa
open Go.RowKit

theorem info9 : (Try.prog.info? 9).map (fun i => (i.zero, i.size, i.bytes)) = some (some (.string ⟨#[]⟩), 1, 16) := by kernel_rfl
theorem linesF_len (s : ByteArray) : ∀ (m fr i : Nat), (linesF s m fr i).length ≤ m + 1
  | 0, fr, i => by unfold linesF; split <;> simp
  | m + 1, fr, i => by
    unfold linesF; split
    · simp; exact linesF_len s m _ _
    · have := linesF_len s m fr (i + 1); omega

def LinesPost (w : World) (s : ByteArray) (e : Ending) (w' : World) : Prop := ∃ u, e = .returned u ∧ Below w.heap.size w w' ∧ Strs w' w'.heap.size u (linesP s)

set_option maxHeartbeats 1000000 in
theorem refLines_run (s : ByteArray) (w : World) (hs : s.size ≤ 1000000000) : Calls Try.prog 23 #[.string s] w (LinesPost w s) := by
  obtain ⟨i0, hi0, hz0, hz1, hz2⟩ := info_parts info9
  go_enter Try.func23, Try.ntmps23
  go_wp2
  go_loopw [3, 4, 5] (fun vv fv iv wr => ∃ (k fr i : Nat) (done : List ByteArray), iv = .int .i64 i ∧ fv = .int .i64 fr ∧ fr ≤ i ∧ i ≤ s.size ∧ k ≤ i ∧
    Hid (linesP s = done ++ linesF s (s.size - i) fr i) ∧ Hid (Below w.heap.size w wr) ∧ Hid (wr.ownsRow w.heap.size 9 1 vv k (done.map .string))) (fun _ _ i _ => s.size - (intOf i).toNat)
  case atStart => exact ⟨0, 0, 0, [], rfl, rfl, by omega, by omega, by omega, by rfl, hide (Below.refl _ _), hide (World.ownsRow_nil _ _ _ _)⟩
  case round =>
    obtain ⟨k, fr, i, done, rfl, rfl, hfi, his, hki, hI, hB, hO⟩ := hrel
    by_cases hlt : i < s.size
    · by_cases hb : s.get! i = 10
      · have hq := hI.out
        rw [linesF_hit s fr i hlt hb] at hq
        have HQ := Lib.hid hq
        have hb' : (s[i].toNat == 10) = true := by rw [← get_eq s i hlt, hb]; rfl
        have q1 : i + 1 ≤ s.size := by omega
        have hsz : w.heap.size ≤ wr.heap.size := hB.out.size
        clear hI hq hb
        go_wp2_with (at_builtin; refine wpList_append_lies _ rfl (.tmp 16) (.tmp 22) _ rfl w.heap.size 9 i0 _ 1 16 Try.underlying36 hi0 hz0 hz1 hz2 rfl (by omega) u3 k _ rfl (hO.out.alloc _) ⟨wr.heap.size, 0, none⟩ 1 1 [.string (s.extract fr (i + 1))] rfl rfl (cell_one_new _ _ _) (fun u hu => by simp at hu; subst hu; rfl) (by omega) (by unfold maxLen; omega) (by omega) (by simp; omega) (wr.heap.size + 1) (by simp) ?_)
        intro g cap w2 h1 h2 h3 h4
        have HO := hide (show w2.ownsRow w.heap.size 9 1 (.slice (some ⟨g, 0, none⟩) (k + 1) cap) (k + 1) ((done ++ [s.extract fr (i + 1)]).map .string) by rw [List.map_append]; exact h1)
        have HB := hide (show Below w.heap.size w w2 from Below.grown (below_al hB.out _) h2 (by simp; omega) (fun k e => (hO.out.lt k e).1))
        clear h1 h2 h3 h4 hO hB
        go_wp2_with fail
        go_roundw
        case rel => exact ⟨k + 1, i + 1, i + 1, done ++ [s.extract fr (i + 1)], by go_num, by go_num, by omega, by omega, by omega, hide (by rw [HQ.out, List.append_assoc]; rfl), HB, HO⟩
        case measure => simp [intOf]; omega
      · have hq := hI.out
        rw [linesF_miss s fr i hlt hb] at hq
        have HQ := Lib.hid hq
        have hb' : (s[i].toNat == 10) = false := by
          rw [beq_eq_false_iff_ne]; intro e; apply hb; rw [get_eq s i hlt]; exact UInt8.toNat_inj.1 e
        clear hI hq hb
        go_wp2
        go_roundw
        case rel => exact ⟨k, fr, i + 1, done, by go_num, rfl, by omega, by omega, by omega, HQ, hB, hO⟩
        case measure => simp [intOf]; omega
    · have hq := hI.out
      rw [linesF_end s fr i hlt] at hq
      by_cases hf : fr < s.size
      · rw [if_pos hf] at hq
        have HQ := Lib.hid hq
        have hsz : w.heap.size ≤ wr.heap.size := hB.out.size
        clear hI hq
        go_wp2_with (at_builtin; refine wpList_append_lies _ rfl (.tmp 30) (.tmp 34) _ rfl w.heap.size 9 i0 _ 1 16 Try.underlying36 hi0 hz0 hz1 hz2 rfl (by omega) u3 k _ rfl (hO.out.alloc _) ⟨wr.heap.size, 0, none⟩ 1 1 [.string (s.extract fr s.size)] rfl rfl (cell_one_new _ _ _) (fun u hu => by simp at hu; subst hu; rfl) (by omega) (by unfold maxLen; omega) (by omega) (by simp; omega) (wr.heap.size + 1) (by simp) ?_)
        intro g cap w2 h1 h2 h3 h4
        have HO := hide (show w2.ownsRow w.heap.size 9 1 (.slice (some ⟨g, 0, none⟩) (k + 1) cap) (k + 1) ((done ++ [s.extract fr s.size]).map .string) by rw [List.map_append]; exact h1)
        have HB := hide (show Below w.heap.size w w2 from Below.grown (below_al hB.out _) h2 (by simp; omega) (fun k e => (hO.out.lt k e).1))
        clear h1 h2 h3 h4 hO hB
        go_wp2_with fail
        go_ret
        refine ⟨_, rfl, HB.out, ?_⟩
        rw [HQ.out]
        exact Sl.of_own HO.out
      · rw [if_neg hf, List.append_nil] at hq
        have HQ := Lib.hid hq
        clear hI hq
        go_wp2
        go_ret
        refine ⟨_, rfl, hB.out, ?_⟩
        rw [HQ.out]
        exact Sl.of_own hO.out

theorem iterPos_of {w : World} {k : Nat} {s : ByteArray} {p : Nat} (h : w.heap[k]? = some (.stringIter s p)) : w.iterPos k = p := by simp [World.iterPos, h]
theorem grownBy_iterAt (w : World) (k : Nat) (s : ByteArray) (p : Nat) : w.grownBy (w.iterAt k s p) (some k) :=
  ⟨rfl, rfl, rfl, by rw [Lib.iterAt_size]; exact Nat.le_refl _, fun j _ hne => Lib.iterAt_other w k j s p (fun e => hne (by rw [e]))⟩

set_option maxHeartbeats 1000000 in
theorem Lines_run (s : ByteArray) (w : World) (hs : s.size ≤ 1000000000) : Calls Try.prog 22 #[.string s] w (LinesPost w s) := by
  obtain ⟨i0, hi0, hz0, hz1, hz2⟩ := info_parts info9
  obtain ⟨I, hIt⟩ : ∃ I, I = w.heap.size := ⟨_, rfl⟩
  go_enter Try.func22, Try.ntmps22
  go_wp2
  clear hIt
  go_loopw [3, 4, 5, 6] (fun vv fv iv cv wr => ∃ (k fr i : Nat) (done : List ByteArray), fv = .int .i64 fr ∧ fr ≤ i ∧ i ≤ s.size ∧ k ≤ i ∧
    Hid (linesP s = done ++ linesF s (s.size - i) fr i) ∧ Hid (Below w.heap.size w wr) ∧ Hid (wr.heap[w.heap.size]? = some (.stringIter s i)) ∧ Hid (wr.ownsRow (w.heap.size + 1) 9 1 vv k (done.map .string))) (fun _ _ _ _ wr => s.size - wr.iterPos w.heap.size)
  case atStart => exact ⟨0, 0, 0, [], rfl, by omega, by omega, by omega, by rfl, hide (Below.alloc (Below.refl _ _) (Nat.le_refl _) _), hide (by simp [World.iter_heap]), hide (World.ownsRow_nil _ _ _ _)⟩
  case round =>
    obtain ⟨k, fr, i, done, rfl, hfi, his, hki, hI, hB, hT, hO⟩ := hrel
    have hsz : w.heap.size < wr.heap.size := (Array.getElem?_eq_some_iff.1 hT.out).1
    have hno : u3.ownBlock ≠ some w.heap.size := fun e => by have := (hO.out.lt _ e).1; omega
    have hpos : wr.iterPos w.heap.size = i := iterPos_of hT.out
    have HPOS := Lib.hid hpos
    by_cases hlt : i < s.size
    · obtain ⟨w1, hw1⟩ : ∃ w1, w1 = wr.iterAt w.heap.size s (i + (Utf8.decode s i).2) := ⟨_, rfl⟩
      have hB1 := hide (show Below w.heap.size w w1 by rw [hw1]; exact Below.grown hB.out (grownBy_iterAt _ _ _ _) (by omega) (fun k e => by injection e with e; omega))
      have hT1 := hide (show w1.heap[w.heap.size]? = some (.stringIter s (i + (Utf8.decode s i).2)) by rw [hw1]; exact Lib.iterAt_heap _ _ _ _ _ hT.out)
      have hO1 := hide (show w1.ownsRow (w.heap.size + 1) 9 1 u3 k (done.map .string) by rw [hw1]; exact hO.out.kept (grownBy_iterAt _ _ _ _) (Or.inr hno))
      have hsz1 : w.heap.size < w1.heap.size := (Array.getElem?_eq_some_iff.1 hT1.out).1
      have hnx : ∀ ty, (Instr.next (.pointer (some ⟨w.heap.size, 0, none⟩)) true ty).run Try.prog wr = _ := fun ty => Lib.run_next_any_at (P := Try.prog) wr w.heap.size s i ty hT.out hlt
      rw [← hw1] at hnx
      by_cases hb : s.get! i = 10
      · have hd : Utf8.decode s i = (10, 1) := by rw [decode_ascii s i hlt (by rw [← get_eq s i hlt, hb]; decide), ← get_eq s i hlt, hb]; rfl
        rw [hd] at hnx hT1
        have hq := hI.out
        rw [linesF_hit s fr i hlt hb] at hq
        have HQ := Lib.hid hq
        have q1 : i + 1 ≤ s.size := by omega
        clear hI hq hb hw1 hd hpos hB hT hO
        go_wp2_with (at_builtin; refine wpList_append_lies _ rfl (.tmp 15) (.tmp 21) _ rfl (w.heap.size + 1) 9 i0 _ 1 16 Try.underlying36 hi0 hz0 hz1 hz2 rfl (by omega) u3 k _ rfl (hO1.out.alloc _) ⟨w1.heap.size, 0, none⟩ 1 1 [.string (s.extract fr (i + 1))] rfl rfl (cell_one_new _ _ _) (fun u hu => by simp at hu; subst hu; rfl) (by omega) (by unfold maxLen; omega) (by omega) (by simp; omega) (w1.heap.size + 1) (by simp) ?_)
        intro g cap w2 h1 h2 h3 h4
        have HO := hide (show w2.ownsRow (w.heap.size + 1) 9 1 (.slice (some ⟨g, 0, none⟩) (k + 1) cap) (k + 1) ((done ++ [s.extract fr (i + 1)]).map .string) by rw [List.map_append]; exact h1)
        have HB := hide (show Below w.heap.size w w2 from Below.grown (below_al hB1.out _) h2 (by simp; omega) (fun k e => by have := (hO1.out.lt k e).1; omega))
        have hk2 : w2.heap[w.heap.size]? = some (.stringIter s (i + 1)) := by
          rw [h2.block _ (by simp; omega) (by intro e; exact hno e.symm)]
          exact (Below.heap_alloc _ _ _ hsz1).trans hT1.out
        have HT := hide hk2
        have hp2 : w2.iterPos w.heap.size = i + 1 := iterPos_of hk2
        have HP2 := Lib.hid hp2
        clear h1 h2 h3 h4 hO1 hB1 hk2 hT1 hp2 hnx hno
        go_wp2_with fail
        go_roundw
        case rel => exact ⟨k + 1, i + 1, i + 1, done ++ [s.extract fr (i + 1)], by go_num, by omega, by omega, by omega, hide (by rw [HQ.out, List.append_assoc]; rfl), HB, HT, HO⟩
        case measure => rw [HP2.out, HPOS.out]; omega
      · obtain ⟨d1, d2, d3, d4⟩ := decode_skip s i hlt hb
        obtain ⟨d, hd⟩ : ∃ d, d = (Utf8.decode s i).2 := ⟨_, rfl⟩
        obtain ⟨c, hc⟩ : ∃ c, c = (Utf8.decode s i).1 := ⟨_, rfl⟩
        have hp2 : w1.iterPos w.heap.size = i + (Utf8.decode s i).2 := iterPos_of hT1.out
        rw [← hd] at d2 d3 d4 hT1 hp2
        rw [← hc] at d1 hnx
        have hcc : ((c : Int) == 10) = false := by simp; omega
        have hq := hI.out
        rw [linesF_skip s fr d i d4 d3] at hq
        have HQ := Lib.hid hq
        have HP2 := Lib.hid hp2
        clear hI hq hb hw1 d4 hd hc hp2 hpos hT hB hO hno
        go_wp2
        go_roundw
        case rel => exact ⟨k, fr, i + d, done, rfl, by omega, by omega, by omega, HQ, hB1, hT1, hO1⟩
        case measure => rw [HP2.out, HPOS.out]; omega
    · have hnx : ∀ ty, (Instr.next (.pointer (some ⟨w.heap.size, 0, none⟩)) true ty).run Try.prog wr = _ := fun ty => Lib.run_next_end_at (P := Try.prog) wr w.heap.size s i ty hT.out hlt
      have hq := hI.out
      rw [linesF_end s fr i hlt] at hq
      by_cases hf : fr < s.size
      · rw [if_pos hf] at hq
        have HQ := Lib.hid hq
        clear hI hq hpos
        go_wp2_with (at_builtin; refine wpList_append_lies _ rfl (.tmp 29) (.tmp 33) _ rfl (w.heap.size + 1) 9 i0 _ 1 16 Try.underlying36 hi0 hz0 hz1 hz2 rfl (by omega) u3 k _ rfl (hO.out.alloc _) ⟨wr.heap.size, 0, none⟩ 1 1 [.string (s.extract fr s.size)] rfl rfl (cell_one_new _ _ _) (fun u hu => by simp at hu; subst hu; rfl) (by omega) (by unfold maxLen; omega) (by omega) (by simp; omega) (wr.heap.size + 1) (by simp) ?_)
        intro g cap w2 h1 h2 h3 h4
        have HO := hide (show w2.ownsRow (w.heap.size + 1) 9 1 (.slice (some ⟨g, 0, none⟩) (k + 1) cap) (k + 1) ((done ++ [s.extract fr s.size]).map .string) by rw [List.map_append]; exact h1)
        have HB := hide (show Below w.heap.size w w2 from Below.grown (below_al hB.out _) h2 (by simp; omega) (fun k e => by have := (hO.out.lt k e).1; omega))
        clear h1 h2 h3 h4 hO hB
        go_wp2_with fail
        go_ret
        refine ⟨_, rfl, HB.out, ?_⟩
        rw [HQ.out]
        exact Sl.of_own HO.out
      · rw [if_neg hf, List.append_nil] at hq
        have HQ := Lib.hid hq
        clear hI hq hpos
        go_wp2
        go_ret
        refine ⟨_, rfl, hB.out, ?_⟩
        rw [HQ.out]
        exact Sl.of_own hO.out
end Go.Proofs.Ytbfgnafpianliaa
