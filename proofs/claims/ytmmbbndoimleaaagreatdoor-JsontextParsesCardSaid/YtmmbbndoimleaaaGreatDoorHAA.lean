/- What the library's functions lean on, at this program: printed by the kit's own laying; Words for memory that reads as lists: general lemmas over the model's worlds, no statement of the program; Data as plain data, and memory that reads as data; Rows of data and of members: their cells as one list; append of whatever slice onto an own row; only, own, Valid, plain: a part of data alone; plain and Valid: a part of data alone, as the reference sees it; Valid and own: a part of data alone; slices.Clone of data, and children; children. -/
import Derived.Test.YtmmbbndoimleaaaGreatDoorRows
import Derived.Shelf.Slices.Turned
import Derived.Shelf.Small.Strs
import Derived.Shelf.Strconv.Itoa1
import Derived.Shelf.Strconv.Itoa2
import Derived.Shelf.Strings.OnBuilder
import Derived.Shelf.Strings.Repeat
import Derived.WalkKit
import Derived.WalkSpells
import Derived.WalkLawsBesides
import Derived.Lib.Hide
import Derived.Deep.AppendLies
import Derived.Deep.Draws
import Derived.Deep.OwnRows
import Derived.BigQuiet
import Derived.Deep.QuietTactic
import Derived.StillTailTactics
import Derived.Lib.LazyBuf
import Derived.Deep.RegionHeldLaw
import Derived.Deep.CutBlock
import Derived.Deep.CutRange

/- What the library's functions lean on, at this program: printed by the kit's own laying. -/
namespace Go.Proofs.YtmmbbndoimleaaaGreatDoor
open Go.Shelf

def joinL_ren : Ren where
  f := fun x => match x with | 156 => 61 | 165 => 80 | 166 => 81 | 169 => 82 | 240 => 101 | 241 => 102 | 276 => 116 | 277 => 117 | n => n
  t := fun x => match x with | 31 => 70 | 9 => 9 | 3 => 3 | 4 => 4 | 0 => 0 | 20 => 20 | 72 => 88 | 76 => 92 | 70 => 86 | 37 => 73 | 75 => 91 | 127 => 103 | 164 => 119 | 5 => 5 | 80 => 64 | n => n
  g := fun n => n
theorem joinL : Lays.n156 Tryz.prog joinL_ren where
  mixed := by kernel_rfl
  f156 := Tryz.func61.trans rfl
  f165 := Tryz.func80.trans rfl
  f166 := Tryz.func81.trans rfl
  f169 := Tryz.func82.trans rfl
  f240 := Tryz.func101.trans rfl
  f241 := Tryz.func102.trans rfl
  f276 := Tryz.func116.trans rfl
  f277 := Tryz.func117.trans rfl
  t0 := Tryz.underlying0
  a0 := Tryz.isAgg0
  z0 := Tryz.sizeOf0
  v0 := Tryz.zeroValue0
  t3 := Tryz.underlying3
  a3 := Tryz.isAgg3
  z3 := Tryz.sizeOf3
  v3 := Tryz.zeroValue3
  t4 := Tryz.underlying4
  a4 := Tryz.isAgg4
  z4 := Tryz.sizeOf4
  v4 := Tryz.zeroValue4
  t9 := Tryz.underlying9
  a9 := Tryz.isAgg9
  z9 := Tryz.sizeOf9
  v9 := Tryz.zeroValue9
  t20 := Tryz.underlying20
  a20 := Tryz.isAgg20
  z20 := Tryz.sizeOf20
  v20 := Tryz.zeroValue20
  t31 := Tryz.underlying70
  a31 := Tryz.isAgg70
  z31 := Tryz.sizeOf70
  v31 := Tryz.zeroValue70
  t37 := Tryz.underlying73
  a37 := Tryz.isAgg73
  z37 := Tryz.sizeOf73
  v37 := Tryz.zeroValue73
  t70 := Tryz.underlying86
  a70 := Tryz.isAgg86
  z70 := Tryz.sizeOf86
  v70 := Tryz.zeroValue86
  t72 := Tryz.underlying88
  a72 := Tryz.isAgg88
  z72 := Tryz.sizeOf88
  v72 := Tryz.zeroValue88
  t75 := Tryz.underlying91
  a75 := Tryz.isAgg91
  z75 := Tryz.sizeOf91
  v75 := Tryz.zeroValue91
  t76 := Tryz.underlying92
  a76 := Tryz.isAgg92
  z76 := Tryz.sizeOf92
  v76 := Tryz.zeroValue92
  t127 := Tryz.underlying103
  a127 := Tryz.isAgg103
  z127 := Tryz.sizeOf103
  v127 := Tryz.zeroValue103
  t164 := Tryz.underlying119
  a164 := Tryz.isAgg119
  z164 := Tryz.sizeOf119
  v164 := Tryz.zeroValue119

def digitsL_ren : Ren where
  f := fun x => match x with | 284 => 130 | 129 => 134 | 317 => 133 | 318 => 135 | n => n
  t := fun x => match x with | 53 => 109 | 3 => 3 | 212 => 132 | 0 => 0 | 4 => 4 | 46 => 84 | 5 => 5 | 9 => 9 | n => n
  g := fun x => match x with | 17 => 1 | n => n
theorem digitsL : LaysM.n284 Tryz.prog digitsL_ren where
  mixed := by kernel_rfl
  f129 := Tryz.func134.trans rfl
  f284 := Tryz.func130.trans rfl
  f317 := Tryz.func133.trans rfl
  f318 := Tryz.func135.trans rfl
  t0 := Tryz.underlying0
  a0 := Tryz.isAgg0
  z0 := Tryz.sizeOf0
  v0 := Tryz.zeroValue0
  t3 := Tryz.underlying3
  a3 := Tryz.isAgg3
  z3 := Tryz.sizeOf3
  v3 := Tryz.zeroValue3
  t4 := Tryz.underlying4
  a4 := Tryz.isAgg4
  z4 := Tryz.sizeOf4
  v4 := Tryz.zeroValue4
  t5 := Tryz.underlying5
  a5 := Tryz.isAgg5
  z5 := Tryz.sizeOf5
  v5 := Tryz.zeroValue5
  t9 := Tryz.underlying9
  a9 := Tryz.isAgg9
  z9 := Tryz.sizeOf9
  v9 := Tryz.zeroValue9
  t46 := Tryz.underlying84
  a46 := Tryz.isAgg84
  z46 := Tryz.sizeOf84
  v46 := Tryz.zeroValue84
  t53 := Tryz.underlying109
  a53 := Tryz.isAgg109
  z53 := Tryz.sizeOf109
  v53 := Tryz.zeroValue109
  t212 := Tryz.underlying132
  a212 := Tryz.isAgg132
  z212 := Tryz.sizeOf132
  v212 := Tryz.zeroValue132
  g17 := by kernel_rfl
  i0 := by kernel_rfl
  i3 := by kernel_rfl
  i4 := by kernel_rfl
  i5 := by kernel_rfl
  i9 := by kernel_rfl
  i46 := by kernel_rfl
  i53 := by kernel_rfl
  i212 := by kernel_rfl
  m17 := Eq.refl (some (digitsL_ren.g 17))

def base10L_ren : Ren where
  f := fun x => match x with | 285 => 131 | n => n
  t := fun x => match x with | 37 => 73 | 53 => 109 | 3 => 3 | 4 => 4 | 51 => 114 | 9 => 9 | 5 => 5 | 0 => 0 | n => n
  g := fun n => n
theorem base10L : Lays.n285 Tryz.prog base10L_ren where
  mixed := by kernel_rfl
  f285 := Tryz.func131.trans rfl
  t0 := Tryz.underlying0
  a0 := Tryz.isAgg0
  z0 := Tryz.sizeOf0
  v0 := Tryz.zeroValue0
  t3 := Tryz.underlying3
  a3 := Tryz.isAgg3
  z3 := Tryz.sizeOf3
  v3 := Tryz.zeroValue3
  t4 := Tryz.underlying4
  a4 := Tryz.isAgg4
  z4 := Tryz.sizeOf4
  v4 := Tryz.zeroValue4
  t5 := Tryz.underlying5
  a5 := Tryz.isAgg5
  z5 := Tryz.sizeOf5
  v5 := Tryz.zeroValue5
  t9 := Tryz.underlying9
  a9 := Tryz.isAgg9
  z9 := Tryz.sizeOf9
  v9 := Tryz.zeroValue9
  t37 := Tryz.underlying73
  a37 := Tryz.isAgg73
  z37 := Tryz.sizeOf73
  v37 := Tryz.zeroValue73
  t51 := Tryz.underlying114
  a51 := Tryz.isAgg114
  z51 := Tryz.sizeOf114
  v51 := Tryz.zeroValue114
  t53 := Tryz.underlying109
  a53 := Tryz.isAgg109
  z53 := Tryz.sizeOf109
  v53 := Tryz.zeroValue109

def smallL_ren : Ren where
  f := fun x => match x with | 283 => 129 | n => n
  t := fun x => match x with | 3 => 3 | 9 => 9 | 4 => 4 | n => n
  g := fun n => n
theorem smallL : Lays.n283 Tryz.prog smallL_ren where
  mixed := by kernel_rfl
  f283 := Tryz.func129.trans rfl
  t3 := Tryz.underlying3
  a3 := Tryz.isAgg3
  z3 := Tryz.sizeOf3
  v3 := Tryz.zeroValue3
  t4 := Tryz.underlying4
  a4 := Tryz.isAgg4
  z4 := Tryz.sizeOf4
  v4 := Tryz.zeroValue4
  t9 := Tryz.underlying9
  a9 := Tryz.isAgg9
  z9 := Tryz.sizeOf9
  v9 := Tryz.zeroValue9

def containsL_ren : Ren where
  f := fun x => match x with | 110 => 122 | 109 => 128 | n => n
  t := fun x => match x with | 31 => 70 | 9 => 9 | 4 => 4 | 3 => 3 | 0 => 0 | n => n
  g := fun n => n
theorem containsL : Lays.n110 Tryz.prog containsL_ren where
  mixed := by kernel_rfl
  f109 := Tryz.func128.trans rfl
  f110 := Tryz.func122.trans rfl
  t0 := Tryz.underlying0
  a0 := Tryz.isAgg0
  z0 := Tryz.sizeOf0
  v0 := Tryz.zeroValue0
  t3 := Tryz.underlying3
  a3 := Tryz.isAgg3
  z3 := Tryz.sizeOf3
  v3 := Tryz.zeroValue3
  t4 := Tryz.underlying4
  a4 := Tryz.isAgg4
  z4 := Tryz.sizeOf4
  v4 := Tryz.zeroValue4
  t9 := Tryz.underlying9
  a9 := Tryz.isAgg9
  z9 := Tryz.sizeOf9
  v9 := Tryz.zeroValue9
  t31 := Tryz.underlying70
  a31 := Tryz.isAgg70
  z31 := Tryz.sizeOf70
  v31 := Tryz.zeroValue70

def repeatL_ren : Ren where
  f := fun x => match x with | 105 => 79 | 212 => 98 | 99 => 99 | 165 => 80 | 166 => 81 | 170 => 100 | 169 => 82 | 263 => 113 | 264 => 114 | 206 => 115 | 240 => 101 | 241 => 102 | 276 => 116 | 277 => 117 | n => n
  t := fun x => match x with | 9 => 9 | 3 => 3 | 4 => 4 | 20 => 20 | 0 => 0 | 46 => 84 | 109 => 100 | 5 => 5 | 72 => 88 | 76 => 92 | 51 => 114 | 146 => 115 | 53 => 109 | 148 => 117 | 70 => 86 | 37 => 73 | 75 => 91 | 127 => 103 | 164 => 119 | 80 => 64 | n => n
  g := fun n => n
theorem repeatL : Lays.n105 Tryz.prog repeatL_ren where
  mixed := by kernel_rfl
  f99 := Tryz.func99.trans rfl
  f105 := Tryz.func79.trans rfl
  f165 := Tryz.func80.trans rfl
  f166 := Tryz.func81.trans rfl
  f169 := Tryz.func82.trans rfl
  f170 := Tryz.func100.trans rfl
  f206 := Tryz.func115.trans rfl
  f212 := Tryz.func98.trans rfl
  f240 := Tryz.func101.trans rfl
  f241 := Tryz.func102.trans rfl
  f263 := Tryz.func113.trans rfl
  f264 := Tryz.func114.trans rfl
  f276 := Tryz.func116.trans rfl
  f277 := Tryz.func117.trans rfl
  t0 := Tryz.underlying0
  a0 := Tryz.isAgg0
  z0 := Tryz.sizeOf0
  v0 := Tryz.zeroValue0
  t3 := Tryz.underlying3
  a3 := Tryz.isAgg3
  z3 := Tryz.sizeOf3
  v3 := Tryz.zeroValue3
  t4 := Tryz.underlying4
  a4 := Tryz.isAgg4
  z4 := Tryz.sizeOf4
  v4 := Tryz.zeroValue4
  t5 := Tryz.underlying5
  a5 := Tryz.isAgg5
  z5 := Tryz.sizeOf5
  v5 := Tryz.zeroValue5
  t9 := Tryz.underlying9
  a9 := Tryz.isAgg9
  z9 := Tryz.sizeOf9
  v9 := Tryz.zeroValue9
  t20 := Tryz.underlying20
  a20 := Tryz.isAgg20
  z20 := Tryz.sizeOf20
  v20 := Tryz.zeroValue20
  t37 := Tryz.underlying73
  a37 := Tryz.isAgg73
  z37 := Tryz.sizeOf73
  v37 := Tryz.zeroValue73
  t46 := Tryz.underlying84
  a46 := Tryz.isAgg84
  z46 := Tryz.sizeOf84
  v46 := Tryz.zeroValue84
  t51 := Tryz.underlying114
  a51 := Tryz.isAgg114
  z51 := Tryz.sizeOf114
  v51 := Tryz.zeroValue114
  t53 := Tryz.underlying109
  a53 := Tryz.isAgg109
  z53 := Tryz.sizeOf109
  v53 := Tryz.zeroValue109
  t70 := Tryz.underlying86
  a70 := Tryz.isAgg86
  z70 := Tryz.sizeOf86
  v70 := Tryz.zeroValue86
  t72 := Tryz.underlying88
  a72 := Tryz.isAgg88
  z72 := Tryz.sizeOf88
  v72 := Tryz.zeroValue88
  t75 := Tryz.underlying91
  a75 := Tryz.isAgg91
  z75 := Tryz.sizeOf91
  v75 := Tryz.zeroValue91
  t76 := Tryz.underlying92
  a76 := Tryz.isAgg92
  z76 := Tryz.sizeOf92
  v76 := Tryz.zeroValue92
  t109 := Tryz.underlying100
  a109 := Tryz.isAgg100
  z109 := Tryz.sizeOf100
  v109 := Tryz.zeroValue100
  t127 := Tryz.underlying103
  a127 := Tryz.isAgg103
  z127 := Tryz.sizeOf103
  v127 := Tryz.zeroValue103
  t146 := Tryz.underlying115
  a146 := Tryz.isAgg115
  z146 := Tryz.sizeOf115
  v146 := Tryz.zeroValue115
  t148 := Tryz.underlying117
  a148 := Tryz.isAgg117
  z148 := Tryz.sizeOf117
  v148 := Tryz.zeroValue117
  t164 := Tryz.underlying119
  a164 := Tryz.isAgg119
  z164 := Tryz.sizeOf119
  v164 := Tryz.zeroValue119

def indexByteL_ren : Ren where
  f := fun x => match x with | 137 => 35 | 217 => 64 | 266 => 86 | n => n
  t := fun x => match x with | 9 => 9 | 5 => 5 | 3 => 3 | n => n
  g := fun n => n
theorem indexByteL : Lays.n137 Tryz.prog indexByteL_ren where
  mixed := by kernel_rfl
  f137 := Tryz.func35.trans rfl
  f217 := Tryz.func64.trans rfl
  f266 := Tryz.func86.trans rfl
  t3 := Tryz.underlying3
  a3 := Tryz.isAgg3
  z3 := Tryz.sizeOf3
  v3 := Tryz.zeroValue3
  t5 := Tryz.underlying5
  a5 := Tryz.isAgg5
  z5 := Tryz.sizeOf5
  v5 := Tryz.zeroValue5
  t9 := Tryz.underlying9
  a9 := Tryz.isAgg9
  z9 := Tryz.sizeOf9
  v9 := Tryz.zeroValue9

end Go.Proofs.YtmmbbndoimleaaaGreatDoor

/- Words for memory that reads as lists: general lemmas over the model's worlds, no statement of the program. -/
namespace Go.Proofs.YtmmbbndoimleaaaGreatDoor
open Go.RowKit

theorem block_of_add (a : Addr) (n : Nat) : (a.add n).block = a.block := by unfold Addr.add; split <;> rfl
theorem add_of_add (a : Addr) (i j : Nat) : (a.add i).add j = a.add (i + j) := by
  unfold Addr.add
  by_cases hi : i = 0 <;> by_cases hj : j = 0 <;> simp [hi, hj, Nat.add_assoc]
theorem add_head (g i : Nat) : (⟨g, 0, none⟩ : Addr).add i = ⟨g, i, none⟩ := by
  unfold Addr.add; split
  · subst i; rfl
  · simp

theorem ret_int {k : IntKind} {a b : Int} (h : a = b) : Ending.returned (.int k a) = .returned (.int k b) := by rw [h]
theorem ret_bool {a b : Bool} (h : a = b) : Ending.returned (.bool a) = .returned (.bool b) := by rw [h]
theorem ret_str {a b : ByteArray} (h : a = b) : Ending.returned (.string a) = .returned (.string b) := by rw [h]

/-- The call only reads: it draws, and hands back v. -/
def Quiet (v : Value) (w : World) (e : Ending) (w' : World) : Prop := e = .returned v ∧ ∃ n, w' = w.drewN n

theorem quiet_left {P : Program} {f : FuncId} {args : Array Value} {w : World} {n : Nat} {v : Value}
    (h : Calls P f args (w.drewN n) fun e w' => e = .returned v ∧ w.drewN n = w') : Calls P f args (w.drewN n) fun e w'' => e = .returned v ∧ ∃ m, w'' = w.drewN m :=
  h.mono fun _ _ ⟨he, hm⟩ => ⟨he, n, hm.symm⟩

/-- Below block B the two worlds hold the same blocks. -/
def Same (B : Nat) (w w' : World) : Prop := ∀ k, k < B → w'.heap[k]? = w.heap[k]?

section
variable {w w' w'' : World} {B B' : Nat}
theorem Same.refl : Same B w w := fun _ _ => rfl
theorem Same.trans (h : Same B w w') (h' : Same B w' w'') : Same B w w'' := fun k hk => (h' k hk).trans (h k hk)
theorem Same.mono (h : Same B w w') (hB : B' ≤ B) : Same B' w w' := fun k hk => h k (Nat.lt_of_lt_of_le hk hB)
theorem Same.of_below (h : Below B w w') : Same B w w' := h.block
theorem Same.cell (h : Same B w w') {p : Addr} (hp : p.block < B) : w'.cell? p = w.cell? p := World.cell?_of_block (h p.block hp)
theorem Same.frozen (h : Same B w w') {p : Addr} (hp : p.block < B) : w'.frozen? p = w.frozen? p := World.frozen?_of_block (h p.block hp)
theorem Same.drewN (n : Nat) : Same B w (w.drewN n) := fun _ _ => rfl
theorem Same.drew : Same B w w.drew := fun _ _ => rfl
theorem Same.alloc (hB : B ≤ w.heap.size) (o : Obj) : Same B w (w.alloc o) := fun k hk => Below.heap_alloc w o k (by omega)
theorem Same.setCell {p : Addr} (hp : B ≤ p.block) (u : Value) : Same B w (w.setCell p u) := fun k hk => Below.heap_setCell w p u k (by omega)
theorem Same.grown {row : Option Nat} (hg : w.grownBy w' row) (hB : B ≤ w.heap.size) (hr : ∀ k, row = some k → B ≤ k) : Same B w w' :=
  fun k hk => hg.block k (by omega) (fun e => by have := hr k e.symm; omega)
theorem below_drewN {a : World} (h : Below B a w) (n : Nat) : Below B a (w.drewN n) := ⟨h.os, h.tape, h.output, h.size, h.block⟩
theorem Quiet.below {v : Value} {e : Ending} (h : Quiet v w e w') (B : Nat) : Below B w w' := by
  obtain ⟨_, n, rfl⟩ := h; exact below_drewN (Below.refl _ _) n

/-- Block g holds just these cells, of element type t, none frozen. -/
def Row (w : World) (g : Nat) (t : TypeId) (vs : List Value) : Prop := w.heap[g]? = some (.cells vs.toArray t (0, 0))
variable {g g' : Nat} {t t' : TypeId} {vs vs' : List Value}
theorem Row.lt (h : Row w g t vs) : g < w.heap.size := by
  rcases Nat.lt_or_ge g w.heap.size with hlt | hge
  · exact hlt
  · unfold Row at h; rw [Array.getElem?_eq_none hge] at h; cases h
theorem Row.cell (h : Row w g t vs) (i : Nat) : w.cell? ⟨g, i, none⟩ = vs[i]? := by
  have := cell_of_row w g i _ t (0, 0) h; simpa using this
theorem Row.frozen (h : Row w g t vs) (i : Nat) : w.frozen? ⟨g, i, none⟩ = false := by
  unfold Row at h
  simp [World.frozen?, h]
theorem Row.new (w : World) (t : TypeId) (vs : List Value) : Row (w.alloc (.cells vs.toArray t)) w.heap.size t vs := heap_alloc_new w _
theorem Row.made (w : World) (t : TypeId) (z : Value) (n : Nat) : Row (w.alloc (.cells (madeCells #[z] n) t)) w.heap.size t (List.replicate n z) := by
  have e : (List.replicate n z).toArray = madeCells #[z] n := by rw [← toList_madeCells_one]
  unfold Row; rw [e]; exact heap_alloc_new w _
theorem Row.same (h : Row w g t vs) (hs : Same B w w') (hg : g < B) : Row w' g t vs := (hs g hg).trans h
theorem Row.drewN (h : Row w g t vs) (n : Nat) : Row (w.drewN n) g t vs := h
theorem Row.alloc (h : Row w g t vs) (o : Obj) : Row (w.alloc o) g t vs := (Below.heap_alloc w o g h.lt).trans h
theorem Row.set_ (h : Row w g t vs) (i : Nat) (u : Value) : Row (w.setCell ⟨g, i, none⟩ u) g t (vs.set i u) := by
  unfold Row at h ⊢
  simp [World.setCell, Array.getElem?_modify, h]
theorem Row.far (h : Row w g t vs) {p : Addr} (hp : g ≠ p.block) (u : Value) : Row (w.setCell p u) g t vs := (Below.heap_setCell w p u g hp).trans h
theorem Row.grown {row : Option Nat} (h : Row w g t vs) (hb : w.grownBy w' row) (hg : some g ≠ row) : Row w' g t vs := (hb.block g h.lt hg).trans h
theorem Row.below (h : Row w g t vs) (hb : Below w.heap.size w w') : Row w' g t vs := (hb.block g h.lt).trans h
theorem Row.ne_ (h : Row w g t vs) (h' : Row w g' t' vs') (hne : t ≠ t') : g ≠ g' := by
  rintro rfl
  unfold Row at h h'
  rw [h] at h'
  injection h' with h'
  injection h' with _ ht
  exact hne ht
theorem own_row_ne {base : Nat} {e : TypeId} {size n : Nat} {v : Value} {xs : List Value} (h : w.ownsRow base e size v n xs) (hg : Row w g t vs) (hne : e ≠ t) : v.ownBlock ≠ some g := by
  rcases h.2 with ⟨rfl, _⟩ | ⟨g', cap, cur, rfl, _, hh, _⟩
  · simp [Value.ownBlock]
  · intro he
    have : g' = g := by simpa [Value.ownBlock] using he
    subst this
    unfold Row at hg
    rw [hg] at hh
    injection hh with hh
    injection hh with _ ht
    exact hne ht.symm

theorem set_range {α : Type} (n i : Nat) (f : Nat → α) (v : α) : ((List.range n).map f).set i v = (List.range n).map fun j => if j = i then v else f j := by
  apply List.ext_getElem?; intro j
  rw [List.getElem?_set]
  by_cases hj : j < n
  · by_cases h : i = j
    · subst h; simp [hj]
    · simp [hj, h, Ne.symm h]
  · have h2 : ((List.range n).map fun j => if j = i then v else f j)[j]? = none := by simp; omega
    rw [h2]
    split
    · simp; omega
    · simp; omega
theorem replicate_range {α : Type} (n : Nat) (v : α) : List.replicate n v = (List.range n).map fun _ => v := by
  apply List.ext_getElem?; intro j
  by_cases hj : j < n
  · simp [hj]
  · rw [List.getElem?_eq_none (by simp; omega), List.getElem?_eq_none (by simp; omega)]

/-- Block g holds f 0, f 1, .. f (n - 1). -/
def RowF (w : World) (g : Nat) (t : TypeId) (n : Nat) (f : Nat → Value) : Prop := Row w g t ((List.range n).map f)
variable {n : Nat} {f f' : Nat → Value}
theorem RowF.get (h : RowF w g t n f) {i : Nat} (hi : i < n) : w.cell? ⟨g, i, none⟩ = some (f i) := by
  rw [Row.cell h, List.getElem?_map, List.getElem?_range hi]; rfl
theorem RowF.free (h : RowF w g t n f) (i : Nat) : w.frozen? ⟨g, i, none⟩ = false := Row.frozen h i
theorem RowF.lt (h : RowF w g t n f) : g < w.heap.size := Row.lt h
theorem RowF.store (h : RowF w g t n f) (i : Nat) (u : Value) : RowF (w.setCell ⟨g, i, none⟩ u) g t n fun j => if j = i then u else f j := by
  have := Row.set_ h i u
  rw [set_range] at this
  exact this
theorem RowF.made (w : World) (t : TypeId) (z : Value) (n : Nat) : RowF (w.alloc (.cells (madeCells #[z] n) t)) w.heap.size t n fun _ => z := by
  have := Row.made w t z n
  rw [replicate_range] at this
  exact this
theorem RowF.congr (h : RowF w g t n f) (hf : ∀ i, i < n → f i = f' i) : RowF w g t n f' := by
  unfold RowF at h ⊢
  rwa [List.map_congr_left (g := f') fun i hi => hf i (List.mem_range.1 hi)] at h

/-- From the address on lie these cells, one behind the other, in a block below B. -/
def At (w : World) (B : Nat) (A : Option Addr) (vs : List Value) : Prop :=
  ∀ i v, vs[i]? = some v → ∃ ad, A = some ad ∧ ad.block < B ∧ w.cell? (ad.add i) = some v
variable {A : Option Addr}
theorem At.nil : At w B A [] := fun i v h => by simp at h
theorem At.at_ (h : At w B A vs) {i : Nat} (hi : i < vs.length) : ∃ ad, A = some ad ∧ ad.block < B ∧ w.cell? (ad.add i) = some vs[i] :=
  h i _ (List.getElem?_eq_getElem hi)
theorem At.same (h : At w B A vs) (hs : Same B w w') : At w' B A vs := fun i v hv => by
  obtain ⟨ad, e, hb, hc⟩ := h i v hv
  exact ⟨ad, e, hb, (hs.cell (by rw [block_of_add]; exact hb)).trans hc⟩
theorem At.more (h : At w B A vs) (hB : B ≤ B') : At w B' A vs := fun i v hv => by
  obtain ⟨ad, e, hb, hc⟩ := h i v hv
  exact ⟨ad, e, by omega, hc⟩
theorem At.of_row (h : Row w g t vs) (hg : g < B) : At w B (some ⟨g, 0, none⟩) vs := fun i v hv =>
  ⟨_, rfl, hg, by rw [add_head, h.cell]; exact hv⟩
theorem At.of_own {base : Nat} {e : TypeId} {n size c : Nat} {xs : List Value} (h : w.ownsRow base e size (.slice A n c) n xs) : At w w.heap.size A xs := by
  intro i v hv
  have hn : 0 < n := by
    rcases Nat.eq_zero_or_pos n with h0 | h0
    · have := h.1; rw [h0] at this; simp at this; subst this; simp at hv
    · exact h0
  obtain ⟨g, cap, he, _, hlt⟩ := h.form hn
  have hA : A = some ⟨g, 0, none⟩ := by injection he
  subst hA
  exact ⟨_, rfl, hlt, h.cells (g := g) rfl i v hv⟩

/-- The value is a slice that reads as these cells (one a element), in blocks below B. -/
def Sl (w : World) (B : Nat) (v : Value) (vs : List Value) : Prop :=
  ∃ A c, v = .slice A vs.length c ∧ vs.length ≤ c ∧ c ≤ maxLen ∧ At w B A vs
variable {v : Value}
theorem Sl.nil : Sl w B (.slice none 0 0) [] := ⟨none, 0, rfl, by simp, by simp [maxLen], At.nil⟩
theorem Sl.same (h : Sl w B v vs) (hs : Same B w w') : Sl w' B v vs := by
  obtain ⟨A, c, e, h1, h2, h3⟩ := h; exact ⟨A, c, e, h1, h2, h3.same hs⟩
theorem Sl.more (h : Sl w B v vs) (hB : B ≤ B') : Sl w B' v vs := by
  obtain ⟨A, c, e, h1, h2, h3⟩ := h; exact ⟨A, c, e, h1, h2, h3.more hB⟩
theorem Sl.of_row (h : Row w g t vs) (hg : g < B) (hm : vs.length ≤ maxLen) : Sl w B (.slice (some ⟨g, 0, none⟩) vs.length vs.length) vs :=
  ⟨_, _, rfl, Nat.le_refl _, hm, At.of_row h hg⟩
theorem Sl.of_own {base : Nat} {e : TypeId} {n : Nat} {xs : List Value} (h : w.ownsRow base e 1 v n xs) : Sl w w.heap.size v xs := by
  have h1 := h.1
  rw [Nat.mul_one] at h1
  rcases h.2 with ⟨rfl, rfl⟩ | ⟨g, cap, cur, rfl, _, _, hc, hm, _⟩
  · have : xs = [] := List.eq_nil_of_length_eq_zero h1
    subst this; exact Sl.nil
  · exact ⟨_, cap, by rw [h1], by omega, hm, At.of_own h⟩

theorem Sl.of_rowF {n : Nat} {f : Nat → Value} (h : RowF w g t n f) (hg : g < B) (hm : n ≤ maxLen) : Sl w B (.slice (some ⟨g, 0, none⟩) n n) ((List.range n).map f) := by
  have := Sl.of_row h hg (by simpa using hm)
  simpa using this

/-- The value is a slice whose elements read as the members of the list. -/
def Els {α : Type} (R : World → Nat → Value → α → Prop) (w : World) (B : Nat) (v : Value) (xs : List α) : Prop :=
  ∃ vs : List Value, Sl w B v vs ∧ vs.length = xs.length ∧ ∀ (i : Nat) u x, vs[i]? = some u → xs[i]? = some x → R w B u x
theorem Els.same {α : Type} {R : World → Nat → Value → α → Prop} (hR : ∀ u x, R w B u x → Same B w w' → R w' B u x) {xs : List α}
    (h : Els R w B v xs) (hs : Same B w w') : Els R w' B v xs := by
  obtain ⟨vs, h1, h2, h3⟩ := h
  exact ⟨vs, h1.same hs, h2, fun i u x hu hx => hR u x (h3 i u x hu hx) hs⟩
theorem Els.more {α : Type} {R : World → Nat → Value → α → Prop} (hR : ∀ u x, R w B u x → R w B' u x) {xs : List α}
    (h : Els R w B v xs) (hB : B ≤ B') : Els R w B' v xs := by
  obtain ⟨vs, h1, h2, h3⟩ := h
  exact ⟨vs, h1.more hB, h2, fun i u x hu hx => hR u x (h3 i u x hu hx)⟩
theorem Els.parts {α : Type} {R : World → Nat → Value → α → Prop} {xs : List α} (h : Els R w B v xs) :
    ∃ A c, v = .slice A xs.length c ∧ xs.length ≤ c ∧ c ≤ maxLen ∧
      ∀ i x, xs[i]? = some x → ∃ ad u, A = some ad ∧ ad.block < B ∧ w.cell? (ad.add i) = some u ∧ R w B u x := by
  obtain ⟨vs, ⟨A, c, e, h1, h2, h3⟩, h4, h5⟩ := h
  refine ⟨A, c, by rw [← h4]; exact e, by omega, h2, fun i x hx => ?_⟩
  have hi : i < vs.length := by
    rw [h4]; exact (List.getElem?_eq_some_iff.1 hx).1
  obtain ⟨ad, ea, hb, hc⟩ := h3.at_ hi
  exact ⟨ad, _, ea, hb, hc, h5 i _ x (List.getElem?_eq_getElem hi) hx⟩

def isInt (_ : World) (_ : Nat) (v : Value) (x : Int) : Prop := v = .int .i64 x
def isBool (_ : World) (_ : Nat) (v : Value) (x : Bool) : Prop := v = .bool x
/-- Slices of int, of bool; slices of slices of int. -/
def Ints (w : World) (B : Nat) (v : Value) (xs : List Int) : Prop := Sl w B v (xs.map (.int .i64))
def Bools (w : World) (B : Nat) (v : Value) (xs : List Bool) : Prop := Sl w B v (xs.map .bool)
def Rows2 (w : World) (B : Nat) (v : Value) (g : List (List Int)) : Prop := Els Ints w B v g
def BRows2 (w : World) (B : Nat) (v : Value) (g : List (List Bool)) : Prop := Els Bools w B v g
variable {xs : List Int} {bs : List Bool} {gr : List (List Int)} {mb : List (List Bool)}
theorem Ints.same (h : Ints w B v xs) (hs : Same B w w') : Ints w' B v xs := Sl.same h hs
theorem Ints.more (h : Ints w B v xs) (hB : B ≤ B') : Ints w B' v xs := Sl.more h hB
theorem Bools.same (h : Bools w B v bs) (hs : Same B w w') : Bools w' B v bs := Sl.same h hs
theorem Bools.more (h : Bools w B v bs) (hB : B ≤ B') : Bools w B' v bs := Sl.more h hB
theorem Rows2.same (h : Rows2 w B v gr) (hs : Same B w w') : Rows2 w' B v gr := Els.same (fun _ _ h hs => h.same hs) h hs
theorem Rows2.more (h : Rows2 w B v gr) (hB : B ≤ B') : Rows2 w B' v gr := Els.more (fun _ _ h => h.more hB) h hB
theorem BRows2.same (h : BRows2 w B v mb) (hs : Same B w w') : BRows2 w' B v mb := Els.same (fun _ _ h hs => h.same hs) h hs
theorem BRows2.more (h : BRows2 w B v mb) (hB : B ≤ B') : BRows2 w B' v mb := Els.more (fun _ _ h => h.more hB) h hB
theorem Ints.parts (h : Ints w B v xs) : ∃ A c, v = .slice A xs.length c ∧ xs.length ≤ c ∧ c ≤ maxLen ∧
    ∀ i x, xs[i]? = some x → ∃ ad, A = some ad ∧ ad.block < B ∧ w.cell? (ad.add i) = some (.int .i64 x) := by
  obtain ⟨A, c, e, h1, h2, h3⟩ := h
  rw [List.length_map] at e h1
  exact ⟨A, c, e, h1, h2, fun i x hx => h3 i _ (by rw [List.getElem?_map, hx]; rfl)⟩
theorem Bools.parts (h : Bools w B v bs) : ∃ A c, v = .slice A bs.length c ∧ bs.length ≤ c ∧ c ≤ maxLen ∧
    ∀ i x, bs[i]? = some x → ∃ ad, A = some ad ∧ ad.block < B ∧ w.cell? (ad.add i) = some (.bool x) := by
  obtain ⟨A, c, e, h1, h2, h3⟩ := h
  rw [List.length_map] at e h1
  exact ⟨A, c, e, h1, h2, fun i x hx => h3 i _ (by rw [List.getElem?_map, hx]; rfl)⟩
end

section
variable {P : Program} {ops : Array Oper} {w : World}
/-- In the walk of a region's first part: an operation whose guard says no, one whose guard says yes. -/
theorem wpStill_skip {Q : Act → Prop} {a : Act} {o : Oper} {rest : List Oper} (hw : Region.wanted o (yielded ops a.tmps) = false)
    (h : wpStill P ops w Q rest (a.put o.dst undef)) : wpStill P ops w Q (o :: rest) a := by
  simp only [wpStill, hw]; exact h
theorem wpStill_want {Q : Act → Prop} {a : Act} {o : Oper} {rest : List Oper} (hw : Region.wanted o (yielded ops a.tmps) = true)
    (h : ∀ K : Act → Prop, (∀ a, wpStill P ops w Q rest a → K a) → o.still P a w K) : wpStill P ops w Q (o :: rest) a := by
  simp only [wpStill, hw]; exact h _ (fun _ h => h)
end

theorem hide {p : Prop} (h : p) : Hid p := h
theorem unhide {p : Prop} (h : Hid p) : p := h
theorem grownBy_setCell (w : World) (g i : Nat) (u : Value) : w.grownBy (w.setCell ⟨g, i, none⟩ u) (some g) :=
  ⟨rfl, rfl, rfl, by simp [World.setCell], fun k _ hne => Below.heap_setCell w _ u k (fun e => hne (by rw [e]))⟩

theorem ofNat_of {a : Int} (h : 0 ≤ a) : ∃ k : Nat, a = k := ⟨a.toNat, by omega⟩
theorem maxLen_le {n : Nat} (h : n ≤ maxLen) : n ≤ 9223372036854775807 := by unfold maxLen at h; exact h
end Go.Proofs.YtmmbbndoimleaaaGreatDoor

/- Data as plain data, and memory that reads as data. -/
namespace Go.Proofs.YtmmbbndoimleaaaGreatDoor
open Go.RowKit

theorem drew2 (w : World) (m n : Nat) : ∃ k, (w.drewN m).drewN n = w.drewN k := ⟨_, World.drewN_drewN _ _ _⟩
theorem below_al {w wr : World} (h : Below w.heap.size w wr) (o : Obj) : Below w.heap.size w (wr.alloc o) := h.alloc h.size o

/-- Data: kind, number, string, items, members. -/
abbrev Dt := DataW Unit
def mkM (m : ByteArray × Dt) : Dt := .agg [.lit (.string m.1.data.toList), m.2]
def mkD (k n : Int) (s : ByteArray) (is : List Dt) (ms : List (ByteArray × Dt)) : Dt :=
  .agg [.lit (.int .i64 k), .lit (.int .i64 n), .lit (.string s.data.toList), .slice is [], .slice (ms.map mkM) []]
def memD : Dt → ByteArray × Dt
  | .agg [.lit (.string s), d] => (⟨s.toArray⟩, d)
  | d => (ByteArray.empty, d)
def kD : Dt → Int
  | .agg (.lit (.int _ k) :: _) => k
  | _ => 0
def nD : Dt → Int
  | .agg (_ :: .lit (.int _ n) :: _) => n
  | _ => 0
def sD : Dt → ByteArray
  | .agg (_ :: _ :: .lit (.string s) :: _) => ⟨s.toArray⟩
  | _ => ByteArray.empty
def iD : Dt → List Dt
  | .agg (_ :: _ :: _ :: .slice l _ :: _) => l
  | _ => []
def mD : Dt → List (ByteArray × Dt)
  | .agg (_ :: _ :: _ :: _ :: .slice l _ :: _) => l.map memD
  | _ => []
section
variable (k n : Int) (s : ByteArray) (is : List Dt) (ms : List (ByteArray × Dt))
@[simp] theorem kD_mk : kD (mkD k n s is ms) = k := rfl
@[simp] theorem nD_mk : nD (mkD k n s is ms) = n := rfl
@[simp] theorem sD_mk : sD (mkD k n s is ms) = s := rfl
@[simp] theorem iD_mk : iD (mkD k n s is ms) = is := rfl
theorem memD_mk (m : ByteArray × Dt) : memD (mkM m) = m := rfl
@[simp] theorem mD_mk : mD (mkD k n s is ms) = ms := by
  show (ms.map mkM).map memD = ms
  rw [List.map_map]
  have : memD ∘ mkM = id := funext fun m => rfl
  rw [this, List.map_id]
end
/-- All parts of data: the items, then the data of the members. -/
def kids (d : Dt) : List Dt := iD d ++ (mD d).map Prod.snd
theorem is_kid {d x : Dt} (h : x ∈ iD d) : x ∈ kids d := List.mem_append.2 (.inl h)
theorem ms_kid {d : Dt} {x : ByteArray × Dt} (h : x ∈ mD d) : x.2 ∈ kids d := List.mem_append.2 (.inr (List.mem_map.2 ⟨x, h, rfl⟩))

/-- The five cells of data. -/
def datCs (d : Dt) (A : Option Addr) (c : Nat) (A' : Option Addr) (c' : Nat) : List Value :=
  [.int .i64 (kD d), .int .i64 (nD d), .string (sD d), .slice A (iD d).length c, .slice A' (mD d).length c']
def datV (d : Dt) (A : Option Addr) (c : Nat) (A' : Option Addr) (c' : Nat) : Value := .agg (datCs d A c A' c').toArray
/-- From the address on lie the five cells of data. -/
def Five (w : World) (p : Addr) (d : Dt) (A : Option Addr) (c : Nat) (A' : Option Addr) (c' : Nat) : Prop :=
  w.cell? p = some (.int .i64 (kD d)) ∧ w.cell? ⟨p.block, p.off + 1, none⟩ = some (.int .i64 (nD d)) ∧ w.cell? ⟨p.block, p.off + 2, none⟩ = some (.string (sD d)) ∧
  w.cell? ⟨p.block, p.off + 3, none⟩ = some (.slice A (iD d).length c) ∧ w.cell? ⟨p.block, p.off + 4, none⟩ = some (.slice A' (mD d).length c')
/-- What the slices of data read as. -/
abbrev Reads := Dt → Option Addr → Nat → Option Addr → Nat → Prop
/-- From the address on lie these data, five cells each. -/
def DatsAt (R : Reads) (w : World) (B : Nat) (A : Option Addr) (l : List Dt) : Prop :=
  ∀ i x, l[i]? = some x → ∃ ad, A = some ad ∧ ad.block < B ∧ ∃ a c a' c', Five w (ad.add (i * 5)) x a c a' c' ∧ R x a c a' c'
/-- From the address on lie these members, six cells each. -/
def MemsAt (R : Reads) (w : World) (B : Nat) (A : Option Addr) (l : List (ByteArray × Dt)) : Prop :=
  ∀ i x, l[i]? = some x → ∃ ad, A = some ad ∧ ad.block < B ∧ w.cell? (ad.add (i * 6)) = some (.string x.1) ∧
    ∃ a c a' c', Five w ⟨(ad.add (i * 6)).block, (ad.add (i * 6)).off + 1, none⟩ x.2 a c a' c' ∧ R x.2 a c a' c'
def Lens (d : Dt) (c c' : Nat) : Prop := (iD d).length ≤ c ∧ c ≤ maxLen ∧ (mD d).length ≤ c' ∧ c' ≤ maxLen
def Parts (w : World) (B : Nat) : Nat → Reads
  | 0, _, _, _, _, _ => False
  | m + 1, d, A, c, A', c' => Lens d c c' ∧ DatsAt (Parts w B m) w B A (iD d) ∧ MemsAt (Parts w B m) w B A' (mD d)
/-- The value is data of at most m levels. -/
def DatR (w : World) (B m : Nat) (v : Value) (d : Dt) : Prop := ∃ A c A' c', v = datV d A c A' c' ∧ Parts w B m d A c A' c'
/-- The value is a slice of data. -/
def DatsR (R : Reads) (w : World) (B : Nat) (v : Value) (l : List Dt) : Prop := ∃ A c, v = .slice A l.length c ∧ l.length ≤ c ∧ c ≤ maxLen ∧ DatsAt R w B A l
abbrev Dats (w : World) (B m : Nat) (v : Value) (l : List Dt) : Prop := DatsR (Parts w B m) w B v l
/-- The value is a slice of members. -/
def MemsR (R : Reads) (w : World) (B : Nat) (v : Value) (l : List (ByteArray × Dt)) : Prop := ∃ A c, v = .slice A l.length c ∧ l.length ≤ c ∧ c ≤ maxLen ∧ MemsAt R w B A l
abbrev Mems (w : World) (B m : Nat) (v : Value) (l : List (ByteArray × Dt)) : Prop := MemsR (Parts w B m) w B v l

section
variable {w w' : World} {B B' : Nat} {A A' : Option Addr} {c c' : Nat} {p : Addr}
theorem Five.same {d : Dt} (h : Five w p d A c A' c') (hp : p.block < B) (hs : Same B w w') : Five w' p d A c A' c' := by
  obtain ⟨h0, h1, h2, h3, h4⟩ := h
  exact ⟨(hs.cell hp).trans h0, (hs.cell (p := ⟨_, _, none⟩) hp).trans h1, (hs.cell (p := ⟨_, _, none⟩) hp).trans h2, (hs.cell (p := ⟨_, _, none⟩) hp).trans h3, (hs.cell (p := ⟨_, _, none⟩) hp).trans h4⟩
theorem DatsAt.turn {R R' : Reads} {l : List Dt} (h : DatsAt R w B A l) (hs : Same B w w') (hB : B ≤ B') (hR : ∀ x a c a' c', R x a c a' c' → R' x a c a' c') : DatsAt R' w' B' A l := fun i x hx => by
  obtain ⟨ad, e, hb, a, b, a', b', hf, hp⟩ := h i x hx
  exact ⟨ad, e, by omega, a, b, a', b', hf.same (by rw [block_of_add]; exact hb) hs, hR _ _ _ _ _ hp⟩
theorem MemsAt.turn {R R' : Reads} {l : List (ByteArray × Dt)} (h : MemsAt R w B A l) (hs : Same B w w') (hB : B ≤ B') (hR : ∀ x a c a' c', R x a c a' c' → R' x a c a' c') : MemsAt R' w' B' A l := fun i x hx => by
  obtain ⟨ad, e, hb, hl, a, b, a', b', hf, hp⟩ := h i x hx
  have hb' : (ad.add (i * 6)).block < B := by rw [block_of_add]; exact hb
  exact ⟨ad, e, by omega, (hs.cell hb').trans hl, a, b, a', b', hf.same hb' hs, hR _ _ _ _ _ hp⟩
theorem Parts.turn (hs : Same B w w') (hB : B ≤ B') : ∀ {m : Nat} {d : Dt} {A c A' c'}, Parts w B m d A c A' c' → Parts w' B' m d A c A' c'
  | 0, _, _, _, _, _, h => h
  | _ + 1, _, _, _, _, _, ⟨h1, h2, h3⟩ => ⟨h1, h2.turn hs hB fun _ _ _ _ _ => Parts.turn hs hB, h3.turn hs hB fun _ _ _ _ _ => Parts.turn hs hB⟩
theorem Parts.up : ∀ {m : Nat} {d : Dt} {A c A' c'}, Parts w B m d A c A' c' → Parts w B (m + 1) d A c A' c'
  | 0, _, _, _, _, _, h => h.elim
  | _ + 1, _, _, _, _, _, ⟨h1, h2, h3⟩ => ⟨h1, h2.turn Same.refl (Nat.le_refl _) fun _ _ _ _ _ => Parts.up, h3.turn Same.refl (Nat.le_refl _) fun _ _ _ _ _ => Parts.up⟩
theorem Parts.le {m m' : Nat} (hm : m ≤ m') {d : Dt} {A c A' c'} (h : Parts w B m d A c A' c') : Parts w B m' d A c A' c' := by
  induction hm with
  | refl => exact h
  | step _ ih => exact ih.up
variable {m m' : Nat} {v : Value} {d : Dt}
theorem DatR.turn (h : DatR w B m v d) (hs : Same B w w') (hB : B ≤ B') : DatR w' B' m v d := by
  obtain ⟨A, c, A', c', e, h⟩ := h; exact ⟨A, c, A', c', e, h.turn hs hB⟩
theorem DatR.below (h : DatR w w.heap.size m v d) (hs : Below w.heap.size w w') : DatR w' w'.heap.size m v d := h.turn (Same.of_below hs) hs.size
theorem DatsR.turn {R R' : Reads} {l : List Dt} (h : DatsR R w B v l) (hs : Same B w w') (hB : B ≤ B') (hR : ∀ x a c a' c', R x a c a' c' → R' x a c a' c') : DatsR R' w' B' v l := by
  obtain ⟨A, c, e, h1, h2, h⟩ := h; exact ⟨A, c, e, h1, h2, h.turn hs hB hR⟩
theorem MemsR.turn {R R' : Reads} {l : List (ByteArray × Dt)} (h : MemsR R w B v l) (hs : Same B w w') (hB : B ≤ B') (hR : ∀ x a c a' c', R x a c a' c' → R' x a c a' c') : MemsR R' w' B' v l := by
  obtain ⟨A, c, e, h1, h2, h⟩ := h; exact ⟨A, c, e, h1, h2, h.turn hs hB hR⟩
theorem Dats.turn {l : List Dt} (h : Dats w B m v l) (hs : Same B w w') (hB : B ≤ B') : Dats w' B' m v l := by
  obtain ⟨A, c, e, h1, h2, h⟩ := h; exact ⟨A, c, e, h1, h2, h.turn hs hB fun _ _ _ _ _ => Parts.turn hs hB⟩
theorem Mems.turn {l : List (ByteArray × Dt)} (h : Mems w B m v l) (hs : Same B w w') (hB : B ≤ B') : Mems w' B' m v l := by
  obtain ⟨A, c, e, h1, h2, h⟩ := h; exact ⟨A, c, e, h1, h2, h.turn hs hB fun _ _ _ _ _ => Parts.turn hs hB⟩
theorem Parts.lens (h : Parts w B m d A c A' c') : Lens d c c' := by
  cases m with
  | zero => exact h.elim
  | succ m => exact h.1
end
theorem drop_at {α : Type} {l : List α} {k : Nat} (h : k < l.length) : l.drop k = l[k] :: l.drop (k + 1) := List.drop_eq_getElem_cons h
end Go.Proofs.YtmmbbndoimleaaaGreatDoor

/- Rows of data and of members: their cells as one list. -/
namespace Go.Proofs.YtmmbbndoimleaaaGreatDoor
open Go.RowKit

theorem add_plus (ad : Addr) (i k : Nat) (hk : 0 < k) : ad.add (i + k) = ⟨(ad.add i).block, (ad.add i).off + k, none⟩ := by
  unfold Addr.add
  by_cases hi : i = 0
  · subst hi; rw [if_neg (by omega), if_pos rfl, Nat.zero_add]
  · rw [if_neg (by omega), if_neg hi]; simp [Nat.add_assoc]

/-- The cells of data, five each. -/
def FlatD (R : Reads) : List Value → List Dt → Prop
  | xs, [] => xs = []
  | xs, d :: l => ∃ a c a' c' ys, xs = datCs d a c a' c' ++ ys ∧ R d a c a' c' ∧ FlatD R ys l
/-- The cells of members, six each. -/
def FlatM (R : Reads) : List Value → List (ByteArray × Dt) → Prop
  | xs, [] => xs = []
  | xs, m :: l => ∃ a c a' c' ys, xs = .string m.1 :: datCs m.2 a c a' c' ++ ys ∧ R m.2 a c a' c' ∧ FlatM R ys l
section
variable {R R' : Reads}
theorem FlatD.length : ∀ {xs : List Value} {l : List Dt}, FlatD R xs l → xs.length = l.length * 5
  | _, [], h => by have h : _ = [] := h; rw [h]; rfl
  | _, d :: l, ⟨a, c, a', c', ys, e, _, h⟩ => by rw [e, List.length_append, h.length]; simp [datCs]; omega
theorem FlatM.length : ∀ {xs : List Value} {l : List (ByteArray × Dt)}, FlatM R xs l → xs.length = l.length * 6
  | _, [], h => by have h : _ = [] := h; rw [h]; rfl
  | _, d :: l, ⟨a, c, a', c', ys, e, _, h⟩ => by rw [e, List.length_append, h.length]; simp [datCs]; omega
theorem FlatD.append : ∀ {xs ys : List Value} {l k : List Dt}, FlatD R xs l → FlatD R ys k → FlatD R (xs ++ ys) (l ++ k)
  | _, _, [], _, h, h' => by have h : _ = [] := h; rw [h]; exact h'
  | _, _, d :: l, _, ⟨a, c, a', c', zs, e, hR, h⟩, h' => ⟨a, c, a', c', zs ++ _, by rw [e, List.append_assoc], hR, h.append h'⟩
theorem FlatM.append : ∀ {xs ys : List Value} {l k : List (ByteArray × Dt)}, FlatM R xs l → FlatM R ys k → FlatM R (xs ++ ys) (l ++ k)
  | _, _, [], _, h, h' => by have h : _ = [] := h; rw [h]; exact h'
  | _, _, d :: l, _, ⟨a, c, a', c', zs, e, hR, h⟩, h' => ⟨a, c, a', c', zs ++ _, by rw [e, List.append_assoc], hR, h.append h'⟩
theorem FlatD.turn (hR : ∀ x a c a' c', R x a c a' c' → R' x a c a' c') : ∀ {xs : List Value} {l : List Dt}, FlatD R xs l → FlatD R' xs l
  | _, [], h => h
  | _, _ :: _, ⟨a, c, a', c', ys, e, h1, h⟩ => ⟨a, c, a', c', ys, e, hR _ _ _ _ _ h1, h.turn hR⟩
theorem FlatM.turn (hR : ∀ x a c a' c', R x a c a' c' → R' x a c a' c') : ∀ {xs : List Value} {l : List (ByteArray × Dt)}, FlatM R xs l → FlatM R' xs l
  | _, [], h => h
  | _, _ :: _, ⟨a, c, a', c', ys, e, h1, h⟩ => ⟨a, c, a', c', ys, e, hR _ _ _ _ _ h1, h.turn hR⟩
theorem FlatD.one {d : Dt} {a c a' c'} (h : R d a c a' c') : FlatD R (datCs d a c a' c') [d] := ⟨a, c, a', c', [], by simp, h, rfl⟩
theorem FlatM.one {m : ByteArray × Dt} {a c a' c'} (h : R m.2 a c a' c') : FlatM R (.string m.1 :: datCs m.2 a c a' c') [m] := ⟨a, c, a', c', [], by simp, h, rfl⟩
theorem datCs_one {d : Dt} {a c a' c'} : ∀ u ∈ datCs d a c a' c', u.oneCell' = true := fun u hu => by
  simp [datCs] at hu
  rcases hu with rfl | rfl | rfl | rfl | rfl <;> rfl
theorem FlatD.oneCell : ∀ {xs : List Value} {l : List Dt}, FlatD R xs l → ∀ u ∈ xs, u.oneCell' = true
  | _, [], h, u, hu => by have h : _ = [] := h; rw [h] at hu; cases hu
  | _, _ :: _, ⟨a, c, a', c', ys, e, _, h⟩, u, hu => by
    rw [e] at hu
    rcases List.mem_append.1 hu with hu | hu
    · exact datCs_one u hu
    · exact h.oneCell u hu
theorem FlatM.oneCell : ∀ {xs : List Value} {l : List (ByteArray × Dt)}, FlatM R xs l → ∀ u ∈ xs, u.oneCell' = true
  | _, [], h, u, hu => by have h : _ = [] := h; rw [h] at hu; cases hu
  | _, _ :: _, ⟨a, c, a', c', ys, e, _, h⟩, u, hu => by
    rw [e] at hu
    rcases List.mem_append.1 hu with hu | hu
    · rcases List.mem_cons.1 hu with rfl | hu
      · rfl
      · exact datCs_one u hu
    · exact h.oneCell u hu
theorem FlatD.get : ∀ {xs : List Value} {l : List Dt} (i : Nat) (x : Dt), FlatD R xs l → l[i]? = some x → ∃ a c a' c', R x a c a' c' ∧ ∀ k, k < 5 → xs[i * 5 + k]? = (datCs x a c a' c')[k]?
  | _, [], i, x, _, hx => by simp at hx
  | _, d :: l, 0, x, ⟨a, c, a', c', ys, e, hR, h⟩, hx => by
    simp at hx; subst hx
    refine ⟨a, c, a', c', hR, fun k hk => ?_⟩
    rw [e, Nat.zero_mul, Nat.zero_add, List.getElem?_append_left (by simp [datCs]; omega)]
  | _, d :: l, i + 1, x, ⟨a, c, a', c', ys, e, hR, h⟩, hx => by
    obtain ⟨b, q, b', q', h1, h2⟩ := h.get i x (by simpa using hx)
    refine ⟨b, q, b', q', h1, fun k hk => ?_⟩
    rw [← h2 k hk, e, List.getElem?_append_right (by simp [datCs]; omega)]
    congr 1; simp [datCs]; omega
theorem FlatM.get : ∀ {xs : List Value} {l : List (ByteArray × Dt)} (i : Nat) (x : ByteArray × Dt), FlatM R xs l → l[i]? = some x → ∃ a c a' c', R x.2 a c a' c' ∧ ∀ k, k < 6 → xs[i * 6 + k]? = (Value.string x.1 :: datCs x.2 a c a' c')[k]?
  | _, [], i, x, _, hx => by simp at hx
  | _, d :: l, 0, x, ⟨a, c, a', c', ys, e, hR, h⟩, hx => by
    simp at hx; subst hx
    refine ⟨a, c, a', c', hR, fun k hk => ?_⟩
    rw [e, Nat.zero_mul, Nat.zero_add, List.getElem?_append_left (by simp [datCs]; omega)]
  | _, d :: l, i + 1, x, ⟨a, c, a', c', ys, e, hR, h⟩, hx => by
    obtain ⟨b, q, b', q', h1, h2⟩ := h.get i x (by simpa using hx)
    refine ⟨b, q, b', q', h1, fun k hk => ?_⟩
    rw [← h2 k hk, e, List.getElem?_append_right (by simp [datCs]; omega)]
    congr 1; simp [datCs]; omega

variable {w : World} {B : Nat}
theorem five_of {p : Addr} {d : Dt} {a c a' c'} (f : Nat → Addr) (h0 : f 0 = p) (h1 : ∀ k, 0 < k → f k = ⟨p.block, p.off + k, none⟩) (h : ∀ k, k < 5 → ∀ u, (datCs d a c a' c')[k]? = some u → w.cell? (f k) = some u) : Five w p d a c a' c' := by
  refine ⟨?_, ?_, ?_, ?_, ?_⟩
  · rw [← h0]; exact h 0 (by omega) _ rfl
  · rw [← h1 1 (by omega)]; exact h 1 (by omega) _ rfl
  · rw [← h1 2 (by omega)]; exact h 2 (by omega) _ rfl
  · rw [← h1 3 (by omega)]; exact h 3 (by omega) _ rfl
  · rw [← h1 4 (by omega)]; exact h 4 (by omega) _ rfl
theorem of_five {p : Addr} {d : Dt} {a c a' c'} (f : Nat → Addr) (h0 : f 0 = p) (h1 : ∀ k, 0 < k → f k = ⟨p.block, p.off + k, none⟩) (h : Five w p d a c a' c') : ∀ k u, (datCs d a c a' c')[k]? = some u → w.cell? (f k) = some u := fun k u hu => by
  obtain ⟨g0, g1, g2, g3, g4⟩ := h
  match k, hu with
  | 0, hu => simp [datCs] at hu; subst hu; rw [h0]; exact g0
  | 1, hu => simp [datCs] at hu; subst hu; rw [h1 1 (by omega)]; exact g1
  | 2, hu => simp [datCs] at hu; subst hu; rw [h1 2 (by omega)]; exact g2
  | 3, hu => simp [datCs] at hu; subst hu; rw [h1 3 (by omega)]; exact g3
  | 4, hu => simp [datCs] at hu; subst hu; rw [h1 4 (by omega)]; exact g4
  | k + 5, hu => simp [datCs] at hu

/-- Where a row's cells lie in memory, it reads as data. -/
theorem DatsAt.of_flat {xs : List Value} {l : List Dt} {ad : Addr} (h : FlatD R xs l) (hb : ad.block < B) (hc : ∀ j u, xs[j]? = some u → w.cell? (ad.add j) = some u) : DatsAt R w B (some ad) l := fun i x hx => by
  obtain ⟨a, c, a', c', hR, hk⟩ := h.get i x hx
  exact ⟨ad, rfl, hb, a, c, a', c', five_of (fun k => ad.add (i * 5 + k)) rfl (fun k hk => add_plus ad _ k hk) fun k h5 u hu => hc _ _ (by rw [hk k h5]; exact hu), hR⟩
theorem MemsAt.of_flat {xs : List Value} {l : List (ByteArray × Dt)} {ad : Addr} (h : FlatM R xs l) (hb : ad.block < B) (hc : ∀ j u, xs[j]? = some u → w.cell? (ad.add j) = some u) : MemsAt R w B (some ad) l := fun i x hx => by
  obtain ⟨a, c, a', c', hR, hk⟩ := h.get i x hx
  refine ⟨ad, rfl, hb, hc _ _ (hk 0 (by omega)), a, c, a', c', five_of (fun k => ad.add (i * 6 + (1 + k))) (add_plus ad _ 1 (by omega)) (fun k hk => ?_) fun k h5 u hu => hc _ _ (by rw [hk (1 + k) (by omega), Nat.add_comm 1 k]; exact hu), hR⟩
  rw [add_plus ad _ (1 + k) (by omega), Nat.add_assoc]
/-- The cells of data that lie in memory. -/
theorem flat_of_dats {ad : Addr} : ∀ {l : List Dt} (o : Nat), (∀ i x, l[i]? = some x → ∃ a c a' c', Five w (ad.add ((o + i) * 5)) x a c a' c' ∧ R x a c a' c') → ∃ xs, FlatD R xs l ∧ ∀ j u, xs[j]? = some u → w.cell? (ad.add (o * 5 + j)) = some u
  | [], _, _ => ⟨[], rfl, fun j u hu => by simp at hu⟩
  | d :: l, o, h => by
    obtain ⟨a, c, a', c', hf, hR⟩ := h 0 d rfl
    obtain ⟨ys, h1, h2⟩ := flat_of_dats (o + 1) (l := l) fun i x hx => by
      have := h (i + 1) x (by simpa using hx)
      rwa [show o + (i + 1) = o + 1 + i by omega] at this
    refine ⟨_, ⟨a, c, a', c', ys, rfl, hR, h1⟩, fun j u hu => ?_⟩
    by_cases hj : j < 5
    · rw [List.getElem?_append_left (by simp [datCs]; omega)] at hu
      exact of_five (fun k => ad.add (o * 5 + k)) rfl (fun k hk => add_plus ad _ k hk) hf j u hu
    · rw [List.getElem?_append_right (by simp [datCs]; omega)] at hu
      have := h2 _ _ hu
      have e : (o + 1) * 5 + (j - (datCs d a c a' c').length) = o * 5 + j := by simp [datCs]; omega
      rwa [e] at this
theorem flat_of_mems {ad : Addr} : ∀ {l : List (ByteArray × Dt)} (o : Nat), (∀ i x, l[i]? = some x → w.cell? (ad.add ((o + i) * 6)) = some (.string x.1) ∧ ∃ a c a' c', Five w ⟨(ad.add ((o + i) * 6)).block, (ad.add ((o + i) * 6)).off + 1, none⟩ x.2 a c a' c' ∧ R x.2 a c a' c') →
    ∃ xs, FlatM R xs l ∧ ∀ j u, xs[j]? = some u → w.cell? (ad.add (o * 6 + j)) = some u
  | [], _, _ => ⟨[], rfl, fun j u hu => by simp at hu⟩
  | d :: l, o, h => by
    obtain ⟨hlab, a, c, a', c', hf, hR⟩ := h 0 d rfl
    obtain ⟨ys, h1, h2⟩ := flat_of_mems (o + 1) (l := l) fun i x hx => by
      have := h (i + 1) x (by simpa using hx)
      rwa [show o + (i + 1) = o + 1 + i by omega] at this
    refine ⟨_, ⟨a, c, a', c', ys, rfl, hR, h1⟩, fun j u hu => ?_⟩
    by_cases hj : j < 6
    · rw [List.getElem?_append_left (by simp [datCs]; omega)] at hu
      match j, hu with
      | 0, hu => simp at hu; subst hu; exact hlab
      | j + 1, hu =>
        have := of_five (fun k => ad.add (o * 6 + (1 + k))) (add_plus ad _ 1 (by omega)) (fun k hk => by rw [add_plus ad _ (1 + k) (by omega)]; simp [Nat.add_assoc]) hf j u (by simpa using hu)
        rwa [Nat.add_comm 1 j] at this
    · rw [List.getElem?_append_right (by simp [datCs]; omega)] at hu
      have := h2 _ _ hu
      have e : (o + 1) * 6 + (j - (Value.string d.1 :: datCs d.2 a c a' c').length) = o * 6 + j := by simp [datCs]; omega
      rwa [e] at this
end

/-- A row of data, or of members, that the call has made. -/
def OwnD (R : Reads) (w : World) (base : Nat) (u : Value) (l : List Dt) : Prop := ∃ xs, w.ownsRow base 25 5 u l.length xs ∧ FlatD R xs l
def OwnM (R : Reads) (w : World) (base : Nat) (u : Value) (l : List (ByteArray × Dt)) : Prop := ∃ xs, w.ownsRow base 57 6 u l.length xs ∧ FlatM R xs l
theorem OwnD.dats {R : Reads} {w : World} {base : Nat} {v : Value} {l : List Dt} (h0 : OwnD R w base v l) : DatsR R w w.heap.size v l := by
  obtain ⟨xs, h, hf⟩ := h0
  rcases h.2 with ⟨hv, hn⟩ | ⟨g, cap, cur, rfl, _, hh, hc, hm, _⟩
  · have : l = [] := List.eq_nil_of_length_eq_zero hn
    subst this; subst hv; exact ⟨none, 0, rfl, by simp, by simp [maxLen], fun i x hx => by simp at hx⟩
  · refine ⟨_, cap, rfl, by omega, hm, DatsAt.of_flat hf ?_ fun j u hu => ?_⟩
    · exact (h.lt g rfl).2
    · rw [add_head, h.cellAt _ (by have := (List.getElem?_eq_some_iff.1 hu).1; rw [hf.length] at this; omega)]
      exact hu
theorem OwnM.mems {R : Reads} {w : World} {base : Nat} {v : Value} {l : List (ByteArray × Dt)} (h0 : OwnM R w base v l) : MemsR R w w.heap.size v l := by
  obtain ⟨xs, h, hf⟩ := h0
  rcases h.2 with ⟨hv, hn⟩ | ⟨g, cap, cur, rfl, _, hh, hc, hm, _⟩
  · have : l = [] := List.eq_nil_of_length_eq_zero hn
    subst this; subst hv; exact ⟨none, 0, rfl, by simp, by simp [maxLen], fun i x hx => by simp at hx⟩
  · refine ⟨_, cap, rfl, by omega, hm, MemsAt.of_flat hf ?_ fun j u hu => ?_⟩
    · exact (h.lt g rfl).2
    · rw [add_head, h.cellAt _ (by have := (List.getElem?_eq_some_iff.1 hu).1; rw [hf.length] at this; omega)]
      exact hu
theorem OwnD.turn {R R' : Reads} {w : World} {base : Nat} {v : Value} {l : List Dt} (h : OwnD R w base v l) (hR : ∀ x a c a' c', R x a c a' c' → R' x a c a' c') : OwnD R' w base v l := by
  obtain ⟨xs, h1, h2⟩ := h; exact ⟨xs, h1, h2.turn hR⟩
theorem OwnM.turn {R R' : Reads} {w : World} {base : Nat} {v : Value} {l : List (ByteArray × Dt)} (h : OwnM R w base v l) (hR : ∀ x a c a' c', R x a c a' c' → R' x a c a' c') : OwnM R' w base v l := by
  obtain ⟨xs, h1, h2⟩ := h; exact ⟨xs, h1, h2.turn hR⟩
/-- The cells of a slice of data. -/
theorem DatsR.flat {R : Reads} {w : World} {B n c : Nat} {A : Option Addr} {l : List Dt} (h : DatsR R w B (.slice A n c) l) : n = l.length ∧ n ≤ c ∧ c ≤ maxLen ∧ (A = none → n = 0) ∧ ∃ xs, FlatD R xs l ∧ xs.length = n * 5 ∧ ∀ ad, A = some ad → ∀ j u, xs[j]? = some u → ad.block < B ∧ w.cell? (ad.add j) = some u := by
  obtain ⟨A', c', e, h1, h2, h3⟩ := h
  obtain ⟨e1, e2, e3⟩ := Value.slice.inj e
  subst e1; subst e2; subst e3
  refine ⟨rfl, h1, h2, ?_⟩
  cases A with
  | none =>
    have : l = [] := by
      cases l with
      | nil => rfl
      | cons d l => obtain ⟨ad, e, _⟩ := h3 0 d rfl; cases e
    subst this
    exact ⟨fun _ => rfl, [], rfl, rfl, fun ad e => by cases e⟩
  | some ad =>
    obtain ⟨xs, hx, hc⟩ := flat_of_dats (R := R) (w := w) (ad := ad) (l := l) 0 fun i x hx => by
      obtain ⟨ad', e, _, a, b, a', b', hf, hR⟩ := h3 i x hx
      injection e with e; subst e
      rw [Nat.zero_add]
      exact ⟨a, b, a', b', hf, hR⟩
    refine ⟨fun e => (by cases e), xs, hx, hx.length, fun ad' e j u hu => ?_⟩
    injection e with e; subst e
    have hj := (List.getElem?_eq_some_iff.1 hu).1
    have hxl := hx.length
    obtain ⟨ad', e, hb, _⟩ := h3 0 (l[0]'(by omega)) (List.getElem?_eq_getElem _)
    injection e with e; subst e
    have := hc j u hu
    rw [Nat.zero_mul, Nat.zero_add] at this
    exact ⟨hb, this⟩
theorem MemsR.flat {R : Reads} {w : World} {B n c : Nat} {A : Option Addr} {l : List (ByteArray × Dt)} (h : MemsR R w B (.slice A n c) l) : n = l.length ∧ n ≤ c ∧ c ≤ maxLen ∧ (A = none → n = 0) ∧ ∃ xs, FlatM R xs l ∧ xs.length = n * 6 ∧ ∀ ad, A = some ad → ∀ j u, xs[j]? = some u → ad.block < B ∧ w.cell? (ad.add j) = some u := by
  obtain ⟨A', c', e, h1, h2, h3⟩ := h
  obtain ⟨e1, e2, e3⟩ := Value.slice.inj e
  subst e1; subst e2; subst e3
  refine ⟨rfl, h1, h2, ?_⟩
  cases A with
  | none =>
    have : l = [] := by
      cases l with
      | nil => rfl
      | cons d l => obtain ⟨ad, e, _⟩ := h3 0 d rfl; cases e
    subst this
    exact ⟨fun _ => rfl, [], rfl, rfl, fun ad e => by cases e⟩
  | some ad =>
    obtain ⟨xs, hx, hc⟩ := flat_of_mems (R := R) (w := w) (ad := ad) (l := l) 0 fun i x hx => by
      obtain ⟨ad', e, _, hl, a, b, a', b', hf, hR⟩ := h3 i x hx
      injection e with e; subst e
      rw [Nat.zero_add]
      exact ⟨hl, a, b, a', b', hf, hR⟩
    refine ⟨fun e => (by cases e), xs, hx, hx.length, fun ad' e j u hu => ?_⟩
    injection e with e; subst e
    have hj := (List.getElem?_eq_some_iff.1 hu).1
    have hxl := hx.length
    obtain ⟨ad', e, hb, _⟩ := h3 0 (l[0]'(by omega)) (List.getElem?_eq_getElem _)
    injection e with e; subst e
    have := hc j u hu
    rw [Nat.zero_mul, Nat.zero_add] at this
    exact ⟨hb, this⟩
end Go.Proofs.YtmmbbndoimleaaaGreatDoor

/- append of whatever slice onto an own row. -/
namespace Go.Proofs.YtmmbbndoimleaaaGreatDoor
open Go.RowKit

theorem own_mono {w : World} {base base' : Nat} {e : TypeId} {size : Nat} {v : Value} {n : Nat} {xs : List Value} (h : w.ownsRow base e size v n xs) (hb : base' ≤ base) : w.ownsRow base' e size v n xs := by
  refine ⟨h.1, ?_⟩
  rcases h.2 with h2 | ⟨g, cap, cur, h1, h2, h3⟩
  · exact .inl h2
  · exact .inr ⟨g, cap, cur, h1, by omega, h3⟩
theorem grown_of_below {w w' : World} {B : Nat} (h : Below B w w') (hB : w.heap.size ≤ B) : w.grownBy w' none := ⟨h.os, h.tape, h.output, h.size, fun k hk _ => h.block k (by omega)⟩

section
variable {P : Program} (w : World)
theorem wp_append_all {o : Oper} {a : Act} {K : Act → World → Prop} {Q : Exit → Act → World → Prop} (s x : Operand) (t : TypeId)
    (ho : o.op = .call { callee := .builtin .append, args := #[s, x], argTypes := #[t, t] })
    (base : Nat) (e : TypeId) (i : TypeInfo) (z : Value) (size bytes : Nat) (ht : P.underlying t = some (.slice e)) (hi : P.info? e = some i) (hz : i.zero = some z)
    (hsize : i.size = size) (hby : i.bytes = bytes) (hzs : z.cells.size = size) (hsz : 0 < size)
    (v : Value) (n : Nat) (xs : List Value) (hs : a.eval s = v) (hown : w.ownsRow base e size v n xs)
    (S : Option Addr) (m c : Nat) (news : List Value) (hx : a.eval x = .slice S m c) (hS : S = none → m = 0 ∧ c = 0) (hl : news.length = m * size) (hnews : ∀ ad, S = some ad → ∀ j u, news[j]? = some u → w.cell? (ad.add j) = some u) (h1 : ∀ u ∈ news, u.oneCell' = true)
    (h63 : n + m ≤ maxLen) (hbytes : (n + m) * bytes ≤ 140737488355328) (hbase : base ≤ w.heap.size)
    (h : ∀ v' w', Hid (w'.ownsRow base e size v' (n + m) (xs ++ news)) → Hid (w.grownBy w' v.ownBlock) → K (a.put o.dst v') w') : o.wp P a w K Q := by
  cases S with
  | none =>
    obtain ⟨rfl, rfl⟩ := hS rfl
    have hnl : news = [] := List.eq_nil_of_length_eq_zero (by simpa using hl)
    subst hnl
    have hr := run_append_owned_none (P := P) (w := w) base t o.type e i size ht hi v n xs hown
    unfold Oper.wp execOp
    simp only [ho, resolve, invoke, builtin, Sem.run_bind, Sem.run_pure, Result.andThen_ok, List.map_toArray, List.map_cons, List.map_nil, hs, hx, hr]
    exact h v w (hide (by simpa using hown)) (hide ⟨rfl, rfl, rfl, Nat.le_refl _, fun _ _ _ => rfl⟩)
  | some ad =>
    obtain ⟨v', w', hr, h2, h3, _⟩ := run_append_own_at (P := P) w base t o.type e i z size bytes ht hi hz hsize hby hzs hsz v n xs hown ad m c news hl (hnews ad rfl) h1 h63 hbytes hbase
    unfold Oper.wp execOp
    simp only [ho, resolve, invoke, builtin, Sem.run_bind, Sem.run_pure, Result.andThen_ok, List.map_toArray, List.map_cons, List.map_nil, hs, hx, hr]
    exact h v' w' (hide h2) (hide h3)

theorem wpList_append_all {ops : Array Oper} {rest : List Oper} {o : Oper} {a : Act} {Q : Exit → Act → World → Prop} (hgd : o.guard = none) (s x : Operand) (t : TypeId)
    (ho : o.op = .call { callee := .builtin .append, args := #[s, x], argTypes := #[t, t] })
    (base : Nat) (e : TypeId) (i : TypeInfo) (z : Value) (size bytes : Nat) (ht : P.underlying t = some (.slice e)) (hi : P.info? e = some i) (hz : i.zero = some z)
    (hsize : i.size = size) (hby : i.bytes = bytes) (hzs : z.cells.size = size) (hsz : 0 < size)
    (v : Value) (n : Nat) (xs : List Value) (hs : a.eval s = v) (hown : w.ownsRow base e size v n xs)
    (S : Option Addr) (m c : Nat) (news : List Value) (hx : a.eval x = .slice S m c) (hS : S = none → m = 0 ∧ c = 0) (hl : news.length = m * size) (hnews : ∀ ad, S = some ad → ∀ j u, news[j]? = some u → w.cell? (ad.add j) = some u) (h1 : ∀ u ∈ news, u.oneCell' = true)
    (h63 : n + m ≤ maxLen) (hbytes : (n + m) * bytes ≤ 140737488355328) (hbase : base ≤ w.heap.size)
    (h : ∀ v' w', Hid (w'.ownsRow base e size v' (n + m) (xs ++ news)) → Hid (w.grownBy w' v.ownBlock) → wpList P ops Q rest (a.put o.dst v') w') : wpList P ops Q (o :: rest) a w :=
  wpList_plain hgd fun _ hK => wp_append_all w s x t ho base e i z size bytes ht hi hz hsize hby hzs hsz v n xs hs hown S m c news hx hS hl hnews h1 h63 hbytes hbase fun v' w' h2 h3 => hK _ _ (h v' w' h2 h3)

theorem step_append_all {ops : Array Oper} {o : Oper} {a : Act} {K : Act → World → Prop} {Q : Exit → Act → World → Prop} {E : Prop} (hgd : o.guard = none) (s x : Operand) (t : TypeId)
    (ho : o.op = .call { callee := .builtin .append, args := #[s, x], argTypes := #[t, t] })
    (base : Nat) (e : TypeId) (i : TypeInfo) (z : Value) (size bytes : Nat) (ht : P.underlying t = some (.slice e)) (hi : P.info? e = some i) (hz : i.zero = some z)
    (hsize : i.size = size) (hby : i.bytes = bytes) (hzs : z.cells.size = size) (hsz : 0 < size)
    (v : Value) (n : Nat) (xs : List Value) (hs : a.eval s = v) (hown : w.ownsRow base e size v n xs)
    (S : Option Addr) (m c : Nat) (news : List Value) (hx : a.eval x = .slice S m c) (hS : S = none → m = 0 ∧ c = 0) (hl : news.length = m * size) (hnews : ∀ ad, S = some ad → ∀ j u, news[j]? = some u → w.cell? (ad.add j) = some u) (h1 : ∀ u ∈ news, u.oneCell' = true)
    (h63 : n + m ≤ maxLen) (hbytes : (n + m) * bytes ≤ 140737488355328) (hbase : base ≤ w.heap.size)
    (h : ∀ v' w', Hid (w'.ownsRow base e size v' (n + m) (xs ++ news)) → Hid (w.grownBy w' v.ownBlock) → K (a.put o.dst v') w') :
    if Region.wanted o (yielded ops a.tmps) = true then Oper.wp P o a w K Q else E := by
  have hw : Region.wanted o (yielded ops a.tmps) = true := by simp [Region.wanted, hgd]
  rw [if_pos hw]
  exact wp_append_all w s x t ho base e i z size bytes ht hi hz hsize hby hzs hsz v n xs hs hown S m c news hx hS hl hnews h1 h63 hbytes hbase h
end


theorem step_append_rows {P : Program} (w : World) {ops : Array Oper} {o : Oper} {a : Act} {K : Act → World → Prop} {Q : Exit → Act → World → Prop} {E : Prop} (hgd : o.guard = none) (s x : Operand) (t : TypeId)
    (ho : o.op = .call { callee := .builtin .append, args := #[s, x], argTypes := #[t, t] })
    (base : Nat) (e : TypeId) (i : TypeInfo) (z : Value) (size bytes : Nat) (ht : P.underlying t = some (.slice e)) (hi : P.info? e = some i) (hz : i.zero = some z)
    (hsize : i.size = size) (hby : i.bytes = bytes) (hzs : z.cells.size = size) (hsz : 0 < size)
    (v : Value) (n : Nat) (xs : List Value) (hs : a.eval s = v) (hown : w.ownsRow base e size v n xs)
    (v2 : Value) (m base2 : Nat) (ys : List Value) (hx : a.eval x = v2) (hown2 : w.ownsRow base2 e size v2 m ys) (h1 : ∀ u ∈ ys, u.oneCell' = true)
    (h63 : n + m ≤ maxLen) (hbytes : (n + m) * bytes ≤ 140737488355328) (hbase : base ≤ w.heap.size)
    (h : ∀ v' w', Hid (w'.ownsRow base e size v' (n + m) (xs ++ ys)) → Hid (w.grownBy w' v.ownBlock) → K (a.put o.dst v') w') :
    if Region.wanted o (yielded ops a.tmps) = true then Oper.wp P o a w K Q else E := by
  rcases hown2.2 with ⟨rfl, rfl⟩ | ⟨g, cap, cur, rfl, _⟩
  · exact step_append_all w hgd s x t ho base e i z size bytes ht hi hz hsize hby hzs hsz v n xs hs hown none 0 0 ys hx (fun _ => ⟨rfl, rfl⟩) hown2.1 (fun ad e => by cases e) h1 h63 hbytes hbase h
  · exact step_append_all w hgd s x t ho base e i z size bytes ht hi hz hsize hby hzs hsz v n xs hs hown _ m cap ys hx (fun e => by cases e) hown2.1 (fun ad e => by injection e with e; subst e; exact hown2.cells rfl) h1 h63 hbytes hbase h

end Go.Proofs.YtmmbbndoimleaaaGreatDoor

/- only, own, Valid, plain: a part of data alone. -/
namespace Go.Proofs.YtmmbbndoimleaaaGreatDoor
open Go.RowKit

/-- The kind is known and only its fields are set. -/
def plainQ (k n : Int) (s : ByteArray) (x y : Nat) : Bool :=
  (decide (1 ≤ k) && decide (k ≤ 6)) && (k == 2 || k == 3 || n == 0) && (k == 4 || s.toList == []) && (k == 5 || (x : Int) == 0) && (k == 6 || (y : Int) == 0)
def plainB (d : Dt) : Bool := plainQ (kD d) (nD d) (sD d) (iD d).length (mD d).length

/-- Data is laid into a new block. -/
theorem boxD (w : World) (k n : Int) (s : ByteArray) (a a' : Value) : ∃ w1 g, w.alloc (Obj.cells #[.int .i64 k, .int .i64 n, .string s, a, a'] 25) = w1 ∧ w.heap.size = g ∧ Below w.heap.size w w1 ∧
    w1.cell? ⟨g, 0, none⟩ = some (.int .i64 k) ∧ w1.cell? ⟨g, 1, none⟩ = some (.int .i64 n) ∧ w1.cell? ⟨g, 2, none⟩ = some (.string s) ∧
    w1.cell? ⟨g, 3, none⟩ = some a ∧ w1.cell? ⟨g, 4, none⟩ = some a' ∧ Row w1 g 25 [.int .i64 k, .int .i64 n, .string s, a, a'] := by
  have hR : Row (w.alloc (Obj.cells #[.int .i64 k, .int .i64 n, .string s, a, a'] 25)) w.heap.size 25 [.int .i64 k, .int .i64 n, .string s, a, a'] := Row.new w _ _
  exact ⟨_, _, rfl, rfl, (Below.refl _ _).alloc (Nat.le_refl _) _, hR.cell 0, hR.cell 1, hR.cell 2, hR.cell 3, hR.cell 4, hR⟩

set_option maxHeartbeats 1000000 in
theorem only_run (d : Dt) (A : Option Addr) (c : Nat) (A' : Option Addr) (c' : Nat) (w : World) (hl : Lens d c c') :
    Calls Tryz.prog 92 #[datV d A c A' c'] w fun e w' => e = .returned (.bool (plainB d)) ∧ Below w.heap.size w w' := by
  obtain ⟨h1, h2, h3, h4⟩ := hl
  have hm := maxLen_le h2; have hm' := maxLen_le h4
  unfold datV datCs
  obtain ⟨b, hb⟩ : ∃ b, b = plainB d := ⟨_, rfl⟩
  rw [← hb]
  unfold plainB at hb
  obtain ⟨k, hk⟩ : ∃ k, k = kD d := ⟨_, rfl⟩
  obtain ⟨n, hn⟩ : ∃ k, k = nD d := ⟨_, rfl⟩
  obtain ⟨s, hs⟩ : ∃ k, k = sD d := ⟨_, rfl⟩
  obtain ⟨x, hx⟩ : ∃ k, k = (iD d).length := ⟨_, rfl⟩
  obtain ⟨y, hy⟩ : ∃ k, k = (mD d).length := ⟨_, rfl⟩
  rw [← hk, ← hn, ← hs, ← hx, ← hy] at hb
  rw [← hk, ← hn, ← hs, ← hx, ← hy]
  rw [← hx] at h1
  rw [← hy] at h3
  have HB := Lib.hid hb
  clear hk hn hs hx hy hb h2 h4
  go_enter Tryz.func92, Tryz.ntmps92
  go_wp2_with fail
  obtain ⟨w1, g, e1, e2, hBL, c0, c1, c2, c3, c4, _⟩ := boxD w k n s (.slice A x c) (.slice A' y c')
  rw [e1, e2]
  have HBL := hide hBL
  clear e1 e2 hBL
  go_quiet (fail)
  go_wp2_with fail
  all_goals
    go_ret
    refine ⟨ret_bool ?_, below_drewN HBL.out _⟩
    have hb := HB.out
    clear HB HBL c0 c1 c2 c3 c4
    rw [hb]
    unfold plainQ
    clear hb
    try simp_all
    try (intros; omega)
end Go.Proofs.YtmmbbndoimleaaaGreatDoor

/- plain and Valid: a part of data alone, as the reference sees it. -/
namespace Go.Proofs.YtmmbbndoimleaaaGreatDoor
open Go.RowKit

set_option maxHeartbeats 1000000 in
theorem plain_run (d : Dt) (A : Option Addr) (c : Nat) (A' : Option Addr) (c' : Nat) (w : World) (hl : Lens d c c') :
    Calls Tryz.prog 55 #[datV d A c A' c'] w fun e w' => e = .returned (.bool (plainB d)) ∧ Below w.heap.size w w' := by
  obtain ⟨h1, h2, h3, h4⟩ := hl
  have hm := maxLen_le h2; have hm' := maxLen_le h4
  unfold datV datCs
  obtain ⟨b, hb⟩ : ∃ b, b = plainB d := ⟨_, rfl⟩
  rw [← hb]
  unfold plainB at hb
  obtain ⟨k, hk⟩ : ∃ k, k = kD d := ⟨_, rfl⟩
  obtain ⟨n, hn⟩ : ∃ k, k = nD d := ⟨_, rfl⟩
  obtain ⟨s, hs⟩ : ∃ k, k = sD d := ⟨_, rfl⟩
  obtain ⟨x, hx⟩ : ∃ k, k = (iD d).length := ⟨_, rfl⟩
  obtain ⟨y, hy⟩ : ∃ k, k = (mD d).length := ⟨_, rfl⟩
  rw [← hk, ← hn, ← hs, ← hx, ← hy] at hb
  rw [← hk, ← hn, ← hs, ← hx, ← hy]
  rw [← hx] at h1
  rw [← hy] at h3
  have HB := Lib.hid hb
  clear hk hn hs hx hy hb h2 h4
  go_enter Tryz.func55, Tryz.ntmps55
  go_upto_region 1 with fail
  obtain ⟨w1, g, e1, e2, hBL, c0, c1, c2, c3, c4, _⟩ := boxD w k n s (.slice A x c) (.slice A' y c')
  rw [e1, e2]
  have HBL := hide hBL
  clear e1 e2 hBL
  go_wp2_with fail
  all_goals
    go_ret
    refine ⟨ret_bool ?_, HBL.out⟩
    have hb := HB.out
    clear HB HBL c0 c1 c2 c3 c4
    rw [hb]
    unfold plainQ
    clear hb
    try simp_all
    try (intros; omega)
end Go.Proofs.YtmmbbndoimleaaaGreatDoor

/- Valid and own: a part of data alone. -/
namespace Go.Proofs.YtmmbbndoimleaaaGreatDoor
open Go.RowKit

def validB (u : Int) : Bool := decide (-1000000000000000 ≤ u) && decide (u ≤ 1000000000000000)

theorem valid_run (u : Int) (w : World) : Calls Tryz.prog 66 #[.int .i64 u] w fun e w' => e = .returned (.bool (validB u)) ∧ w' = w := by
  go_enter Tryz.func66, Tryz.ntmps66
  go_wp2_with fail
  all_goals
    go_ret
    refine ⟨ret_bool ?_, rfl⟩
    unfold validB
    simp_all
    try (intros; omega)
theorem refValid_run (u : Int) (w : World) : Calls Tryz.prog 56 #[.int .i64 u] w fun e w' => e = .returned (.bool (validB u)) ∧ w' = w := by
  go_enter Tryz.func56, Tryz.ntmps56
  go_wp2_with fail
  all_goals
    go_ret
    refine ⟨ret_bool ?_, rfl⟩
    unfold validB
    simp_all
    try (intros; omega)

theorem row5 {w : World} {g : Nat} {t : TypeId} {a b c d e : Value} (h : Row w g t [a, b, c, d, e]) :
    w.cell? ⟨g, 0, none⟩ = some a ∧ w.cell? ⟨g, 1, none⟩ = some b ∧ w.cell? ⟨g, 2, none⟩ = some c ∧ w.cell? ⟨g, 3, none⟩ = some d ∧ w.cell? ⟨g, 4, none⟩ = some e :=
  ⟨h.cell 0, h.cell 1, h.cell 2, h.cell 3, h.cell 4⟩

/-- The labels ascend. -/
def ltB (a b : ByteArray) : Bool := Op.bytesLess a.toList b.toList
def ascL : ByteArray → List (ByteArray × Dt) → Bool
  | _, [] => true
  | p, x :: l => if ltB p x.1 = true then ascL x.1 l else false
def ascB : List (ByteArray × Dt) → Bool
  | [] => true
  | x :: l => ascL x.1 l
theorem asc_start {l : List (ByteArray × Dt)} (h : 0 < l.length) : ascB l = ascL l[0].1 (l.drop 1) := by
  cases l with
  | nil => cases h
  | cons a l => rfl
def rangeB (d : Dt) : Bool := (kD d == 2 && nD d != 0 && nD d != 1) || (kD d == 3 && !validB (nD d))
/-- The first error of a part alone. -/
def ownD (d : Dt) : Int := if plainB d = false then 11 else if rangeB d = true then 1 else if ascB (mD d) = false then 6 else 0

set_option maxHeartbeats 1000000 in
theorem own_run (d : Dt) (A : Option Addr) (c : Nat) (A' : Option Addr) (c' : Nat) (w : World) (R : Reads) (hl : Lens d c c') (hM : MemsAt R w w.heap.size A' (mD d)) :
    Calls Tryz.prog 75 #[datV d A c A' c'] w fun e w' => e = .returned (.int .i64 (ownD d)) ∧ Below w.heap.size w w' := by
  have HO := hide fun w => only_run d A c A' c' w hl
  obtain ⟨h1, h2, h3, h4⟩ := hl
  have hm := maxLen_le h2; have hm' := maxLen_le h4
  have HM := Lib.hid hM
  unfold datV datCs at HO
  unfold datV datCs
  obtain ⟨r, hr⟩ : ∃ b, b = ownD d := ⟨_, rfl⟩
  rw [← hr]
  unfold ownD rangeB at hr
  obtain ⟨b, hb⟩ : ∃ b, b = plainB d := ⟨_, rfl⟩
  obtain ⟨k, hk⟩ : ∃ k, k = kD d := ⟨_, rfl⟩
  obtain ⟨n, hn⟩ : ∃ k, k = nD d := ⟨_, rfl⟩
  obtain ⟨s, hs⟩ : ∃ k, k = sD d := ⟨_, rfl⟩
  obtain ⟨x, hx⟩ : ∃ k, k = (iD d).length := ⟨_, rfl⟩
  obtain ⟨y, hy⟩ : ∃ k, k = (mD d).length := ⟨_, rfl⟩
  rw [← hk, ← hn, ← hb] at hr
  rw [← hk, ← hn, ← hs, ← hx, ← hy, ← hb] at HO
  rw [← hk, ← hn, ← hs, ← hx, ← hy]
  rw [← hx] at h1
  rw [← hy] at h3
  obtain ⟨v, hv⟩ : ∃ b, b = validB n := ⟨_, rfl⟩
  have HV := hide fun w => valid_run n w
  rw [← hv] at hr HV
  have HR := Lib.hid hr; have HY := Lib.hid hy
  clear hk hn hs hx hy hb hv h2 h4 hr hM
  go_enter Tryz.func75, Tryz.ntmps75
  go_upto_region 1 with fail
  obtain ⟨w1, g, e1, e2, hBL, c0, c1, c2, c3, c4, hROW⟩ := boxD w k n s (.slice A x c) (.slice A' y c')
  rw [e1, e2]
  have HBL := hide hBL; have HROW := hide hROW
  clear e1 e2 hBL hROW
  go_wp2_with fail
  refine (HO.out _).mono ?_; rintro e w2 ⟨rfl, hB2⟩
  obtain ⟨c0', c1', c2', c3', c4'⟩ := row5 (HROW.out.below hB2)
  have HB2 := hide (HBL.out.trans (hB2.mono HBL.out.size))
  clear c0 c1 c2 c3 c4 HO hB2 HROW
  cases b with
  | false =>
    go_wp2_with fail
    go_ret
    exact ⟨ret_int (by rw [HR.out]; simp), HB2.out⟩
  | true =>
    obtain ⟨q, hq⟩ : ∃ q, q = ((k == 2 && n != 0 && n != 1) || (k == 3 && !v)) := ⟨_, rfl⟩
    have hr2 := HR.out
    rw [← hq] at hr2
    have HR2 := Lib.hid hr2; have HQ := Lib.hid hq
    clear HR hr2 hq
    go_upto_region 3 with fail
    go_cut [8] from 9 to 32 (fun a wc => a = .bool q ∧ wc = w2)
    case first =>
      cases v with
      | true =>
        go_wp2_with (first | (go_at_call 66; refine (HV.out _).mono ?_; rintro e w3 ⟨rfl, rfl⟩) | fail)
        all_goals
          subst_vars
          go_meet
          case rel =>
            refine ⟨?_, rfl⟩
            simp_all
      | false =>
        go_wp2_with (first | (go_at_call 66; refine (HV.out _).mono ?_; rintro e w3 ⟨rfl, rfl⟩) | fail)
        all_goals
          subst_vars
          go_meet
          case rel =>
            refine ⟨?_, rfl⟩
            simp_all
    case rest =>
      obtain ⟨rfl, rfl⟩ := hcut
      obtain ⟨w2, rfl⟩ : ∃ we, we = wc := ⟨_, rfl⟩
      cases q with
      | true =>
        go_wp2_with fail
        go_ret
        exact ⟨ret_int (by rw [HR2.out]; simp), HB2.out⟩
      | false =>
        have hr3 : r = if ascB (mD d) = false then 6 else 0 := by rw [HR2.out]; simp
        have HR3 := Lib.hid hr3
        clear HR2 hr3 HQ HV
        go_wp2_with fail
        go_loopw [3] (fun iv wr => ∃ i m : Nat, iv = .int .i64 i ∧ wr = w2.drewN m ∧ 1 ≤ i ∧ (i ≤ y ∨ i = 1) ∧ Hid (∀ h : i - 1 < (mD d).length, ascB (mD d) = ascL ((mD d)[i - 1]).1 ((mD d).drop i))) (fun iv _ => y + 1 - (intOf iv).toNat)
        case atStart => exact ⟨1, 0, rfl, rfl, by omega, .inr rfl, hide fun h => asc_start h⟩
        case round =>
          obtain ⟨i, m, rfl, rfl, h1i, hiy, hI⟩ := hrel
          by_cases hlt : i < y
          · have hlt' : i < (mD d).length := by rw [← HY.out]; exact hlt
            obtain ⟨j, hj⟩ : ∃ j, i = j + 1 := ⟨i - 1, by omega⟩
            have hjl : j < (mD d).length := by omega
            have hjy : j < y := by omega
            obtain ⟨ad, rfl, hb, hc, hF1⟩ := HM.out i _ (List.getElem?_eq_getElem hlt')
            obtain ⟨ad', e', hb', hc', hF2⟩ := HM.out j _ (List.getElem?_eq_getElem hjl)
            obtain rfl : ad = ad' := Option.some.inj e'
            have hq := hI.out (by omega)
            have hij : (mD d)[i - 1]'(by omega) = (mD d)[j] := by congr 1; omega
            rw [hij, drop_at hlt', ascL] at hq
            obtain ⟨La, hLa⟩ : ∃ l, l = ((mD d)[j]).1 := ⟨_, rfl⟩
            obtain ⟨Lb, hLb⟩ : ∃ l, l = ((mD d)[i]).1 := ⟨_, rfl⟩
            have HLB := Lib.hid hLb
            rw [← hLb] at hc hq
            rw [← hLa] at hc' hq
            have hca := (HB2.out.cell (p := ad.add (j * 6)) (by rw [block_of_add]; exact hb)).trans hc'
            have hcb := (HB2.out.cell (p := ad.add (i * 6)) (by rw [block_of_add]; exact hb)).trans hc
            have wj : IntKind.i64.wrap ((i : Int) - 1) = (j : Int) := by rw [IntWalk.i64_in _ (by omega)]; omega
            unfold ltB at hq
            have HQQ := Lib.hid hq
            clear hLa hLb hij hq hc hc' hb' e' hI hj hF1 hF2 hjl
            cases hlab : Op.bytesLess La.toList Lb.toList with
            | false =>
              have hz : r = 6 := by rw [HR3.out, HQQ.out, hlab]; simp
              have HZ := Lib.hid hz
              clear hz
              go_wp2_with fail
              go_quiet (fail)
              go_wp2_with fail
              go_ret
              exact ⟨ret_int HZ.out.symm, by first | exact below_drewN (below_drewN HB2.out _) _ | exact below_drewN HB2.out _⟩
            | true =>
              have HZ := hide (show ascB (mD d) = ascL Lb ((mD d).drop (i + 1)) by rw [HQQ.out, hlab]; simp)
              go_wp2_with fail
              go_quiet (fail)
              go_wp2_with fail
              go_roundw
              case rel => exact ⟨i + 1, _, by go_num, by first | exact (drew2 _ _ _).choose_spec | rfl, by omega, .inl hlt, hide fun h => by rw [HZ.out, HLB.out]; rfl⟩
              case measure => simp [intOf]; omega
          · have hz : r = 0 := by
              rw [HR3.out]
              have : ascB (mD d) = true := by
                rcases Nat.eq_zero_or_pos y with h | h
                · have : mD d = [] := List.eq_nil_of_length_eq_zero (by rw [← HY.out]; exact h)
                  rw [this]; rfl
                · have hY := HY.out
                  have hq := hI.out (by omega)
                  rw [hq, List.drop_eq_nil_of_le (by omega)]; rfl
              rw [this]; simp
            have HZ := Lib.hid hz
            clear hz
            go_wp2_with fail
            go_ret
            exact ⟨ret_int HZ.out.symm, below_drewN HB2.out _⟩
end Go.Proofs.YtmmbbndoimleaaaGreatDoor

/- slices.Clone of data, and children. -/
namespace Go.Proofs.YtmmbbndoimleaaaGreatDoor
open Go.RowKit

theorem infoD : (Tryz.prog.info? 25).map (fun i => (i.zero, i.size, i.bytes)) = some (some (.agg #[.int .i64 0, .int .i64 0, .string ⟨#[]⟩, .slice none 0 0, .slice none 0 0]), 5, 80) := by kernel_rfl

set_option maxRecDepth 20000 in
theorem cloneD_run (v : Value) (l : List Dt) (R : Reads) (w : World) (h : DatsR R w w.heap.size v l) (hn : l.length ≤ 1000000000) :
    Calls Tryz.prog 93 #[v] w fun e w' => ∃ u, e = .returned u ∧ Below w.heap.size w w' ∧ OwnD R w' w.heap.size u l := by
  obtain ⟨A, n, c, rfl⟩ : ∃ A n c, v = .slice A n c := by obtain ⟨A, c, e, _⟩ := h; exact ⟨A, _, c, e⟩
  obtain ⟨hnl, hc1, hc2, hA, xs, hx, hxl, hxc⟩ := h.flat
  have hm := maxLen_le hc2
  obtain ⟨i0, hi0, hz0, hz1, hz2⟩ := info_parts infoD
  cases A with
  | none =>
    obtain rfl : n = 0 := hA rfl
    have hl : l = [] := List.eq_nil_of_length_eq_zero hnl.symm
    subst hl
    clear h hA hnl hx hxl hxc hn
    have hnil := run_eql_slice_nil (P := Tryz.prog) w 22 25 none 0 c Tryz.underlying22
    go_enter Tryz.func93, Tryz.ntmps93
    go_wp2
    go_ret
    exact ⟨_, rfl, Below.refl _ _, [], World.ownsRow_nil _ _ _ _, rfl⟩
  | some ad =>
    have hnil := run_eql_slice_nil (P := Tryz.prog) w 22 25 (some ad) n c Tryz.underlying22
    have HC : Hid (∀ j u, xs[j]? = some u → (w.alloc (.cells #[] 25)).cell? (ad.add j) = some u) := hide fun j u hu => by
      obtain ⟨hb, hc⟩ := hxc ad rfl j u hu
      rw [World.cell?_alloc_lt _ _ _ (by rw [block_of_add]; exact hb)]
      exact hc
    have HX := hide hx
    have HL := Lib.hid hnl
    rw [← hnl] at hn
    clear hxc h hnl hx
    go_enter Tryz.func93, Tryz.ntmps93
    go_wp2_with (at_builtin; refine wpList_append_all _ rfl (.tmp 5) (.tmp 6) _ rfl w.heap.size 25 i0 _ 5 80 Tryz.underlying22 hi0 hz0 hz1 hz2 rfl (by omega) _ 0 _ rfl (World.ownsRow_made w #[] 0 (Nat.le_refl _) (by simp [maxLen]) rfl) (some ad) n c xs rfl (by intro h; cases h) hxl (by intro ad' h; injection h with h; subst h; exact HC.out) HX.out.oneCell (by unfold maxLen; omega) (by omega) (by simp) ?_)
    intro v' w' h1 h2
    go_wp2_with fail
    go_ret
    have hB := Below.grown (below_al (Below.refl w.heap.size w) (.cells #[] 25)) h2.out (by simp) (fun k e => by simp [Value.ownBlock] at e; omega)
    exact ⟨_, rfl, hB, xs, by have := h1.out; rw [← HL.out]; simpa using this, HX.out⟩
end Go.Proofs.YtmmbbndoimleaaaGreatDoor

/- children. -/
namespace Go.Proofs.YtmmbbndoimleaaaGreatDoor
open Go.RowKit

theorem six_of {w : World} {p : Addr} {x : ByteArray × Dt} {a c a' c'} (hl : w.cell? p = some (.string x.1)) (h : Five w ⟨p.block, p.off + 1, none⟩ x.2 a c a' c') :
    w.cell? p = some (.string x.1) ∧ w.cell? ⟨p.block, p.off + 1, none⟩ = some (.int .i64 (kD x.2)) ∧ w.cell? ⟨p.block, p.off + 2, none⟩ = some (.int .i64 (nD x.2)) ∧ w.cell? ⟨p.block, p.off + 3, none⟩ = some (.string (sD x.2)) ∧
    w.cell? ⟨p.block, p.off + 4, none⟩ = some (.slice a (iD x.2).length c) ∧ w.cell? ⟨p.block, p.off + 5, none⟩ = some (.slice a' (mD x.2).length c') :=
  ⟨hl, h.1, h.2.1, h.2.2.1, h.2.2.2.1, h.2.2.2.2⟩
def ChPost (w : World) (m : Nat) (l : List Dt) (e : Ending) (w' : World) : Prop := ∃ u, e = .returned u ∧ Below w.heap.size w w' ∧ Dats w' w'.heap.size m u l

set_option maxRecDepth 20000 in
set_option maxHeartbeats 1000000 in
theorem children_run (d : Dt) (A : Option Addr) (c : Nat) (A' : Option Addr) (c' m : Nat) (w : World) (hp : Parts w w.heap.size (m + 1) d A c A' c') (hn : (iD d).length + (mD d).length ≤ 1000000000) :
    Calls Tryz.prog 76 #[datV d A c A' c'] w (ChPost w m (kids d)) := by
  obtain ⟨⟨h1, h2, h3, h4⟩, hI, hM⟩ := hp
  have hm := maxLen_le h2; have hm' := maxLen_le h4
  have HCL := hide fun w' (hB : Below w.heap.size w w') => cloneD_run (.slice A (iD d).length c) (iD d) (Parts w w.heap.size m) w' ⟨A, c, rfl, h1, h2, hI.turn (Same.of_below hB) hB.size fun _ _ _ _ _ h => h⟩ (by omega)
  have HM := Lib.hid hM
  obtain ⟨i0, hi0, hz0, hz1, hz2⟩ := info_parts infoD
  unfold datV datCs
  obtain ⟨L, hL⟩ : ∃ l, l = kids d := ⟨_, rfl⟩
  rw [← hL]
  unfold kids at hL
  obtain ⟨k, hk⟩ : ∃ k, k = kD d := ⟨_, rfl⟩
  obtain ⟨n, hn'⟩ : ∃ k, k = nD d := ⟨_, rfl⟩
  obtain ⟨s, hs⟩ : ∃ k, k = sD d := ⟨_, rfl⟩
  obtain ⟨xs, hxs⟩ : ∃ k, k = iD d := ⟨_, rfl⟩
  obtain ⟨ys, hys⟩ : ∃ k, k = mD d := ⟨_, rfl⟩
  rw [← hxs] at HCL hn h1
  rw [← hys] at HM hn h3
  rw [← hxs, ← hys] at hL
  rw [← hk, ← hn', ← hs, ← hxs, ← hys]
  obtain ⟨x, hx⟩ : ∃ k, k = xs.length := ⟨_, rfl⟩
  obtain ⟨y, hy⟩ : ∃ k, k = ys.length := ⟨_, rfl⟩
  rw [← hx] at HCL hn h1
  rw [← hy] at hn h3
  rw [← hx, ← hy]
  have HL := Lib.hid hL; have HX := Lib.hid hx; have HY := Lib.hid hy
  clear hk hn' hs hxs hys hx hy h2 h4 hL hM hI
  go_enter Tryz.func76, Tryz.ntmps76
  go_upto_region 1 with fail
  obtain ⟨w1, g, e1, e2, hBL, c0, c1, c2, c3, c4, hROW⟩ := boxD w k n s (.slice A x c) (.slice A' y c')
  rw [e1, e2]
  have HBL := hide hBL; have HROW := hide hROW
  clear e1 e2 hBL
  go_wp2_with fail
  refine (HCL.out _ HBL.out).mono ?_; rintro e w2 ⟨u, rfl, hB2, hO2⟩
  obtain ⟨c0', c1', c2', c3', c4'⟩ := row5 (hROW.below hB2)
  have HB2 := hide (HBL.out.trans (hB2.mono HBL.out.size))
  obtain ⟨xs2, ho2, hf2⟩ := hO2
  have HO2 : Hid (OwnD (Parts w w.heap.size m) w2 w.heap.size u (xs ++ (ys.take 0).map Prod.snd)) := hide ⟨xs2, by rw [List.take_zero, List.map_nil, List.append_nil]; exact own_mono ho2 HBL.out.size, by simpa using hf2⟩
  clear c0 c1 c2 c3 c4 hB2 HROW HBL ho2 hf2 hROW HCL
  go_wp2_with fail
  go_loopw [3, 5, 12] (fun ov _ iv wr => ∃ i : Nat, iv = .int .i64 i ∧ i ≤ y ∧ Hid (Below w.heap.size w wr) ∧ Hid (OwnD (Parts w w.heap.size m) wr w.heap.size ov (xs ++ (ys.take i).map Prod.snd))) (fun _ _ iv _ => y - (intOf iv).toNat)
  case atStart => exact ⟨0, rfl, Nat.zero_le _, HB2, HO2⟩
  case round =>
    clear HB2 HO2
    obtain ⟨i, rfl, hi, hB, hO⟩ := hrel
    by_cases hlt : i < y
    · have hlt' : i < ys.length := by rw [← HY.out]; exact hlt
      obtain ⟨ad, rfl, hb, hlab, a, q, a', q', hfive, hpts⟩ := HM.out i _ (List.getElem?_eq_getElem hlt')
      obtain ⟨M, hMM⟩ : ∃ M, M = ys[i] := ⟨_, rfl⟩
      rw [← hMM] at hlab hfive hpts
      have hbb : (ad.add (i * 6)).block < w.heap.size := by rw [block_of_add]; exact hb
      have HSIX := hide (six_of ((hB.out.cell (p := ad.add (i * 6)) hbb).trans hlab) (hfive.same (p := ⟨_, _, none⟩) hbb (Same.of_below hB.out)))
      obtain ⟨s0, s1, s2, s3, s4, s5⟩ := HSIX.out
      have HPT := hide hpts
      have HMM := hide (show (ys.take (i + 1)).map Prod.snd = (ys.take i).map Prod.snd ++ [M.2] by rw [List.take_add_one, List.getElem?_eq_getElem hlt', List.map_append, hMM]; rfl)
      clear hlab hfive hpts hMM hlt' hb hbb HSIX
      obtain ⟨xs0, ho0, hf0⟩ := hO.out
      have hlen : (xs ++ (ys.take i).map Prod.snd).length = x + i := by rw [List.length_append, List.length_map, List.length_take, ← HX.out, ← HY.out]; omega
      rw [hlen] at ho0
      have HO0 := hide ho0; have HF0 := hide hf0
      clear ho0 hf0 hO hlen
      go_upto_region 5 with fail
      obtain ⟨wa, hwa⟩ : ∃ wa, wa = wr.alloc (Obj.cells #[Value.string M.1, Value.int IntKind.i64 (kD M.2), Value.int IntKind.i64 (nD M.2), Value.string (sD M.2), Value.slice a (iD M.2).length q, Value.slice a' (mD M.2).length q'] 57) := ⟨_, rfl⟩
      obtain ⟨b, hbb⟩ : ∃ b, b = wr.heap.size := ⟨_, rfl⟩
      have hR : Row wa b 57 [Value.string M.1, Value.int IntKind.i64 (kD M.2), Value.int IntKind.i64 (nD M.2), Value.string (sD M.2), Value.slice a (iD M.2).length q, Value.slice a' (mD M.2).length q'] := by rw [hwa, hbb]; exact Row.new wr _ _
      have HBA := hide (show Below w.heap.size w wa by rw [hwa]; exact below_al hB.out _)
      have HOA := hide (show wa.ownsRow w.heap.size 25 5 u3 (x + i) xs0 by rw [hwa]; exact HO0.out.alloc _)
      rw [← hwa, ← hbb]
      have d1 : wa.cell? ⟨b, 1, none⟩ = some (Value.int IntKind.i64 (kD M.2)) := hR.cell 1
      have d2 : wa.cell? ⟨b, 2, none⟩ = some (Value.int IntKind.i64 (nD M.2)) := hR.cell 2
      have d3 : wa.cell? ⟨b, 3, none⟩ = some (Value.string (sD M.2)) := hR.cell 3
      have d4 : wa.cell? ⟨b, 4, none⟩ = some (Value.slice a (iD M.2).length q) := hR.cell 4
      have d5 : wa.cell? ⟨b, 5, none⟩ = some (Value.slice a' (mD M.2).length q') := hR.cell 5
      clear hwa hbb hR s0 s1 s2 s3 s4 s5 hB HO0
      go_wp2_with (at_builtin; refine wpList_append_all _ rfl (.tmp 16) (.tmp 19) _ rfl w.heap.size 25 i0 _ 5 80 Tryz.underlying22 hi0 hz0 hz1 hz2 rfl (by omega) u3 (x + i) xs0 rfl (HOA.out.alloc _) (some ⟨wa.heap.size, 0, none⟩) 1 1 (datCs M.2 a q a' q') rfl (by intro h; cases h) rfl (by intro ad' h; injection h with h; subst h; exact World.news_of_block (heap_alloc_new _ _)) datCs_one (by unfold maxLen; omega) (by omega) (by have := HBA.out.size; simp; omega) ?_)
      intro v' w' h1 h2
      have hB9 := Below.grown (below_al HBA.out (.cells (datCs M.2 a q a' q').toArray 25)) h2.out (by have := HBA.out.size; simp; omega) (fun k e => (HOA.out.lt k e).1)
      have HB9 := hide hB9
      have HO9 : Hid (OwnD (Parts w w.heap.size m) w' w.heap.size v' (xs ++ (ys.take (i + 1)).map Prod.snd)) := hide ⟨xs0 ++ datCs M.2 a q a' q', by
        rw [HMM.out, ← List.append_assoc, List.length_append, List.length_append, List.length_map, List.length_take, ← HX.out, ← HY.out, Nat.min_eq_left (by omega)]; exact h1.out, by
        rw [HMM.out, ← List.append_assoc]
        exact HF0.out.append (FlatD.one HPT.out)⟩
      clear h1 h2 hB9 HOA HBA
      go_wp2_with fail
      go_roundw
      case rel => exact ⟨i + 1, by go_num, by omega, HB9, HO9⟩
      case measure => simp [intOf]; omega
    · obtain rfl : i = y := by omega
      go_wp2_with fail
      go_ret
      have hOD := hO.out.dats.turn Same.refl (Nat.le_refl _) (fun _ _ _ _ _ => Parts.turn (Same.of_below hB.out) hB.out.size)
      rw [HY.out, List.take_length, ← HL.out] at hOD
      exact ⟨_, rfl, hB.out, hOD⟩
end Go.Proofs.YtmmbbndoimleaaaGreatDoor
