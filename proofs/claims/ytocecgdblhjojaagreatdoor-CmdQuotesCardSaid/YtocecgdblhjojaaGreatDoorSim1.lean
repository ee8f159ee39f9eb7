/-
  A calculus of abstract runs, part 1: abstract memory, what it says of a world, and what a step may change.
-/
import Derived.Calls
import Derived.Recover
import Derived.Laws.Append
namespace Go.Sim

/-- Where abstract blocks of the call's own lie: block and first cell; how many there are; of those that grow: an element's cells, and how many cells there are. -/
structure M where
  f : Nat → Nat × Nat
  n : Nat
  es : Nat → Nat
  tot : Nat → Nat

/-- An abstract address: even blocks lie outside (block / 2), odd ones are the call's own. -/
def M.addr (m : M) (a : Addr) : Addr :=
  if a.block % 2 = 0 then ⟨a.block / 2, a.off, none⟩ else ⟨(m.f (a.block / 2)).1, (m.f (a.block / 2)).2 + a.off, none⟩

def okAddr (m : M) (a : Addr) : Prop := a.spot = none ∧ (a.block % 2 = 1 → a.block / 2 < m.n)

/-- An abstract value (left) tells a value (right). Of a slice the abstract capacity is 0 where it isn't known, else one more than it is. -/
inductive VRel (m : M) : Value → Value → Prop
  | bool (b : Bool) : VRel m (.bool b) (.bool b)
  | int (k : IntKind) (n : Int) : VRel m (.int k n) (.int k n)
  | float (k : FloatKind) (n : Nat) : VRel m (.float k n) (.float k n)
  | complex (k : FloatKind) (x y : Nat) : VRel m (.complex k x y) (.complex k x y)
  | string (s : ByteArray) : VRel m (.string s) (.string s)
  | ptrNil : VRel m (.pointer none) (.pointer none)
  | ptr (a : Addr) (h : okAddr m a) : VRel m (.pointer (some a)) (.pointer (some (m.addr a)))
  | sliceNil : VRel m (.slice none 0 0) (.slice none 0 0)
  | slice (a : Addr) (n c c' : Nat) (h : okAddr m a) (hn : n ≤ c') (hc : c = 0 ∨ c = c' + 1)
      (ht : c = 0 → a.block % 2 = 1 → a.off + c' * m.es (a.block / 2) ≤ m.tot (a.block / 2)) : VRel m (.slice (some a) n c) (.slice (some (m.addr a)) n c')
  | sliceEmpty (a a' : Addr) (c : Nat) (hc : c = 0 ∨ c = 1) : VRel m (.slice (some a) 0 c) (.slice (some a') 0 0)
  | mapNil : VRel m (.map none) (.map none)
  | chanNil : VRel m (.chan none) (.chan none)
  | nilFunc : VRel m .nilFunc .nilFunc
  | nilIface : VRel m .nilIface .nilIface
  | func (fn : Fn) (x y x' y' : Array Value) (hx : x.size = x'.size) (hx' : ∀ (i : Nat) (v v' : Value), x[i]? = some v → x'[i]? = some v' → VRel m v v')
      (hy : y.size = y'.size) (hy' : ∀ (i : Nat) (v v' : Value), y[i]? = some v → y'[i]? = some v' → VRel m v v') : VRel m (.func fn x y) (.func fn x' y')
  | iface (t : TypeId) (v v' : Value) (h : VRel m v v') : VRel m (.iface t v) (.iface t v')
  | agg (x x' : Array Value) (hx : x.size = x'.size) (hx' : ∀ (i : Nat) (v v' : Value), x[i]? = some v → x'[i]? = some v' → VRel m v v') : VRel m (.agg x) (.agg x')
  | tuple (x x' : Array Value) (hx : x.size = x'.size) (hx' : ∀ (i : Nat) (v v' : Value), x[i]? = some v → x'[i]? = some v' → VRel m v v') : VRel m (.tuple x) (.tuple x')

/-- Arrays and lists of values, one by one. -/
def ARel (m : M) (x x' : Array Value) : Prop := x.size = x'.size ∧ ∀ (i : Nat) (v v' : Value), x[i]? = some v → x'[i]? = some v' → VRel m v v'
def LRel (m : M) (x x' : List Value) : Prop := x.length = x'.length ∧ ∀ (i : Nat) (v v' : Value), x[i]? = some v → x'[i]? = some v' → VRel m v v'

theorem LRel.nil (m : M) : LRel m [] [] := ⟨rfl, by simp⟩
theorem LRel.cons {m : M} {v v' : Value} {l l' : List Value} (h : VRel m v v') (hl : LRel m l l') : LRel m (v :: l) (v' :: l') := by
  refine ⟨by simp [hl.1], fun i a a' ha ha' => ?_⟩
  cases i with
  | zero => simp at ha ha'; subst ha; subst ha'; exact h
  | succ i => exact hl.2 i a a' (by simpa using ha) (by simpa using ha')
theorem LRel.head {m : M} {v v' : Value} {l l' : List Value} (h : LRel m (v :: l) (v' :: l')) : VRel m v v' := h.2 0 v v' rfl rfl
theorem LRel.tail {m : M} {v v' : Value} {l l' : List Value} (h : LRel m (v :: l) (v' :: l')) : LRel m l l' :=
  ⟨by have := h.1; simpa using this, fun i a a' ha ha' => h.2 (i + 1) a a' (by simpa using ha) (by simpa using ha')⟩
theorem LRel.append {m : M} {a a' b b' : List Value} (h : LRel m a a') (k : LRel m b b') : LRel m (a ++ b) (a' ++ b') := by
  refine ⟨by simp [h.1, k.1], fun i v v' hv hv' => ?_⟩
  by_cases hi : i < a.length
  · rw [List.getElem?_append_left hi] at hv
    rw [List.getElem?_append_left (by rw [← h.1]; exact hi)] at hv'
    exact h.2 i v v' hv hv'
  · rw [List.getElem?_append_right (by omega)] at hv
    rw [List.getElem?_append_right (by rw [← h.1]; omega), ← h.1] at hv'
    exact k.2 _ v v' hv hv'
theorem LRel.get {m : M} {l l' : List Value} (h : LRel m l l') {i : Nat} {v : Value} (hv : l[i]? = some v) : ∃ v', l'[i]? = some v' ∧ VRel m v v' := by
  have hi : i < l.length := by
    by_cases hi : i < l.length
    · exact hi
    · rw [List.getElem?_eq_none (by omega)] at hv; cases hv
  have hi' : i < l'.length := by rw [← h.1]; exact hi
  exact ⟨l'[i], List.getElem?_eq_getElem hi', h.2 i v _ hv (List.getElem?_eq_getElem hi')⟩
theorem ARel.toList {m : M} {x x' : Array Value} (h : ARel m x x') : LRel m x.toList x'.toList := by
  refine ⟨by simpa using h.1, fun i v v' hv hv' => h.2 i v v' (by simpa using hv) (by simpa using hv')⟩
theorem LRel.toArray {m : M} {x x' : List Value} (h : LRel m x x') : ARel m x.toArray x'.toArray := by
  refine ⟨by simpa using h.1, fun i v v' hv hv' => h.2 i v v' (by simpa using hv) (by simpa using hv')⟩
theorem ARel.of_toList {m : M} {x x' : Array Value} (h : LRel m x.toList x'.toList) : ARel m x x' := by
  have := h.toArray; simpa using this
theorem LRel.of_toArray {m : M} {x x' : List Value} (h : ARel m x.toArray x'.toArray) : LRel m x x' := by
  have := h.toList; simpa using this
theorem LRel.eq_nil {m : M} {l : List Value} (h : LRel m [] l) : l = [] := by
  have := h.1; simp at this; exact List.eq_nil_of_length_eq_zero this.symm
theorem LRel.eq_cons {m : M} {v : Value} {l r : List Value} (h : LRel m (v :: l) r) : ∃ v' l', r = v' :: l' ∧ VRel m v v' ∧ LRel m l l' := by
  cases r with
  | nil => have := h.1; simp at this
  | cons v' l' => exact ⟨v', l', rfl, h.head, h.tail⟩

theorem undef_rel (m : M) : VRel m undef undef := .tuple _ _ rfl (by simp)

/-- More is told. -/
def Ext (m m' : M) : Prop := m.n ≤ m'.n ∧ ∀ k, k < m.n → m'.f k = m.f k ∧ m'.es k = m.es k ∧ m'.tot k = m.tot k
theorem Ext.refl (m : M) : Ext m m := ⟨Nat.le_refl _, fun _ _ => ⟨rfl, rfl, rfl⟩⟩
theorem Ext.trans {a b c : M} (h : Ext a b) (k : Ext b c) : Ext a c := ⟨Nat.le_trans h.1 k.1, fun i hi =>
  let x := k.2 i (Nat.lt_of_lt_of_le hi h.1)
  let y := h.2 i hi
  ⟨x.1.trans y.1, x.2.1.trans y.2.1, x.2.2.trans y.2.2⟩⟩

theorem okAddr.mono {m m' : M} (h : Ext m m') {a : Addr} (ha : okAddr m a) : okAddr m' a := ⟨ha.1, fun e => Nat.lt_of_lt_of_le (ha.2 e) h.1⟩
theorem addr_mono {m m' : M} (h : Ext m m') {a : Addr} (ha : okAddr m a) : m'.addr a = m.addr a := by
  unfold M.addr
  by_cases e : a.block % 2 = 0
  · simp [e]
  · have : a.block % 2 = 1 := by omega
    simp [e, (h.2 _ (ha.2 this)).1]

theorem VRel.mono {m m' : M} (h : Ext m m') {v v' : Value} (hv : VRel m v v') : VRel m' v v' := by
  induction hv with
  | bool b => exact .bool b
  | int k n => exact .int k n
  | float k n => exact .float k n
  | complex k x y => exact .complex k x y
  | string s => exact .string s
  | ptrNil => exact .ptrNil
  | ptr a ha => rw [← addr_mono h ha]; exact .ptr a (ha.mono h)
  | sliceNil => exact .sliceNil
  | slice a n c c' ha hn hc ht =>
    rw [← addr_mono h ha]
    exact .slice a n c c' (ha.mono h) hn hc (fun h0 ho => by rw [(h.2 _ (ha.2 ho)).2.1, (h.2 _ (ha.2 ho)).2.2]; exact ht h0 ho)
  | sliceEmpty a a' c hc => exact .sliceEmpty a a' c hc
  | mapNil => exact .mapNil
  | chanNil => exact .chanNil
  | nilFunc => exact .nilFunc
  | nilIface => exact .nilIface
  | func fn x y x' y' hx hx' hy hy' ihx ihy => exact .func fn x y x' y' hx ihx hy ihy
  | iface t v v' _ ih => exact .iface t v v' ih
  | agg x x' hx hx' ih => exact .agg x x' hx ih
  | tuple x x' hx hx' ih => exact .tuple x x' hx ih
theorem ARel.mono {m m' : M} (h : Ext m m') {x x' : Array Value} (hv : ARel m x x') : ARel m' x x' := ⟨hv.1, fun i v v' a b => (hv.2 i v v' a b).mono h⟩
theorem LRel.mono {m m' : M} (h : Ext m m') {x x' : List Value} (hv : LRel m x x') : LRel m' x x' := ⟨hv.1, fun i v v' a b => (hv.2 i v v' a b).mono h⟩

theorem VRel.cells {m : M} {v v' : Value} (h : VRel m v v') : ARel m v.cells v'.cells := by
  cases h with
  | agg x x' hx hx' => exact ⟨hx, hx'⟩
  | bool b => exact ⟨rfl, fun i a a' ha ha' => by cases i <;> simp [Value.cells] at ha ha'; subst ha; subst ha'; exact .bool b⟩
  | int k n => exact ⟨rfl, fun i a a' ha ha' => by cases i <;> simp [Value.cells] at ha ha'; subst ha; subst ha'; exact .int k n⟩
  | float k n => exact ⟨rfl, fun i a a' ha ha' => by cases i <;> simp [Value.cells] at ha ha'; subst ha; subst ha'; exact .float k n⟩
  | complex k x y => exact ⟨rfl, fun i a a' ha ha' => by cases i <;> simp [Value.cells] at ha ha'; subst ha; subst ha'; exact .complex k x y⟩
  | string s => exact ⟨rfl, fun i a a' ha ha' => by cases i <;> simp [Value.cells] at ha ha'; subst ha; subst ha'; exact .string s⟩
  | ptrNil => exact ⟨rfl, fun i a a' ha ha' => by cases i <;> simp [Value.cells] at ha ha'; subst ha; subst ha'; exact .ptrNil⟩
  | ptr a ho => exact ⟨rfl, fun i b b' ha ha' => by cases i <;> simp [Value.cells] at ha ha'; subst ha; subst ha'; exact .ptr a ho⟩
  | sliceNil => exact ⟨rfl, fun i a a' ha ha' => by cases i <;> simp [Value.cells] at ha ha'; subst ha; subst ha'; exact .sliceNil⟩
  | slice a n c c' h1 h2 h3 h4 => exact ⟨rfl, fun i b b' ha ha' => by cases i <;> simp [Value.cells] at ha ha'; subst ha; subst ha'; exact .slice a n c c' h1 h2 h3 h4⟩
  | sliceEmpty a a' c hc => exact ⟨rfl, fun i b b' ha ha' => by cases i <;> simp [Value.cells] at ha ha'; subst ha; subst ha'; exact .sliceEmpty a a' c hc⟩
  | mapNil => exact ⟨rfl, fun i a a' ha ha' => by cases i <;> simp [Value.cells] at ha ha'; subst ha; subst ha'; exact .mapNil⟩
  | chanNil => exact ⟨rfl, fun i a a' ha ha' => by cases i <;> simp [Value.cells] at ha ha'; subst ha; subst ha'; exact .chanNil⟩
  | nilFunc => exact ⟨rfl, fun i a a' ha ha' => by cases i <;> simp [Value.cells] at ha ha'; subst ha; subst ha'; exact .nilFunc⟩
  | nilIface => exact ⟨rfl, fun i a a' ha ha' => by cases i <;> simp [Value.cells] at ha ha'; subst ha; subst ha'; exact .nilIface⟩
  | func fn x y x' y' hx hx' hy hy' => exact ⟨rfl, fun i a a' ha ha' => by cases i <;> simp [Value.cells] at ha ha'; subst ha; subst ha'; exact .func fn x y x' y' hx hx' hy hy'⟩
  | iface t v v' h => exact ⟨rfl, fun i a a' ha ha' => by cases i <;> simp [Value.cells] at ha ha'; subst ha; subst ha'; exact .iface t v v' h⟩
  | tuple x x' hx hx' => exact ⟨rfl, fun i a a' ha ha' => by cases i <;> simp [Value.cells] at ha ha'; subst ha; subst ha'; exact .tuple x x' hx hx'⟩

theorem VRel.oneCell {m : M} {v v' : Value} (h : VRel m v v') : v'.oneCell' = v.oneCell' := by cases h <;> rfl

/-- Values without an address: they tell themselves. -/
def plain0 : Value → Bool
  | .bool _ | .int _ _ | .float _ _ | .complex _ _ _ | .string _ | .pointer none | .slice none 0 0 | .map none | .chan none | .nilFunc | .nilIface => true
  | .func _ x y => x.isEmpty && y.isEmpty
  | _ => false
def plainV : Value → Bool
  | .agg x => x.toList.all plain0
  | .tuple x => x.toList.all plain0
  | .iface _ v => plain0 v
  | v => plain0 v

theorem plain0_eq {m : M} {v v' : Value} (h : VRel m v v') (hp : plain0 v = true) : v' = v := by
  cases h with
  | func fn x y x' y' hx hx' hy hy' =>
    simp [plain0] at hp
    obtain ⟨h1, h2⟩ := hp
    subst h1; subst h2
    have e1 : x' = #[] := Array.eq_empty_of_size_eq_zero (by rw [← hx]; rfl)
    have e2 : y' = #[] := Array.eq_empty_of_size_eq_zero (by rw [← hy]; rfl)
    rw [e1, e2]
  | ptr a ha => simp [plain0] at hp
  | slice a n c c' h1 h2 h3 h4 => simp [plain0] at hp
  | sliceEmpty a a' c hc => simp [plain0] at hp
  | agg x x' hx hx' => simp [plain0] at hp
  | tuple x x' hx hx' => simp [plain0] at hp
  | iface t v v' h => simp [plain0] at hp
  | _ => rfl
theorem plain0_rel (m : M) {v : Value} (hp : plain0 v = true) : VRel m v v := by
  cases v with
  | bool b => exact .bool b
  | int k n => exact .int k n
  | float k n => exact .float k n
  | complex k x y => exact .complex k x y
  | string s => exact .string s
  | pointer a => cases a with
    | none => exact .ptrNil
    | some a => simp [plain0] at hp
  | slice a n c => cases a with
    | none =>
      cases n with
      | zero => cases c with
        | zero => exact .sliceNil
        | succ c => simp [plain0] at hp
      | succ n => simp [plain0] at hp
    | some a => simp [plain0] at hp
  | map r => cases r with
    | none => exact .mapNil
    | some r => simp [plain0] at hp
  | chan r => cases r with
    | none => exact .chanNil
    | some r => simp [plain0] at hp
  | func fn x y =>
    simp [plain0] at hp
    obtain ⟨h1, h2⟩ := hp
    subst h1; subst h2
    exact .func fn _ _ _ _ rfl (by simp) rfl (by simp)
  | nilFunc => exact .nilFunc
  | nilIface => exact .nilIface
  | iface t v => simp [plain0] at hp
  | agg x => simp [plain0] at hp
  | tuple x => simp [plain0] at hp
theorem plains_eq {m : M} {x x' : Array Value} (h : ARel m x x') (hp : x.toList.all plain0 = true) : x' = x := by
  apply Array.ext_getElem?
  intro i
  have hl := h.toList
  by_cases hi : i < x.size
  · have hi' : i < x'.size := by rw [← h.1]; exact hi
    rw [Array.getElem?_eq_getElem hi, Array.getElem?_eq_getElem hi']
    have hv := h.2 i x[i] x'[i] (Array.getElem?_eq_getElem hi) (Array.getElem?_eq_getElem hi')
    have := List.all_eq_true.1 hp x[i] (by simp)
    rw [plain0_eq hv this]
  · rw [Array.getElem?_eq_none (xs := x) (by omega), Array.getElem?_eq_none (xs := x') (by rw [← h.1]; omega)]
theorem plains_rel (m : M) {x : Array Value} (hp : x.toList.all plain0 = true) : ARel m x x := by
  refine ⟨rfl, fun i v v' hv hv' => ?_⟩
  rw [hv] at hv'; cases hv'
  exact plain0_rel m (List.all_eq_true.1 hp v (by
    have := Array.mem_of_getElem? hv
    simpa using this))
theorem plainV_eq {m : M} {v v' : Value} (h : VRel m v v') (hp : plainV v = true) : v' = v := by
  cases h with
  | agg x x' hx hx' => rw [plains_eq ⟨hx, hx'⟩ hp]
  | tuple x x' hx hx' => rw [plains_eq ⟨hx, hx'⟩ hp]
  | iface t v v' h => rw [plain0_eq h hp]
  | func fn x y x' y' hx hx' hy hy' => exact plain0_eq (.func fn x y x' y' hx hx' hy hy') hp
  | ptr a ha => simp [plainV, plain0] at hp
  | slice a n c c' h1 h2 h3 h4 => simp [plainV, plain0] at hp
  | sliceEmpty a a' c hc => simp [plainV, plain0] at hp
  | _ => rfl
theorem plainV_rel (m : M) {v : Value} (hp : plainV v = true) : VRel m v v := by
  cases v with
  | agg x => exact .agg _ _ rfl (plains_rel m hp).2
  | tuple x => exact .tuple _ _ rfl (plains_rel m hp).2
  | iface t v => exact .iface _ _ _ (plain0_rel m hp)
  | _ => exact plain0_rel m hp

/-- A block of the call's own: its cells (the first ones, if not all: 'fix'), cells from fz on are not frozen. -/
structure Blk where
  cells : List Value
  elem : TypeId
  fix : Bool := true
  es : Nat := 0
  fz : Nat := 0
  dead : Bool := false

structure BlkRel (w0 : World) (m : M) (k : Nat) (B : Blk) (w : World) : Prop where
  base : w0.heap.size ≤ (m.f k).1
  obj : ∃ c fr, w.heap[(m.f k).1]? = some (.cells c B.elem fr) ∧ (B.fix = true → (m.f k).2 = 0 ∧ c.size = B.cells.length) ∧
    (B.fix = false → m.es k = B.es ∧ (m.f k).2 + m.tot k ≤ c.size) ∧
    (∀ (i : Nat) (v : Value), B.cells[i]? = some v → ∃ v', c[(m.f k).2 + i]? = some v' ∧ VRel m v v') ∧
    (∀ i, B.fz ≤ i → (m.f k).2 + i < c.size → fr.1 ≤ (m.f k).2 + i → fr.2 ≤ (m.f k).2 + i) ∧
    (B.fz = 0 → fr.1 = fr.2 ∨ c.size ≤ fr.1)

structure Rep (w0 : World) (m : M) (own : List Blk) (w : World) : Prop where
  len : m.n = own.length
  size : w0.heap.size ≤ w.heap.size
  outer : ∀ b, b < w0.heap.size → w.heap[b]? = w0.heap[b]?
  os : w.os = w0.os
  tape : w.tape = w0.tape
  output : w.output = w0.output
  blk : ∀ k B, own[k]? = some B → B.dead = false → BlkRel w0 m k B w
  inj : ∀ j k A B, own[j]? = some A → own[k]? = some B → A.dead = false → B.dead = false → (m.f j).1 = (m.f k).1 → j = k

/-- What a step may have changed. -/
structure Step (m : M) (own : List Blk) (w : World) (m' : M) (own' : List Blk) (w' : World) : Prop where
  ext : Ext m m'
  size : w.heap.size ≤ w'.heap.size
  frame : ∀ b, b < w.heap.size → (∀ k B, own[k]? = some B → B.dead = false → (m.f k).1 ≠ b) → w'.heap[b]? = w.heap[b]?
  sub : ∀ k B, own'[k]? = some B → B.dead = false → w.heap.size ≤ (m'.f k).1 ∨ ∃ j A, own[j]? = some A ∧ A.dead = false ∧ (m.f j).1 = (m'.f k).1

theorem Step.refl (m : M) (own : List Blk) (w : World) : Step m own w m own w :=
  ⟨Ext.refl m, Nat.le_refl _, fun _ _ _ => rfl, fun k B h hd => .inr ⟨k, B, h, hd, rfl⟩⟩
theorem Step.trans {m m1 m2 : M} {o o1 o2 : List Blk} {w w1 w2 : World} (h : Step m o w m1 o1 w1) (k : Step m1 o1 w1 m2 o2 w2) : Step m o w m2 o2 w2 := by
  refine ⟨h.ext.trans k.ext, Nat.le_trans h.size k.size, fun b hb hn => ?_, fun i B hB hd => ?_⟩
  · rw [k.frame b (Nat.lt_of_lt_of_le hb h.size) ?_, h.frame b hb hn]
    intro i B hB hd e
    rcases h.sub i B hB hd with hs | ⟨j, A, hA, hAd, hj⟩
    · omega
    · exact hn j A hA hAd (hj.trans e)
  · rcases k.sub i B hB hd with hs | ⟨j, A, hA, hAd, hj⟩
    · exact .inl (Nat.le_trans h.size hs)
    · rcases h.sub j A hA hAd with hs | ⟨j', A', hA', hAd', hj'⟩
      · exact .inl (by omega)
      · exact .inr ⟨j', A', hA', hAd', hj'.trans hj⟩

/-- A step that changes no block keeps what an unchanged abstract memory says. -/
theorem Rep.same_heap {w0 : World} {m : M} {own : List Blk} {w w' : World} (h : Rep w0 m own w) (hh : w'.heap = w.heap) (ho : w'.os = w.os) (ht : w'.tape = w.tape)
    (hu : w'.output = w.output) : Rep w0 m own w' :=
  ⟨h.len, by rw [hh]; exact h.size, fun b hb => by rw [hh]; exact h.outer b hb, ho.trans h.os, ht.trans h.tape, hu.trans h.output,
    fun k B hk hd => let r := h.blk k B hk hd; ⟨r.base, by rw [hh]; exact r.obj⟩, h.inj⟩
theorem Rep.drew {w0 : World} {m : M} {own : List Blk} {w : World} (h : Rep w0 m own w) : Rep w0 m own w.drew := h.same_heap rfl rfl rfl rfl
theorem Step.drew {m m' : M} {own own' : List Blk} {w w' : World} (h : Step m own w m' own' w') : Step m own w m' own' w'.drew := ⟨h.ext, h.size, h.frame, h.sub⟩
theorem Step.of_drew {m m' : M} {own own' : List Blk} {w w' : World} (h : Step m own w.drew m' own' w') : Step m own w m' own' w' := ⟨h.ext, h.size, h.frame, h.sub⟩

theorem BlkRel.mono {w0 : World} {m m' : M} (h : Ext m m') {k : Nat} {B : Blk} {w w' : World} (hk : k < m.n) (hr : BlkRel w0 m k B w) (hw : w'.heap[(m.f k).1]? = w.heap[(m.f k).1]?) : BlkRel w0 m' k B w' := by
  obtain ⟨hb, c, fr, h1, h2, h2', h3, h4, h5⟩ := hr
  obtain ⟨e, e1, e2⟩ := h.2 k hk
  refine ⟨by rw [e]; exact hb, c, fr, by rw [e, hw]; exact h1, by rw [e]; exact h2, by rw [e, e1, e2]; exact h2', ?_, by rw [e]; exact h4, h5⟩
  intro i v hv
  obtain ⟨v', hv', hr⟩ := h3 i v hv
  exact ⟨v', by rw [e]; exact hv', hr.mono h⟩

end Go.Sim
