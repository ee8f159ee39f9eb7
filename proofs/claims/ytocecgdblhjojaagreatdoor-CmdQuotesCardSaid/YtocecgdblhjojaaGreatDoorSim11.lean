/-
  A calculus of abstract runs, part 11: a region that draws its order.
-/
import Derived.Test.YtocecgdblhjojaaGreatDoorSim10
namespace Go.Sim

inductive PK where
  | q | z | e
  deriving DecidableEq

def bef (ops : Array Oper) (i : Nat) : Nat := (Region.before ops).getD i 0
def isAnc (ops : Array Oper) (i j : Nat) : Bool := (bef ops i).testBit j
def dstOf (ops : Array Oper) (i : Nat) : Option Tmp := (ops[i]?).bind (·.dst)
def looks (ops : Array Oper) (i : Nat) : List Tmp :=
  match ops[i]? with
  | some o => o.looksAt ops
  | none => []

abbrev Stage := List Nat × List Nat × Nat
def tq (l : List Nat) : List (Nat × PK) := l.map fun i => (i, .q)
def tz (l : List Nat) : List (Nat × PK) := l.map fun i => (i, .z)
def flatS (qs zs : List Nat) : List Stage → List (Nat × PK)
  | [] => tq qs ++ tz zs
  | (a, b, e) :: r => tq a ++ (tz b ++ ((e, .e) :: flatS qs zs r))

def pairOk (ops : Array Oper) (x y : Nat × PK) : Bool :=
  x.1 != y.1 && !isAnc ops x.1 y.1 &&
  (match x.2, y.2 with
   | .e, .e => isAnc ops y.1 x.1
   | .e, .q => isAnc ops y.1 x.1
   | .z, .e => isAnc ops y.1 x.1
   | _, _ => true) &&
  (match dstOf ops x.1 with
   | some d => dstOf ops y.1 != some d && (!(looks ops y.1).contains d || isAnc ops y.1 x.1)
   | none => true) &&
  (match dstOf ops y.1 with
   | some d => !(looks ops x.1).contains d || (y.2 == .e && isAnc ops y.1 x.1)
   | none => true)
def pairsOk (ops : Array Oper) : List (Nat × PK) → Bool
  | [] => true
  | x :: r => r.all (pairOk ops x) && pairsOk ops r
def oneOk (P : Program) (ops : Array Oper) (x : Nat × PK) : Bool :=
  match ops[x.1]? with
  | none => false
  | some o => plainOper o && match x.2 with
    | .e => true
    | .q => match o.dst with
      | some d => !(o.looksAt ops).contains d
      | none => false
    | .z => o.dst.isSome && lazyOk P o
def ancOk (ops : Array Oper) : Bool :=
  (List.range ops.size).all fun i => match ops[i]? with
    | some o => bef ops i == o.after.toList.foldl (fun s e => if Region.binds .any e then s ||| 2 ^ e.on ||| bef ops e.on else s) 0
    | none => true
def edgesOk (ops : Array Oper) : Bool :=
  (List.range ops.size).all fun i => !isAnc ops i i && match ops[i]? with
    | some o => o.after.toList.all fun e => !Region.binds .any e || decide (e.on < ops.size)
    | none => true
def planOk (P : Program) (ops : Array Oper) (flat : List (Nat × PK)) : Bool :=
  ancOk ops && edgesOk ops && pairsOk ops flat && flat.all (oneOk P ops) && (List.range ops.size).all fun i => flat.any fun x => x.1 == i

/-- The plan: reads as early as they may be, what makes blocks as late as it must, the rest in order. -/
def isQuietOp (P : Program) (o : Oper) : Bool :=
  match o.op with
  | .move _ | .pick _ _ _ | .load _ _ | .nilCheck _ | .binOp _ _ _ _ _ | .unOp _ _ _ | .makeInterface _ _ | .makeFunc _ _ _ | .slice _ _ _ _ _ | .fieldAddr _ _ _ | .field _ _ _ | .indexAddr _ _ _ | .index _ _ _
  | .extract _ _ | .typeAssert _ _ _ _ | .build _ _ => true
  | .convert _ d _ => match P.underlying d with
    | some (.slice _) => false
    | _ => true
  | .call { callee := .builtin .len, .. } | .call { callee := .builtin .cap, .. } | .call { callee := .builtin .min, .. } | .call { callee := .builtin .max, .. } => true
  | _ => false
def kindOf (P : Program) (o : Oper) : PK := if isQuietOp P o && o.dst.isSome then .q else if isLazy o && o.dst.isSome then .z else .e
def mkPlan (P : Program) (ops : Array Oper) : List Stage × List Nat × List Nat :=
  let ks : List (Nat × PK) := ops.toList.zipIdx.map fun (o, i) => (i, kindOf P o)
  let es := (ks.filter fun x => x.2 == .e).map (·.1)
  let qs := (ks.filter fun x => x.2 == .q).map fun x => (x.1, (es.filter fun e => isAnc ops x.1 e).length)
  let zs := (ks.filter fun x => x.2 == .z).map fun x => (x.1, (es.filter fun e => !isAnc ops e x.1).length)
  let n := es.length
  (es.zipIdx.map fun (e, k) => ((qs.filter fun x => x.2 == k).map (·.1), (zs.filter fun x => x.2 == k).map (·.1), e),
   (qs.filter fun x => x.2 == n).map (·.1), (zs.filter fun x => x.2 == n).map (·.1))

/-- What is known behind a panic in such a region. -/
def maskT (ops : Array Oper) (t : List Value) : List Value := ops.toList.foldl (fun t o => putA t o.dst hole) t
theorem putA_length (t : List Value) (d : Option Tmp) (v : Value) : (putA t d v).length = t.length := by cases d <;> simp [putA]
theorem maskT_length (ops : Array Oper) (t : List Value) : (maskT ops t).length = t.length := by
  unfold maskT
  generalize ops.toList = l
  induction l generalizing t with
  | nil => rfl
  | cons o l ih => rw [List.foldl_cons, ih, putA_length]
theorem mask_get : ∀ (l : List Oper) (t : List Value) (d : Nat) (v : Value), (l.foldl (fun t o => putA t o.dst hole) t)[d]? = some v → v = hole ∨ (t[d]? = some v ∧ ∀ o ∈ l, o.dst ≠ some d)
  | [], t, d, v, h => .inr ⟨h, by simp⟩
  | o :: l, t, d, v, h => by
    rw [List.foldl_cons] at h
    rcases mask_get l _ d v h with h | ⟨h1, h2⟩
    · exact .inl h
    · cases hd : o.dst with
      | none =>
        rw [hd] at h1
        refine .inr ⟨h1, fun x hx => ?_⟩
        rcases List.mem_cons.1 hx with rfl | hx
        · rw [hd]; simp
        · exact h2 x hx
      | some e =>
        rw [hd] at h1
        simp only [putA] at h1
        rcases set_get h1 with ⟨_, h, _⟩ | ⟨hne, h3⟩
        · exact .inl h
        · exact .inr ⟨h3, fun x hx => by
            rcases List.mem_cons.1 hx with rfl | hx
            · rw [hd]; intro e2; exact hne (by injection e2 with e2; exact e2.symm)
            · exact h2 x hx⟩

section
variable (P : Program) (w0 : World) (out : Nat → Nat → Option Value) (ops : Array Oper) (Q : AExit → AA → List Blk → Prop)

def qsWp : List Nat → AA → List Blk → (AA → Prop) → Prop
  | [], s, _, K => K s
  | i :: r, s, own, K => ∃ o v, ops[i]? = some o ∧ (if wantedA ops s.t o then aop P out own (evalA s.t) o = some (.value v, own) else v = undef) ∧ qsWp r { s with t := putA s.t o.dst v } own K
def RR (i : Nat) (s : AA) (own : List Blk) : Prop :=
  ∃ o d, ops[i]? = some o ∧ o.dst = some d ∧ (if wantedA ops s.t o then aop P out own (evalA s.t) o = some (.value (s.t.getD d undef), own) else s.t.getD d undef = undef)
def zsWp : List Nat → AA → List Blk → (AA → List Blk → Prop) → Prop
  | [], s, own, K => K s own
  | i :: r, s, own, K => ∃ o v own', ops[i]? = some o ∧ aop P out own (evalA s.t) o = some (.value v, own') ∧ zsWp r { s with t := putA s.t o.dst v } own' K
def eWp (i : Nat) (s : AA) (own : List Blk) (K : AA → List Blk → Prop) : Prop :=
  ∃ o, ops[i]? = some o ∧ if wantedA ops s.t o then
      ∃ r own', aop P out own (evalA s.t) o = some (r, own') ∧
        match r with
        | .value v => K { s with t := putA s.t o.dst v } own'
        | .enter f args => ACalls P w0 f args own' fun
            | .returned v, own'' => K { s with t := putA s.t o.dst v } own''
            | .panicked v, own'' => Q (.panic v) { s with t := maskT ops s.t } own''
        | .panic v => Q (.panic v) { s with t := maskT ops s.t } own'
        | .defer f args => K { t := putA s.t o.dst undef, ds := (f, args) :: s.ds } own'
        | .recover => False
    else K { s with t := putA s.t o.dst undef } own
def planWp (qf zf : List Nat) : List Nat → List Stage → AA → List Blk → Prop
  | lc, [], s, own => qsWp P out ops qf s own fun s1 => (∀ i ∈ lc ++ qf, RR P out ops i s1 own) ∧ zsWp P out ops zf s1 own fun s2 own2 => Q .normal s2 own2
  | lc, (qs, zs, e) :: rest, s, own => qsWp P out ops qs s own fun s1 => (∀ i ∈ lc ++ qs, RR P out ops i s1 own) ∧ zsWp P out ops zs s1 own fun s2 own2 =>
      eWp P w0 out ops Q e s2 own2 fun s3 own3 => planWp qf zf ((lc ++ qs).filter fun i => !isAnc ops e i) rest s3 own3

end

/-! What the check gives. -/
section
variable {P : Program} {ops : Array Oper} {flat : List (Nat × PK)}

def Bef (flat : List (Nat × PK)) (x y : Nat × PK) : Prop := ∃ a b c, flat = a ++ x :: (b ++ y :: c)
theorem pairsOk_bef : ∀ {flat : List (Nat × PK)}, pairsOk ops flat = true → ∀ {x y}, Bef flat x y → pairOk ops x y = true
  | flat, h, x, y, ⟨a, b, c, e⟩ => by
    subst e
    induction a with
    | nil =>
      simp only [List.nil_append, pairsOk, Bool.and_eq_true] at h
      exact List.all_eq_true.1 h.1 y (by simp)
    | cons z a ih =>
      simp only [List.cons_append, pairsOk, Bool.and_eq_true] at h
      exact ih h.2
theorem bef_split {pre rem : List (Nat × PK)} {x y : Nat × PK} (e : flat = pre ++ rem) (hx : x ∈ pre) (hy : y ∈ rem) : Bef flat x y := by
  obtain ⟨a, b, rfl⟩ := List.append_of_mem hx
  obtain ⟨c, d, rfl⟩ := List.append_of_mem hy
  exact ⟨a, b ++ c, d, by rw [e]; simp⟩
theorem bef_or {x y : Nat × PK} (hx : x ∈ flat) (hy : y ∈ flat) (hne : x ≠ y) : Bef flat x y ∨ Bef flat y x := by
  obtain ⟨a, b, e⟩ := List.append_of_mem hx
  rw [e] at hy
  rcases List.mem_append.1 hy with h | h
  · exact .inr (bef_split e h (by simp))
  · rcases List.mem_cons.1 h with h | h
    · exact absurd h.symm hne
    · exact .inl (bef_split (pre := a ++ [x]) (rem := b) (by rw [e]; simp) (by simp) h)

structure Facts (P : Program) (ops : Array Oper) (flat : List (Nat × PK)) : Prop where
  anc : ∀ i j, isAnc ops i j = true → ∃ o p, ops[i]? = some o ∧ (∃ ed ∈ o.after.toList, Region.binds .any ed = true ∧ ed.on = p) ∧ (j = p ∨ isAnc ops p j = true)
  dir : ∀ i o, ops[i]? = some o → ∀ ed ∈ o.after.toList, Region.binds .any ed = true → isAnc ops i ed.on = true
  pair : ∀ {x y}, Bef flat x y → pairOk ops x y = true
  one : ∀ x ∈ flat, oneOk P ops x = true
  all : ∀ i, i < ops.size → ∃ k, (i, k) ∈ flat
  edge : ∀ (i : Nat) (o : Oper), ops[i]? = some o → ∀ ed ∈ o.after.toList, Region.binds .any ed = true → ed.on < ops.size
  self : ∀ i, i < ops.size → isAnc ops i i = false

theorem testBit_fold (f : Nat → Nat) : ∀ (l : List Edge) (s j : Nat), (l.foldl (fun s e => if Region.binds .any e then s ||| 2 ^ e.on ||| f e.on else s) s).testBit j =
    (s.testBit j || l.any fun e => Region.binds .any e && (e.on == j || (f e.on).testBit j))
  | [], s, j => by simp
  | e :: l, s, j => by
    rw [List.foldl_cons, testBit_fold f l]
    cases hb : Region.binds .any e with
    | false => simp [hb]
    | true =>
      simp only [hb, if_true, Nat.testBit_or, Nat.testBit_two_pow, List.any_cons, Bool.true_and]
      cases s.testBit j <;> cases hq : (f e.on).testBit j <;> by_cases hj : e.on = j <;> simp [hj]

theorem bef_out {i : Nat} (h : ops.size ≤ i) : bef ops i = 0 := by
  unfold bef
  rw [Array.getD_eq_getD_getElem?, Array.getElem?_eq_none]
  · rfl
  · unfold Region.before
    have : ∀ (l : List Oper) (acc : Array Nat), (l.foldl (fun acc o => acc.push (o.after.foldl (fun s e => if Region.binds .any e then s ||| 2 ^ e.on ||| acc.getD e.on 0 else s) 0)) acc).size = acc.size + l.length := by
      intro l
      induction l with
      | nil => intro acc; simp
      | cons o l ih => intro acc; rw [List.foldl_cons, ih]; simp; omega
    rw [← Array.foldl_toList, this]
    simpa using h

theorem facts_of (h : planOk P ops flat = true) : Facts P ops flat := by
  simp only [planOk, Bool.and_eq_true] at h
  obtain ⟨⟨⟨⟨ha, hed⟩, hp⟩, ho⟩, hall⟩ := h
  have hbit : ∀ i o, ops[i]? = some o → ∀ j, isAnc ops i j = o.after.toList.any fun e => Region.binds .any e && (e.on == j || isAnc ops e.on j) := by
    intro i o hi j
    have hlt : i < ops.size := by
      by_cases hlt : i < ops.size
      · exact hlt
      · rw [Array.getElem?_eq_none (by omega)] at hi; cases hi
    have := List.all_eq_true.1 ha i (List.mem_range.2 hlt)
    rw [hi] at this
    simp only [beq_iff_eq] at this
    unfold isAnc
    rw [this, testBit_fold]
    simp
  refine ⟨fun i j hij => ?_, fun i o hi ed hed hb => ?_, fun hxy => pairsOk_bef hp hxy, fun x hx => List.all_eq_true.1 ho x hx, fun i hi => ?_, fun i o hi ed hed1 hb => ?_, fun i hi => ?_⟩
  · cases hi : ops[i]? with
    | none =>
      have : ops.size ≤ i := Array.getElem?_eq_none_iff.1 hi
      unfold isAnc at hij
      rw [bef_out this] at hij
      simp at hij
    | some o =>
      rw [hbit i o hi j] at hij
      obtain ⟨ed, hed, hb⟩ := List.any_eq_true.1 hij
      simp at hb
      refine ⟨o, ed.on, rfl, ⟨ed, hed, hb.1, rfl⟩, ?_⟩
      rcases hb.2 with h | h
      · exact .inl h.symm
      · exact .inr h
  · rw [hbit i o hi]
    exact List.any_eq_true.2 ⟨ed, hed, by simp [hb]⟩
  · have := List.all_eq_true.1 hall i (List.mem_range.2 hi)
    obtain ⟨x, hx, he⟩ := List.any_eq_true.1 this
    simp at he
    subst he
    exact ⟨x.2, hx⟩
  · have hlt : i < ops.size := by
      by_cases hlt : i < ops.size
      · exact hlt
      · rw [Array.getElem?_eq_none (by omega)] at hi; cases hi
    have := List.all_eq_true.1 hed i (List.mem_range.2 hlt)
    rw [hi] at this
    simp only [Bool.and_eq_true] at this
    have h2 := List.all_eq_true.1 this.2 ed hed1
    simpa [hb] using h2
  · have := List.all_eq_true.1 hed i (List.mem_range.2 hi)
    simp only [Bool.and_eq_true] at this
    simpa using this.1

theorem pair_ne (F : Facts P ops flat) {x y : Nat × PK} (h : Bef flat x y) : x.1 ≠ y.1 := by
  have := F.pair h
  simp [pairOk] at this
  exact this.1.1.1.1
theorem flat_lt (F : Facts P ops flat) {x : Nat × PK} (h : x ∈ flat) : ∃ o, ops[x.1]? = some o ∧ plainOper o = true := by
  have := F.one x h
  unfold oneOk at this
  split at this
  · cases this
  · rename_i o ho
    simp only [Bool.and_eq_true] at this
    exact ⟨o, ho, this.1⟩
/-- An index stands once. -/
theorem kind_one (F : Facts P ops flat) {i : Nat} {k l : PK} (h : (i, k) ∈ flat) (h' : (i, l) ∈ flat) : k = l := by
  by_cases e : k = l
  · exact e
  · rcases bef_or h h' (by simpa using e) with hb | hb
    · exact (pair_ne F hb rfl).elim
    · exact (pair_ne F hb rfl).elim
/-- Not on both sides of a cut. -/
theorem cut_one (F : Facts P ops flat) {pre rem : List (Nat × PK)} (e : flat = pre ++ rem) {x : Nat × PK} (hx : x ∈ pre) : x ∉ rem := fun hr => pair_ne F (bef_split e hx hr) rfl
/-- Two that write one slot are one. -/
theorem dst_one (F : Facts P ops flat) {x y : Nat × PK} (hx : x ∈ flat) (hy : y ∈ flat) {d : Tmp} (h1 : dstOf ops x.1 = some d) (h2 : dstOf ops y.1 = some d) : x = y := by
  by_cases e : x = y
  · exact e
  · rcases bef_or hx hy e with hb | hb
    · have := F.pair hb
      simp only [pairOk, h1, h2, Bool.and_eq_true] at this
      simp at this
    · have := F.pair hb
      simp only [pairOk, h1, h2, Bool.and_eq_true] at this
      simp at this

end
end Go.Sim
