/-
  A calculus of abstract runs, part 7: one operation, whole.
-/
import Derived.Test.YtocecgdblhjojaaGreatDoorSim6
import Derived.Laws.MakeOwn
namespace Go.Sim

section
variable {w0 : World} {out : Nat → Nat → Option Value} {m : M} {own : List Blk} {w : World}

def allPlain (l : List Value) : Bool := l.all plainV
theorem allPlain_eq {l l' : List Value} (h : LRel m l l') (hp : allPlain l = true) : l' = l := by
  apply List.ext_getElem?
  intro i
  by_cases hi : i < l.length
  · have hi' : i < l'.length := by rw [← h.1]; exact hi
    rw [List.getElem?_eq_getElem hi, List.getElem?_eq_getElem hi']
    have := h.2 i l[i] l'[i] (List.getElem?_eq_getElem hi) (List.getElem?_eq_getElem hi')
    rw [plainV_eq this (List.all_eq_true.1 hp _ (by simp))]
  · rw [List.getElem?_eq_none (l := l) (by omega), List.getElem?_eq_none (l := l') (by rw [← h.1]; omega)]

/-- A pure value, if it is plain. -/
def pureV (P : Program) (s : Sem Value) : Option Value :=
  match pureRun P s with
  | some v => if plainV v then some v else none
  | none => none
theorem pureV_run {P : Program} {s : Sem Value} {v : Value} (h : pureV P s = some v) (w : World) : s.run P w = .ok v w ∧ ∀ m, VRel m v v := by
  unfold pureV at h
  split at h
  · rename_i u hu
    split at h
    · rename_i hp
      simp at h; subst h
      exact ⟨pureRun_run P s _ hu w, fun m => plainV_rel m hp⟩
    · cases h
  · cases h
def pureN (P : Program) (s : Sem Next) : Option Value :=
  match pureRun P s with
  | some (.value v) => if plainV v then some v else none
  | _ => none
theorem pureN_run {P : Program} {s : Sem Next} {v : Value} (h : pureN P s = some v) (w : World) : s.run P w = .ok (.value v) w ∧ ∀ m, VRel m v v := by
  unfold pureN at h
  split at h
  · rename_i u hu
    split at h
    · rename_i hp
      simp at h; subst h
      exact ⟨pureRun_run P s _ hu w, fun m => plainV_rel m hp⟩
    · cases h
  · cases h

def convA (P : Program) (out : Nat → Nat → Option Value) (own : List Blk) (src dst : TypeId) (x : Value) : Option (Value × List Blk) :=
  match P.underlying src, P.underlying dst with
  | some .string, some (.slice e) => match P.underlying e, x with
    | some (.int .u8), .string s => some (.slice (some (nextAddr own)) s.size 0, own ++ [strBlk e s])
    | _, _ => none
  | some (.slice e), some .string => match P.underlying e with
    | some (.int .u8) => match toStrA out own x with
      | some s => some (.string s, own)
      | none => none
    | _ => none
  | some (.slice _), some (.slice e) => match P.underlying e, x with
    | some (.int .u8), .slice (some a) n c =>
      if !(src == dst) || a.block % 2 = 0 then none else
      match own[a.block / 2]? with
      | some B => if B.dead || !(B.fz = 0) || n = 0 then none else some (.slice (some a) n c, own)
      | none => none
    | _, _ => none
  | some _, some _ => if plainV x then
      match pureV P (convert src dst x) with
      | some v => some (v, own)
      | none => none
    else none
  | _, _ => none
theorem convA_rel (P : Program) (hr : Rep w0 m own w) (ho : OutOK w0 out) {src dst : TypeId} {x x' v : Value} {own' : List Blk} (hx : VRel m x x') (h : convA P out own src dst x = some (v, own')) :
    ∃ v' w' m', (convert src dst x').run P w = .ok v' w' ∧ VRel m' v v' ∧ Rep w0 m' own' w' ∧ Step m own w m' own' w' := by
  unfold convA at h
  split at h
  · rename_i e hs hd
    split at h
    · rename_i s he
      simp at h
      obtain ⟨rfl, rfl⟩ := h
      cases hx
      obtain ⟨v', w', m', g1, g2, g3, g4⟩ := strBytes_rel P hr e s
      exact ⟨v', w', m', by simp [convert, run_underlying hs, run_underlying hd, run_underlying he, g1], g2, g3, g4⟩
    · cases h
  · rename_i e hs hd
    split at h
    · rename_i he
      split at h
      · rename_i s hst
        simp at h
        obtain ⟨rfl, rfl⟩ := h
        obtain ⟨⟨a, n, c, rfl⟩, hrun⟩ := toStrA_rel P hr ho hx hst
        exact ⟨_, w, m, by rw [run_convert_bytes_string w src dst e a n c hs he hd, hrun], .string s, hr, Step.refl _ _ _⟩
      · cases h
    · cases h
  · rename_i e0 e hs hd
    split at h
    · rename_i a n c he
      split at h
      · cases h
      rename_i hc
      simp at hc
      split at h
      · rename_i B hB
        split at h
        · cases h
        rename_i hb
        simp at hb
        obtain ⟨⟨hb1, hb2⟩, hb3⟩ := hb
        simp at h
        obtain ⟨rfl, rfl⟩ := h
        cases hx with
        | slice _ _ _ c' g1 g2 g3 g4 =>
          obtain ⟨w', r1, r2, r3⟩ := mark_rel P hr (a := a) (by omega) hB hb1 hb2
          refine ⟨_, w', m, ?_, .slice _ _ _ _ g1 g2 g3 g4, r2, r3⟩
          obtain ⟨hc1, _⟩ := hc
          subst hc1
          rw [hs] at hd
          cases hd
          simp [convert, run_underlying hs, run_underlying he, r1]
        | sliceEmpty => simp at hb3
      · cases h
    · cases h
  · split at h
    · rename_i hp
      split at h
      · rename_i u hu
        simp at h
        obtain ⟨rfl, rfl⟩ := h
        have := pureV_run hu w
        rw [plainV_eq hx hp]
        exact ⟨_, w, m, this.1, this.2 m, hr, Step.refl _ _ _⟩
      · cases h
    · cases h
  · cases h

def typeAssertA (P : Program) (x : Value) (asserted : TypeId) (ok : Bool) : Option Value :=
  match P.underlying asserted with
  | some (.interface _) => none
  | some _ => match x with
    | .iface t v => if t = asserted then some (if ok then .tuple #[v, .bool true] else v) else
      if !ok then none else
      match P.info? asserted with
      | some i => match i.zero with
        | some z => if plainV z then some (.tuple #[z, .bool false]) else none
        | none => none
      | none => none
    | .nilIface => if !ok then none else
      match P.info? asserted with
      | some i => match i.zero with
        | some z => if plainV z then some (.tuple #[z, .bool false]) else none
        | none => none
      | none => none
    | _ => none
  | none => none
theorem tuple2_rel {a a' b b' : Value} (h : VRel m a a') (k : VRel m b b') : VRel m (.tuple #[a, b]) (.tuple #[a', b']) := by
  have := (LRel.cons h (LRel.cons k (LRel.nil m))).toArray
  exact .tuple _ _ this.1 this.2
theorem typeAssertA_rel (P : Program) (w : World) {x x' v : Value} {xt asserted : TypeId} {ok : Bool} (hx : VRel m x x') (h : typeAssertA P x asserted ok = some v) :
    ∃ v', (Instr.typeAssert x' xt asserted ok).run P w = .ok v' w ∧ VRel m v v' := by
  unfold typeAssertA at h
  split at h
  · cases h
  · rename_i d hni hd
    have hfail : ∀ {z : Value} {i : TypeInfo}, P.info? asserted = some i → i.zero = some z → (zeroValue asserted).run P w = .ok z w := by
      intro z i h1 h2; simp [zeroValue, typeInfo, h1, h2]
    cases hx with
    | iface t u u' hu =>
      simp only at h
      split at h
      · rename_i ht
        subst ht
        simp at h
        subst h
        cases ok with
        | true =>
          refine ⟨.tuple #[u', .bool true], ?_, tuple2_rel hu (.bool true)⟩
          unfold Instr.typeAssert
          rw [Sem.run_bind, run_underlying hd, Result.andThen_ok]
          cases d <;> first | (exfalso; exact hni _ rfl) | simp
        | false =>
          refine ⟨u', ?_, hu⟩
          unfold Instr.typeAssert
          rw [Sem.run_bind, run_underlying hd, Result.andThen_ok]
          cases d <;> first | (exfalso; exact hni _ rfl) | simp
      · rename_i ht
        split at h
        · cases h
        rename_i hok
        simp at hok
        subst hok
        split at h
        · rename_i i hi
          split at h
          · rename_i z hz
            split at h
            · rename_i hp
              simp at h
              subst h
              refine ⟨.tuple #[z, .bool false], ?_, tuple2_rel (plainV_rel m hp) (.bool false)⟩
              unfold Instr.typeAssert
              rw [Sem.run_bind, run_underlying hd, Result.andThen_ok]
              cases d <;> first | (exfalso; exact hni _ rfl) | simp [ht, hfail hi hz]
            · cases h
          · cases h
        · cases h
    | nilIface =>
      simp only at h
      split at h
      · cases h
      rename_i hok
      simp at hok
      subst hok
      split at h
      · rename_i i hi
        split at h
        · rename_i z hz
          split at h
          · rename_i hp
            simp at h
            subst h
            refine ⟨.tuple #[z, .bool false], ?_, tuple2_rel (plainV_rel m hp) (.bool false)⟩
            unfold Instr.typeAssert
            rw [Sem.run_bind, run_underlying hd, Result.andThen_ok]
            cases d <;> first | (exfalso; exact hni _ rfl) | simp [hfail hi hz]
          · cases h
        · cases h
      · cases h
    | _ => simp at h
  · cases h

def makeSliceA (P : Program) (own : List Blk) (t : TypeId) (l c : Value) : Option (Value × List Blk) :=
  match P.underlying t, l, c with
  | some (.slice e), .int _ l, .int _ c => match P.info? e with
    | some i => match i.zero with
      | some z => if z.cells.toList.all plain0 && (0 ≤ l && l ≤ c && c ≤ 9223372036854775807 && i.bytes * c ≤ 281474976710656) then
          some (.slice (some (nextAddr own)) l.toNat (c.toNat + 1), own ++ [{ cells := (zeroRow z.cells (c.toNat * i.size)).toList, elem := e }])
        else none
      | none => none
    | none => none
  | _, _, _ => none
theorem makeSliceA_rel (P : Program) (hr : Rep w0 m own w) {t : TypeId} {l l' c c' v : Value} {own' : List Blk} (hl : VRel m l l') (hc : VRel m c c') (h : makeSliceA P own t l c = some (v, own')) :
    ∃ v' w' m', (Instr.makeSlice t l' c').run P w = .ok v' w' ∧ VRel m' v v' ∧ Rep w0 m' own' w' ∧ Step m own w m' own' w' := by
  unfold makeSliceA at h
  split at h
  · rename_i e k1 l k2 c ht
    cases hl; cases hc
    split at h
    · rename_i i hi
      split at h
      · rename_i z hz
        split at h
        · rename_i hcond
          simp only [Bool.and_eq_true, decide_eq_true_eq] at hcond
          obtain ⟨hp, ⟨⟨h0, hlc⟩, hcm⟩, hby⟩ := hcond
          simp at h
          obtain ⟨rfl, rfl⟩ := h
          have hpl := plains_rel m (zeroRow_plain hp (c.toNat * i.size))
          obtain ⟨g1, g2, gok, ga, g3, g4⟩ := newCells_rel P hr hpl e
          refine ⟨.slice (some ⟨w.heap.size, 0, none⟩) l.toNat c.toNat, _, _, ?_, ?_, g3, g4⟩
          · exact run_make w t e i z ht hi hz k1 k2 l c h0 hlc hby hcm
          · rw [← ga]
            exact .slice _ _ _ _ gok (by omega) (.inr rfl) (fun h => by omega)
        · cases h
      · cases h
    · cases h
  · cases h

theorem run_buildSlice (P : Program) (w : World) {t e : TypeId} {i : TypeInfo} {z : Value} (ht : P.underlying t = some (.slice e)) (hi : P.info? e = some i) (hz : i.zero = some z) (len : Nat) (parts : Array (Nat × Value)) {cells : Array Value}
    (hle : len * i.size ≤ 16777216) (hf : Instr.fill (fun j => some (j * i.size, i.size)) (madeCells z.cells (len * i.size)) parts.toList = some cells) :
    (Instr.buildSlice t len parts).run P w = .ok (.slice (some ⟨w.heap.size, 0, none⟩) len len) (w.alloc (.cells cells e)) := by
  have hn : ¬ (16777216 < len * i.size) := by omega
  by_cases h0 : len * i.size = 0
  · rw [h0] at hf
    have hf' : Instr.fill (fun j => some (j * i.size, i.size)) #[] parts.toList = some cells := by
      rw [← hf]; congr 1; simp [madeCells, Array.range_zero']
    simp only [Instr.buildSlice, Sem.run_bind, run_underlying ht, Result.andThen_ok, sizeOf, typeInfo, run_program, hi, Sem.run_pure, h0]
    simp [Array.range_zero', hf', newRow]
  · simp only [Instr.buildSlice, Sem.run_bind, run_underlying ht, Result.andThen_ok, sizeOf, typeInfo, run_program, hi, Sem.run_pure]
    have hf' : Instr.fill (fun j => some (j * i.size, i.size)) (Array.map (fun x => z.cells[x % z.cells.size]!) (Array.range (len * i.size))) parts.toList = some cells := hf
    simp [hn, h0, zeroValue, typeInfo, hi, hz, hf', newRow]
def zeroPlain (P : Program) (t : TypeId) : Bool :=
  match P.info? t with
  | some i => match i.zero with
    | some z => z.cells.toList.all plain0
    | none => true
  | none => true
def buildSliceA (P : Program) (own : List Blk) (t : TypeId) (len : Nat) (parts : List (Nat × Value)) : Option (Value × List Blk) :=
  match P.underlying t with
  | some (.slice e) => match P.info? e with
    | some i => match i.zero with
      | some z => if !(z.cells.toList.all plain0 && len * i.size ≤ 16777216) then none else
        match Instr.fill (fun j => some (j * i.size, i.size)) (zeroRow z.cells (len * i.size)) parts with
        | some cells => some (.slice (some (nextAddr own)) len (len + 1), own ++ [{ cells := cells.toList, elem := e }])
        | none => none
      | none => none
    | none => none
  | _ => none
theorem buildSliceA_rel (P : Program) (hr : Rep w0 m own w) {t : TypeId} {len : Nat} {ρ ρ' : Operand → Value} {parts : Array (Nat × Operand)} (hp : ∀ p ∈ parts.toList, VRel m (ρ p.2) (ρ' p.2)) {v : Value} {own' : List Blk}
    (h : buildSliceA P own t len (parts.toList.map fun p => (p.1, ρ p.2)) = some (v, own')) :
    ∃ v' w' m', (Instr.buildSlice t len (parts.map fun p => (p.1, ρ' p.2))).run P w = .ok v' w' ∧ VRel m' v v' ∧ Rep w0 m' own' w' ∧ Step m own w m' own' w' := by
  unfold buildSliceA at h
  split at h
  · rename_i e ht
    split at h
    · rename_i i hi
      split at h
      · rename_i z hz
        split at h
        · cases h
        rename_i hc
        simp only [Bool.not_eq_true, Bool.not_eq_false', Bool.and_eq_true, decide_eq_true_eq] at hc
        obtain ⟨hpl, hle⟩ := hc
        split at h
        · rename_i cells hf
          simp at h
          obtain ⟨rfl, rfl⟩ := h
          obtain ⟨cells', hf', hcr⟩ := fill_rel (m := m) _ _ hp _ _ _ (plains_rel m (zeroRow_plain hpl (len * i.size))) hf
          obtain ⟨g1, g2, gok, ga, g3, g4⟩ := newCells_rel P hr hcr e
          refine ⟨.slice (some ⟨w.heap.size, 0, none⟩) len len, _, _, ?_, ?_, g3, g4⟩
          · exact run_buildSlice P w ht hi hz len _ hle (by rw [Array.toList_map]; exact hf')
          · rw [← ga]
            exact .slice _ _ _ _ gok (Nat.le_refl _) (.inr rfl) (fun h => by omega)
        · cases h
      · cases h
    · cases h
  · cases h

/-! A call. -/
def lenA (P : Program) (t : TypeId) (x : Value) : Option Value :=
  match P.underlying t, x with
  | some (.slice _), .slice _ n _ => some (.int .i64 n)
  | _, _ => none
def calleeA (x : Value) : Option (FuncId × List Value × List Value) :=
  match x with
  | .func (.func g) f c => some (g, f.toList, c.toList)
  | _ => none
def callA (P : Program) (out : Nat → Nat → Option Value) (own : List Blk) (ρ : Operand → Value) (c : Call) (ty : TypeId) : Option (AR × List Blk) :=
  match c.callee with
  | .builtin .append => match c.argTypes[0]?, c.argTypes[1]?, c.args.toList with
    | some st, some xt, [s, x] => match appendA P out own st xt (ρ s) (ρ x) with
      | some (v, own') => some (.value v, own')
      | none => none
    | _, _, _ => none
  | .builtin .recover => some (.recover, own)
  | .builtin b =>
    match b, c.argTypes.toList, c.args.toList with
    | .len, [t], [x] => match lenA P t (ρ x) with
      | some v => some (.value v, own)
      | none => if plainV (ρ x) then
          match pureN P (builtin b c.argTypes ty (c.args.map isConstOp) (c.args.map ρ)) with
          | some v => some (.value v, own)
          | none => none
        else none
    | _, _, _ => if allPlain (c.args.toList.map ρ) then
        match pureN P (builtin b c.argTypes ty (c.args.map isConstOp) (c.args.map ρ)) with
        | some v => some (.value v, own)
        | none => none
      else none
  | .value f => match calleeA (ρ f) with
    | some (g, first, cap) => match P.funcs[g]? with
      | some fn =>
        let args := first ++ c.args.toList.map ρ ++ cap
        if fn.name == "runtime.NumGoroutine" then none else
        if fn.body.isSome then some (.enter g args, own) else
        if allPlain args then
          match pureN P (callFunc g args.toArray) with
          | some v => some (.value v, own)
          | none => none
        else none
      | none => none
    | none => none
  | .invoke _ _ => none

def deferA (ρ : Operand → Value) (c : Call) : Option (FuncId × List Value) :=
  match c.callee with
  | .value f => match calleeA (ρ f) with
    | some (g, first, cap) => some (g, first ++ c.args.toList.map ρ ++ cap)
    | none => none
  | _ => none

/-- One operation. -/
def aop (P : Program) (out : Nat → Nat → Option Value) (own : List Blk) (ρ : Operand → Value) (o : Oper) : Option (AR × List Blk) :=
  let v : Option Value → Option (AR × List Blk) := fun x => match x with
    | some x => some (.value x, own)
    | none => none
  let vo : Option (Value × List Blk) → Option (AR × List Blk) := fun x => match x with
    | some (x, own') => some (.value x, own')
    | none => none
  match o.op with
  | .move x | .assign x => some (.value (ρ x), own)
  | .pick c a b => match ρ c with
    | .bool true => some (.value (ρ a), own)
    | .bool false => some (.value (ρ b), own)
    | _ => none
  | .alloc t => match P.info? t with
    | some i => match i.zero with
      | some z => if z.cells.toList.all plain0 then some (.value (.pointer (some (nextAddr own))), own ++ [{ cells := z.cells.toList, elem := t }]) else none
      | none => none
    | none => none
  | .box t x => some (.value (.pointer (some (nextAddr own))), own ++ [{ cells := (ρ x).cells.toList, elem := t }])
  | .build t parts => if zeroPlain P t then
      match P.built t (parts.toList.map fun p => (p.1, ρ p.2)) with
      | some r => some (.value (.agg r), own)
      | none => none
    else none
  | .buildSlice t len parts => vo (buildSliceA P own t len (parts.toList.map fun p => (p.1, ρ p.2)))
  | .load t a => v (loadA P out own t (ρ a))
  | .store t a x => match storeVA P own t (ρ a) (ρ x) with
    | some own' => some (.value undef, own')
    | none => none
  | .nilCheck x => v (nilCheckA (ρ x))
  | .binOp op t x y _ =>
    if plainV (ρ x) && plainV (ρ y) then v (pureV P (do eqGuard op t x y (ρ x) (ρ y); binOp op t (ρ x) (ρ y))) else
    match op with
    | .eql => match eqNilA P t x y (ρ x) (ρ y) with
      | some b => some (.value (.bool b), own)
      | none => none
    | .neq => match eqNilA P t x y (ρ x) (ρ y) with
      | some b => some (.value (.bool (!b)), own)
      | none => none
    | _ => none
  | .unOp op _ x => if plainV (ρ x) then v (pureV P (Op.unary op (ρ x))) else none
  | .convert s d x => vo (convA P out own s d (ρ x))
  | .makeInterface t x => match P.underlying t with
    | some (.interface _) => none
    | some _ => some (.value (.iface t (ρ x)), own)
    | none => none
  | .makeFunc fn f c => some (.value (.func fn (f.map ρ) (c.map ρ)), own)
  | .makeSlice t l c => vo (makeSliceA P own t (ρ l) (ρ c))
  | .slice t x lo hi mx =>
    match ρ x with
    | .string s => if allPlain (lo.toList.map ρ) && allPlain (hi.toList.map ρ) && allPlain (mx.toList.map ρ) then v (pureV P (Instr.sliceAt t (.string s) (lo.map ρ) (hi.map ρ) (mx.map ρ))) else none
    | _ => v (sliceA P own t (ρ x) (lo.map ρ) (hi.map ρ) (mx.map ρ))
  | .fieldAddr t x f => v (fieldAddrA P t (ρ x) f)
  | .field t x f => v (fieldA P t (ρ x) f)
  | .indexAddr t x i => v (indexAddrA P t (ρ x) (ρ i))
  | .index t x i => if plainV (ρ x) && plainV (ρ i) then v (pureV P (Instr.index t (ρ x) (ρ i))) else none
  | .extract x i => v (extractA (ρ x) i)
  | .typeAssert x _ a ok => v (typeAssertA P (ρ x) a ok)
  | .call c => callA P out own ρ c o.type
  | .defer c => match deferA ρ c with
    | some (g, args) => some (.defer g args, own)
    | none => none
  | .panic x => match ρ x with
    | .iface t u => some (.panic (.iface t u), own)
    | _ => none
  | _ => none

/-- What the world's operation comes to. -/
def OpOK (P : Program) (w0 : World) (m : M) (own : List Blk) (w : World) (o : Oper) (a : Act) (r : AR) (own' : List Blk) : Prop :=
  match r with
  | .value v => ∃ v' w' m', ((execOp a.eval o).run P w = .ok (.value v') w' ∨ ((execOp a.eval o).run P w = .ok .skip w' ∧ v' = undef)) ∧ VRel m' v v' ∧ Rep w0 m' own' w' ∧ Step m own w m' own' w'
  | .enter f args => own' = own ∧ ∃ args', (execOp a.eval o).run P w = .ok (.enter f args') w ∧ LRel m args args'.toList
  | .panic v => own' = own ∧ ∃ v', (execOp a.eval o).run P w = .halt (.panic v') w ∧ VRel m v v'
  | .defer f args => own' = own ∧ ∃ dargs cap, (execOp a.eval o).run P w = .ok (.defer { target := .fn (.func f) cap, args := dargs }) w ∧ LRel m args (dargs ++ cap).toList
  | .recover => own' = own ∧ (execOp a.eval o).run P w = .ok .recover w

def plainOper (o : Oper) : Bool := o.op.operands.toList.all plainOperand

theorem map_rel {ρ ρ' : Operand → Value} : ∀ {l : List Operand}, (∀ x ∈ l, VRel m (ρ x) (ρ' x)) → LRel m (l.map ρ) (l.map ρ')
  | [], _ => LRel.nil m
  | x :: l, h => LRel.cons (h x (by simp)) (map_rel (l := l) fun y hy => h y (by simp [hy]))

end
end Go.Sim
