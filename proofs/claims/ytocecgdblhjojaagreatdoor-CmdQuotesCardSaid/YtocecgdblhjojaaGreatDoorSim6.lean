/-
  A calculus of abstract runs, part 6: addresses, parts, comparisons, conversions; one operation whole.
-/
import Derived.Test.YtocecgdblhjojaaGreatDoorSim5
namespace Go.Sim

section
variable {w0 : World} {out : Nat → Nat → Option Value} {m : M} {own : List Blk} {w : World}

def indexAddrA (P : Program) (t : TypeId) (x i : Value) : Option Value :=
  match i with
  | .int _ i => match P.underlying t with
    | some (.slice e) => match P.info? e, x with
      | some ie, .slice (some a) n _ => if 0 ≤ i ∧ i < n then some (.pointer (some (a.add (i.toNat * ie.size)))) else none
      | _, _ => none
    | some (.array len e) => match P.info? e, x with
      | some ie, .pointer (some a) => if 0 ≤ i ∧ i < len then some (.pointer (some (a.add (i.toNat * ie.size)))) else none
      | _, _ => none
    | _ => none
  | _ => none
theorem ptr_add {a : Addr} (h : okAddr m a) (n : Nat) : VRel m (.pointer (some (a.add n))) (.pointer (some ((m.addr a).add n))) := by
  rw [← addr_add]; exact .ptr _ (okAddr_add h n)
theorem indexAddrA_rel (P : Program) (w : World) {t : TypeId} {x x' i i' v : Value} (hx : VRel m x x') (hi : VRel m i i') (h : indexAddrA P t x i = some v) :
    ∃ v', (Instr.indexAt t x' i').run P w = .ok v' w ∧ VRel m v v' := by
  cases hi with
  | int k q =>
    simp only [indexAddrA] at h
    split at h
    · rename_i e ht
      have he : P.elem t = e := by simp [Program.elem, ht]
      have ht' : P.underlying t = some (.slice (P.elem t)) := by rw [he]; exact ht
      split at h
      · rename_i ie a n c hie
        split at h
        · rename_i hq
          simp at h
          subst h
          cases hx with
          | slice _ _ _ c' g1 g2 g3 g4 =>
            refine ⟨_, ?_, ptr_add g1 _⟩
            rw [run_indexAt_slice w t _ _ _ k q ht', if_pos hq]
            simp [sizeOf, typeInfo, he, hie]
          | sliceEmpty _ a' _ hc => omega
        · cases h
      · cases h
    · rename_i len e ht
      have he : P.elem t = e := by simp [Program.elem, ht]
      have hl : P.arrayLen t = len := by simp [Program.arrayLen, ht]
      have ht' : P.underlying t = some (.array (P.arrayLen t) (P.elem t)) := by rw [he, hl]; exact ht
      split at h
      · rename_i ie a hie
        split at h
        · rename_i hq
          simp at h
          subst h
          cases hx with
          | ptr _ g1 =>
            refine ⟨_, ?_, ptr_add g1 _⟩
            rw [run_indexAt_array w t _ k q ht', hl, if_pos hq]
            simp [sizeOf, typeInfo, he, hie]
        · cases h
      · cases h
    · cases h
  | _ => simp [indexAddrA] at h

def fieldAddrA (P : Program) (t : TypeId) (x : Value) (f : Nat) : Option Value :=
  match P.underlying t, x with
  | some (.struct fields), .pointer (some a) => match fields[f]? with
    | some fd => match P.info? fd.type with
      | some i => if i.size = 0 then none else some (.pointer (some (a.add fd.offset)))
      | none => none
    | none => none
  | _, _ => none
theorem fieldAddrA_rel (P : Program) (w : World) {t : TypeId} {x x' v : Value} {f : Nat} (hx : VRel m x x') (h : fieldAddrA P t x f = some v) :
    ∃ v', (Instr.fieldAt t x' f).run P w = .ok v' w ∧ VRel m v v' := by
  unfold fieldAddrA at h
  split at h
  · rename_i fields a ht
    split at h
    · rename_i fd hf
      split at h
      · rename_i i hi
        split at h
        · cases h
        rename_i hs
        simp at h
        subst h
        cases hx with
        | ptr _ g1 =>
          refine ⟨_, ?_, ptr_add g1 _⟩
          simp [Instr.fieldAt, run_underlying ht, hf, Instr.sureAddr, fieldPlace, sizeOf, typeInfo, hi, hs]
      · cases h
    · cases h
  · cases h

theorem ARel.extract {x x' : Array Value} (h : ARel m x x') (i j : Nat) : ARel m (x.extract i j) (x'.extract i j) := by
  refine ⟨by simp [h.1], fun k v v' hv hv' => ?_⟩
  rw [Array.getElem?_extract] at hv hv'
  rw [← h.1] at hv'
  split at hv
  · rename_i hk
    rw [if_pos hk] at hv'
    exact h.2 _ v v' hv hv'
  · cases hv

def fieldA (P : Program) (t : TypeId) (x : Value) (f : Nat) : Option Value :=
  match P.underlying t, x with
  | some (.struct fields), .agg cs => match fields[f]? with
    | some fd => match P.underlying fd.type with
      | some d => if isAggD d then match P.info? fd.type with
          | some i => some (.agg (cs.extract fd.offset (fd.offset + i.size)))
          | none => none
        else cs[fd.offset]?
      | none => none
    | none => none
  | _, _ => none
theorem fieldA_rel (P : Program) (w : World) {t : TypeId} {x x' v : Value} {f : Nat} (hx : VRel m x x') (h : fieldA P t x f = some v) :
    ∃ v', (Instr.field t x' f).run P w = .ok v' w ∧ VRel m v v' := by
  unfold fieldA at h
  split at h
  · rename_i fields cs ht
    cases hx with
    | agg _ cs' h1 h2 =>
      split at h
      · rename_i fd hf
        split at h
        · rename_i d hd
          split at h
          · rename_i hag
            split at h
            · rename_i i hi
              simp at h
              subst h
              have := ARel.extract (m := m) (x := cs) (x' := cs') ⟨h1, h2⟩ fd.offset (fd.offset + i.size)
              refine ⟨_, ?_, .agg _ _ this.1 this.2⟩
              simp [Instr.field, run_underlying ht, hf, asAgg, part, run_isAgg P w hd, hag, sizeOf, typeInfo, hi]
            · cases h
          · rename_i hag
            obtain ⟨v', h3, h4⟩ := (ARel.toList (m := m) (x := cs) (x' := cs') ⟨h1, h2⟩).get (i := fd.offset) (v := v) (by simpa using h)
            refine ⟨v', ?_, h4⟩
            simp at h3
            simp [Instr.field, run_underlying ht, hf, asAgg, part, run_isAgg P w hd, hag, h3]
        · cases h
      · cases h
  · cases h

def extractA (x : Value) (i : Nat) : Option Value :=
  match x with
  | .tuple vs => vs[i]?
  | _ => none
theorem extractA_rel (P : Program) (w : World) {x x' v : Value} {i : Nat} (hx : VRel m x x') (h : extractA x i = some v) : ∃ v', (Instr.extract x' i).run P w = .ok v' w ∧ VRel m v v' := by
  unfold extractA at h
  split at h
  · rename_i vs
    cases hx with
    | tuple _ vs' h1 h2 =>
      obtain ⟨v', h3, h4⟩ := (ARel.toList (m := m) (x := vs) (x' := vs') ⟨h1, h2⟩).get (i := i) (v := v) (by simpa using h)
      simp at h3
      exact ⟨v', by simp [Instr.extract, h3], h4⟩
  · cases h

def nilCheckA : Value → Option Value
  | .pointer (some a) => some (.pointer (some a))
  | .func (.func f) x y => some (.func (.func f) x y)
  | .iface t v => some (.iface t v)
  | _ => none

/-! A comparison with nil, or of two places in one block. -/
def isNilA : Value → Option Bool
  | .pointer none => some true
  | .pointer (some _) => some false
  | .slice none 0 0 => some true
  | .slice (some _) _ _ => some false
  | .nilFunc => some true
  | .func _ _ _ => some false
  | .nilIface => some true
  | .iface _ _ => some false
  | _ => none
def eqKind (d : TypeDesc) (x : Value) : Bool :=
  match d, x with
  | .pointer _, .pointer _ => true
  | .slice _, .slice _ _ _ => true
  | .func _ _ _, .nilFunc => true
  | .func _ _ _, .func _ _ _ => true
  | .interface _, .nilIface => true
  | .interface _, .iface _ _ => true
  | _, _ => false
def isConstOp : Operand → Bool
  | .const _ => true
  | _ => false
/-- Is one of the two nil, by its type? Then: are they equal? -/
def eqNilA (P : Program) (t : TypeId) (xo yo : Operand) (x y : Value) : Option Bool :=
  match P.underlying t with
  | some d =>
    if !(eqKind d x && eqKind d y) then none else
    match isNilA x, isNilA y with
    | some a, some b => if a then (if b then (if (isConstOp xo || isConstOp yo) then some true else none) else some false) else if b then some false else none
    | _, _ => none
  | none => none
theorem isNil_rel {x x' : Value} (h : VRel m x x') : isNilA x' = isNilA x := by cases h <;> rfl
theorem eqKind_rel {x x' : Value} (h : VRel m x x') (d : TypeDesc) : eqKind d x' = eqKind d x := by cases h <;> cases d <;> rfl
theorem equalIn_nil (P : Program) (w : World) {t : TypeId} {d : TypeDesc} (hd : P.underlying t = some d) (n : Nat) {x y : Value} (kx : eqKind d x = true) (ky : eqKind d y = true) {a b : Bool} (ha : isNilA x = some a) (hb : isNilA y = some b)
    (hab : a = true ∨ b = true) : (Op.equalIn (n + 1) t x y).run P w = .ok (a && b) w := by
  cases d with
  | pointer e =>
    cases x <;> simp [eqKind] at kx
    cases y <;> simp [eqKind] at ky
    rename_i p q
    cases p <;> cases q <;> simp [isNilA] at ha hb <;> subst ha <;> subst hb <;> first | (simp at hab; done) | (unfold Op.equalIn; rw [Sem.run_bind, run_underlying hd]; rfl)
  | slice e =>
    have hs : ∀ {z : Value} {q : Bool}, eqKind (.slice e) z = true → isNilA z = some q → (z = .slice none 0 0 ∧ q = true) ∨ ∃ p n c, z = .slice (some p) n c ∧ q = false := by
      intro z q hk hn
      cases z <;> simp [eqKind] at hk
      rename_i p n c
      cases p with
      | some p => simp [isNilA] at hn; exact .inr ⟨p, n, c, rfl, hn⟩
      | none => cases n <;> cases c <;> simp [isNilA] at hn; exact .inl ⟨rfl, hn⟩
    rcases hs kx ha with ⟨rfl, rfl⟩ | ⟨p, n1, c1, rfl, rfl⟩ <;> rcases hs ky hb with ⟨rfl, rfl⟩ | ⟨q, n2, c2, rfl, rfl⟩ <;>
      first | (simp at hab; done) | (unfold Op.equalIn; rw [Sem.run_bind, run_underlying hd]; rfl)
  | func p r v =>
    cases x <;> simp [eqKind] at kx <;> cases y <;> simp [eqKind] at ky <;> simp [isNilA] at ha hb <;> subst ha <;> subst hb <;> first | (simp at hab; done) | (unfold Op.equalIn; rw [Sem.run_bind, run_underlying hd]; rfl)
  | interface ms =>
    cases x <;> simp [eqKind] at kx <;> cases y <;> simp [eqKind] at ky <;> simp [isNilA] at ha hb <;> subst ha <;> subst hb <;> first | (simp at hab; done) | (unfold Op.equalIn; rw [Sem.run_bind, run_underlying hd]; rfl)
  | _ => cases x <;> simp [eqKind] at kx
theorem binOp_kind (t : TypeId) {d : TypeDesc} {x y : Value} (kx : eqKind d x = true) (ky : eqKind d y = true) :
    binOp .eql t x y = (do pure (.bool (← Op.equal t x y))) ∧ binOp .neq t x y = (do pure (.bool (!(← Op.equal t x y)))) := by
  cases d <;> cases x <;> (try (simp only [eqKind, Bool.false_eq_true] at kx; done)) <;> cases y <;> (try (simp only [eqKind, Bool.false_eq_true] at ky; done)) <;> exact ⟨rfl, rfl⟩
theorem eqGuard_kind (op : BinOp) (t : TypeId) (xo yo : Operand) {d : TypeDesc} {x y : Value} (kx : eqKind d x = true) (ky : eqKind d y = true) (h : isNilA x = some false ∨ isNilA y = some false ∨ isConstOp xo = true ∨ isConstOp yo = true) :
    eqGuard op t xo yo x y = pure () := by
  cases x <;> first
    | exact eqGuard_at_pointer ..
    | exact eqGuard_at_slice ..
    | exact eqGuard_at_func ..
    | exact eqGuard_at_nilFunc ..
    | exact eqGuard_at_iface ..
    | (exfalso; cases d <;> simp [eqKind] at kx; done)
    | skip
  cases y <;> first
    | exact eqGuard_nil_iface ..
    | (exfalso; cases d <;> simp [eqKind] at kx ky; done)
    | skip
  rcases h with h | h | h | h
  · simp [isNilA] at h
  · simp [isNilA] at h
  · cases xo <;> simp [isConstOp] at h; exact eqGuard_nil_constL ..
  · cases yo <;> simp [isConstOp] at h; exact eqGuard_nil_constR ..
theorem eqNilA_run (P : Program) (w : World) {t : TypeId} {xo yo : Operand} {x x' y y' : Value} (hx : VRel m x x') (hy : VRel m y y') {b : Bool} (h : eqNilA P t xo yo x y = some b) :
    (do eqGuard .eql t xo yo x' y'; binOp .eql t x' y').run P w = .ok (.bool b) w ∧ (do eqGuard .neq t xo yo x' y'; binOp .neq t x' y').run P w = .ok (.bool (!b)) w := by
  unfold eqNilA at h
  split at h
  case h_2 => cases h
  rename_i d hd
  split at h
  · cases h
  rename_i hk
  simp at hk
  obtain ⟨kx, ky⟩ := hk
  rw [← eqKind_rel hx] at kx
  rw [← eqKind_rel hy] at ky
  rw [← isNil_rel hx, ← isNil_rel hy] at h
  split at h
  case h_2 => cases h
  rename_i a c ha hc
  have hb : (a = true ∨ c = true) ∧ b = (a && c) ∧ (isNilA x' = some false ∨ isNilA y' = some false ∨ isConstOp xo = true ∨ isConstOp yo = true) := by
    cases a <;> cases c <;> simp at h
    · exact ⟨.inr rfl, by rw [h]; rfl, .inl ha⟩
    · exact ⟨.inl rfl, by rw [h]; rfl, .inr (.inl hc)⟩
    · exact ⟨.inl rfl, by rw [h.2]; rfl, .inr (.inr h.1)⟩
  obtain ⟨h1, rfl, h3⟩ := hb
  have he : (Op.equal t x' y').run P w = .ok (a && c) w := equalIn_nil P w hd 9999 kx ky ha hc h1
  obtain ⟨b1, b2⟩ := binOp_kind t kx ky
  rw [eqGuard_kind .eql t xo yo kx ky h3, eqGuard_kind .neq t xo yo kx ky h3, b1, b2]
  simp [he]

end
end Go.Sim
