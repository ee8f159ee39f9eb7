/-
  A calculus of abstract runs, part 9: code, calls.
-/
import Derived.Test.YtocecgdblhjojaaGreatDoorSim8
import Derived.Tactics
namespace Go.Sim

structure AA where
  t : List Value
  ds : List (FuncId × List Value) := []

inductive AExit where
  | normal
  | exit (id : Nat)
  | ret
  | panic (v : Value)
inductive AEnd where
  | returned (v : Value)
  | panicked (v : Value)

def DRel (m : M) (ds : List (FuncId × List Value)) (l : List Deferred) : Prop :=
  ds.length = l.length ∧ ∀ (i : Nat) (d : FuncId × List Value) (d' : Deferred), ds[i]? = some d → l[i]? = some d' → ∃ dargs cap, d' = { target := .fn (.func d.1) cap, args := dargs } ∧ LRel m d.2 (dargs ++ cap).toList
structure ActRel (m : M) (s : AA) (a : Act) : Prop where
  t : TRel m s.t a.tmps
  ds : DRel m s.ds a.defers
def ExRel (m : M) : AExit → Exit → Prop
  | .normal, .normal => True
  | .exit i, .exit j => i = j
  | .ret, .ret => True
  | .panic v, .panic ch => ∃ v', ch = [{ v := v', recovered := false }] ∧ VRel m v v'
  | _, _ => False
def EndRel (m : M) : AEnd → Ending → Prop
  | .returned v, .returned v' => VRel m v v'
  | .panicked v, .panicked ch => ∃ v', ch = [{ v := v', recovered := false }] ∧ VRel m v v'
  | _, _ => False

theorem DRel.mono {m m' : M} (h : Ext m m') {ds : List (FuncId × List Value)} {l : List Deferred} (hd : DRel m ds l) : DRel m' ds l :=
  ⟨hd.1, fun i d d' a b => let ⟨x, y, e, r⟩ := hd.2 i d d' a b; ⟨x, y, e, r.mono h⟩⟩
theorem ActRel.mono {m m' : M} (h : Ext m m') {s : AA} {a : Act} (hd : ActRel m s a) : ActRel m' s a := ⟨LRel.mono h hd.t, hd.ds.mono h⟩

/-- A slot of which nothing is known. -/
def hole : Value := .chan (some 0)
def PRel (m : M) (t : List Value) (a : Array Value) : Prop := t.length = a.size ∧ ∀ (i : Nat) (v v' : Value), t[i]? = some v → a[i]? = some v' → v = hole ∨ VRel m v v'
/-- Behind a panic some slots may be unknown. -/
def XRel (m : M) : AExit → AA → Act → Prop
  | .panic _, s, a => PRel m s.t a.tmps ∧ DRel m s.ds a.defers
  | _, s, a => ActRel m s a
theorem TRel.toP {m : M} {t : List Value} {a : Array Value} (h : TRel m t a) : PRel m t a :=
  ⟨by have := h.1; simpa using this, fun i v v' h1 h2 => .inr (h.2 i v v' h1 (by simpa using h2))⟩
theorem ActRel.x {m : M} {s : AA} {a : Act} (h : ActRel m s a) (ae : AExit) : XRel m ae s a := by
  cases ae with
  | panic v => exact ⟨TRel.toP h.t, h.ds⟩
  | _ => exact h

/-- What lies behind, told abstractly. -/
def Post (w0 : World) (m : M) (own : List Blk) (w : World) (Q : AExit → AA → List Blk → Prop) : Exit → Act → World → Prop :=
  fun e a' w' => ∃ ae s' own' m', Q ae s' own' ∧ ExRel m' ae e ∧ XRel m' ae s' a' ∧ Rep w0 m' own' w' ∧ Step m own w m' own' w'
def AWp (P : Program) (w0 : World) (c : Code) (Q : AExit → AA → List Blk → Prop) (s : AA) (own : List Blk) : Prop :=
  ∀ m w a, Rep w0 m own w → ActRel m s a → c.wp P (Post w0 m own w Q) a w
def ACalls (P : Program) (w0 : World) (f : FuncId) (args : List Value) (own : List Blk) (R : AEnd → List Blk → Prop) : Prop :=
  ∀ m w (args' : Array Value), Rep w0 m own w → LRel m args args'.toList →
    Calls P f args' w fun e w' => ∃ ae own' m', R ae own' ∧ EndRel m' ae e ∧ Rep w0 m' own' w' ∧ Step m own w m' own' w'

section
variable {P : Program} {w0 : World} {Q Q' : AExit → AA → List Blk → Prop} {s : AA} {own : List Blk}

theorem AWp.mono {c : Code} (h : AWp P w0 c Q s own) (hq : ∀ e s o, Q e s o → Q' e s o) : AWp P w0 c Q' s own :=
  fun m w a hr ha => wp_mono (h m w a hr ha) fun _ _ _ ⟨ae, s', o', m', q, r⟩ => ⟨ae, s', o', m', hq _ _ _ q, r⟩
theorem ACalls.mono {f : FuncId} {args : List Value} {R R' : AEnd → List Blk → Prop} (h : ACalls P w0 f args own R) (hq : ∀ e o, R e o → R' e o) : ACalls P w0 f args own R' :=
  fun m w a hr ha => (h m w a hr ha).mono fun _ _ ⟨ae, o', m', q, r⟩ => ⟨ae, o', m', hq _ _ q, r⟩

theorem post_here {m : M} {w : World} {a : Act} (hr : Rep w0 m own w) (ha : ActRel m s a) {ae : AExit} {e : Exit} (he : ExRel m ae e) (h : Q ae s own) : Post w0 m own w Q e a w :=
  ⟨ae, s, own, m, h, he, ha.x ae, hr, Step.refl _ _ _⟩
theorem awp_skip (h : Q .normal s own) : AWp P w0 .skip Q s own := fun _ _ _ hr ha => wp_skip (post_here hr ha (ae := .normal) trivial h)
theorem awp_label {l : Nat} (h : Q .normal s own) : AWp P w0 (.label l) Q s own := fun _ _ _ hr ha => wp_label (post_here hr ha (ae := .normal) trivial h)
theorem awp_exit {id : Nat} (h : Q (.exit id) s own) : AWp P w0 (.exit id) Q s own := fun _ _ _ hr ha => wp_exit (post_here hr ha (ae := .exit id) rfl h)
theorem awp_ret (h : Q .ret s own) : AWp P w0 .ret Q s own := fun _ _ _ hr ha => wp_ret (post_here hr ha (ae := .ret) trivial h)

def AExit.then (next : AA → List Blk → Prop) (Q : AExit → AA → List Blk → Prop) : AExit → AA → List Blk → Prop
  | .normal, s, o => next s o
  | e, s, o => Q e s o

theorem post_trans {m m1 : M} {own1 : List Blk} {w w1 : World} {e : Exit} {a : Act} {w2 : World} (hs : Step m own w m1 own1 w1) (h : Post w0 m1 own1 w1 Q e a w2) : Post w0 m own w Q e a w2 :=
  let ⟨ae, s', o', m', q, r1, r2, r3, r4⟩ := h
  ⟨ae, s', o', m', q, r1, r2, r3, hs.trans r4⟩

theorem awp_seq {x y : Code} (h : AWp P w0 x (AExit.then (fun s o => AWp P w0 y Q s o) Q) s own) : AWp P w0 (.seq x y) Q s own := by
  intro m w a hr ha
  refine wp_seq (wp_mono (h m w a hr ha) fun e a1 w1 ⟨ae, s1, o1, m1, hq, he, ha1, hr1, hs1⟩ => ?_)
  cases ae <;> cases e <;> first | exact he.elim | skip
  · exact wp_mono (hq m1 w1 a1 hr1 ha1) fun e2 a2 w2 h2 => post_trans hs1 h2
  · exact ⟨_, s1, o1, m1, hq, he, ha1, hr1, hs1⟩
  · exact ⟨.ret, s1, o1, m1, hq, he, ha1, hr1, hs1⟩
  · exact ⟨_, s1, o1, m1, hq, he, ha1, hr1, hs1⟩

theorem cond_rel {m : M} {t : List Value} {a : Act} (h : TRel m t a.tmps) {x : Operand} (hp : plainOperand x = true) {b : Bool} (he : evalA t x = .bool b) : a.eval x = .bool b := by
  have := eval_rel h hp
  rw [he] at this
  generalize a.eval x = z at this
  cases this; rfl

theorem awp_cond {c : Operand} {x y : Code} (hp : plainOperand c = true) {b : Bool} (hc : evalA s.t c = .bool b) (h : AWp P w0 (if b then x else y) Q s own) : AWp P w0 (.cond c x y) Q s own :=
  fun m w a hr ha => wp_cond (cond_rel ha.t hp hc) (h m w a hr ha)

def AExit.inBlock (id : Nat) (Q : AExit → AA → List Blk → Prop) : AExit → AA → List Blk → Prop
  | .exit i, s, o => if i = id then Q .normal s o else Q (.exit i) s o
  | e, s, o => Q e s o
theorem awp_block {id : Nat} {c : Code} (h : AWp P w0 c (AExit.inBlock id Q) s own) : AWp P w0 (.block id c) Q s own := by
  intro m w a hr ha
  refine wp_block (wp_mono (h m w a hr ha) fun e a1 w1 ⟨ae, s1, o1, m1, hq, he, ha1, hr1, hs1⟩ => ?_)
  cases ae <;> cases e <;> first | exact he.elim | skip
  · exact ⟨.normal, s1, o1, m1, hq, he, ha1, hr1, hs1⟩
  · rename_i i j _
    have hij : i = j := he
    subst hij
    simp only [Exit.inBlock, AExit.inBlock] at hq ⊢
    split
    · rename_i e; rw [if_pos e] at hq; exact ⟨.normal, s1, o1, m1, hq, trivial, ha1, hr1, hs1⟩
    · rename_i e; rw [if_neg e] at hq; exact ⟨.exit i, s1, o1, m1, hq, rfl, ha1, hr1, hs1⟩
  · exact ⟨.ret, s1, o1, m1, hq, he, ha1, hr1, hs1⟩
  · exact ⟨_, s1, o1, m1, hq, he, ha1, hr1, hs1⟩

theorem awp_loop {c : Code} (I : Nat → AA → List Blk → Prop) (n : Nat) (h0 : I n s own)
    (round : ∀ n s o, I n s o → AWp P w0 c (AExit.then (fun s' o' => ∃ n', n' < n ∧ I n' s' o') Q) s o) : AWp P w0 (.loop c) Q s own := by
  intro m w a hr ha b k cs
  have key : ∀ n (s1 : AA) (o1 : List Blk) m1 w1 a1, I n s1 o1 → Rep w0 m1 o1 w1 → ActRel m1 s1 a1 → Step m own w m1 o1 w1 →
      ∃ e a' w', Post w0 m own w Q e a' w' ∧ Arrives P (lone (b.at a1 (.code c :: .inLoop c :: k)) cs w1) b k cs e a' w' := by
    intro n
    induction n using Nat.strongRecOn with
    | _ n ih =>
      intro s1 o1 m1 w1 a1 hI hr1 ha1 hs1
      obtain ⟨e, a2, w2, ⟨ae, s2, o2, m2, hq, he, ha2, hr2, hs2⟩, harr⟩ := round n s1 o1 hI m1 w1 a1 hr1 ha1 b (.inLoop c :: k) cs
      cases ae <;> cases e <;> first | exact he.elim | skip
      · obtain ⟨n', hlt, hI'⟩ := hq
        obtain ⟨e3, a3, w3, hq3, harr3⟩ := ih n' hlt s2 o2 m2 w2 a2 hI' hr2 ha2 (hs1.trans hs2)
        exact ⟨e3, a3, w3, hq3, .of_steps (Steps.trans harr (.one step_inLoop)) harr3⟩
      · exact ⟨_, a2, w2, ⟨_, s2, o2, m2, hq, he, ha2, hr2, hs1.trans hs2⟩, .pass (x := .inLoop c) rfl (fun _ _ => .inl (by simp)) harr⟩
      · exact ⟨_, a2, w2, ⟨.ret, s2, o2, m2, hq, he, ha2, hr2, hs1.trans hs2⟩, .pass (x := .inLoop c) rfl (fun _ _ => .inl (by simp)) harr⟩
      · exact ⟨_, a2, w2, ⟨_, s2, o2, m2, hq, he, ha2, hr2, hs1.trans hs2⟩, .pass (x := .inLoop c) rfl (fun _ _ => .inl (by simp)) harr⟩
  obtain ⟨e, a', w', hq, harr⟩ := key n s own m w a h0 hr ha (Step.refl _ _ _)
  exact ⟨e, a', w', hq, .of_steps (.one step_loop) harr⟩

/-! Regions. -/
def putA (t : List Value) (d : Option Tmp) (v : Value) : List Value :=
  match d with
  | some i => t.set i v
  | none => t
theorem put_rel {m : M} {t : List Value} {a : Act} (h : TRel m t a.tmps) (d : Option Tmp) {v v' : Value} (hv : VRel m v v') : TRel m (putA t d v) (a.put d v').tmps := by
  cases d with
  | none => exact h
  | some i =>
    have hl := h.1
    have hl' : t.length = a.tmps.size := by simpa using hl
    refine ⟨by simp [putA, Act.put, hl'], fun j x x' hx hx' => ?_⟩
    simp only [putA] at hx
    have hx'' : (a.tmps.setIfInBounds i v')[j]? = some x' := by
      rw [Array.getElem?_toList] at hx'
      exact hx'
    rcases set_get hx with ⟨rfl, rfl, hlt⟩ | ⟨hne, hx1⟩
    · rw [Array.getElem?_setIfInBounds_self_of_lt (by omega)] at hx''
      cases hx''; exact hv
    · rw [Array.getElem?_setIfInBounds_ne (Ne.symm hne)] at hx''
      exact h.2 j x x' hx1 (by simpa using hx'')
theorem put_defers (a : Act) (d : Option Tmp) (v : Value) : (a.put d v).defers = a.defers := by cases d <;> rfl

def yieldedA (ops : Array Oper) (t : List Value) (j : Nat) : Option Bool :=
  match ((ops[j]?).bind (·.dst)).bind (t[·]?) with
  | some (.bool b) => some b
  | _ => none
def wantedA (ops : Array Oper) (t : List Value) (o : Oper) : Bool :=
  match o.guard with
  | none => true
  | some (j, want) => yieldedA ops t j == some want
theorem yielded_rel {m : M} {ops : Array Oper} {t : List Value} {a : Act} (h : TRel m t a.tmps) (j : Nat) : yielded ops a.tmps j = yieldedA ops t j := by
  unfold yielded yieldedA
  cases hd : (ops[j]?).bind (·.dst) with
  | none => rfl
  | some d =>
    simp only [Option.bind_some]
    cases hi : t[d]? with
    | none =>
      have hl := h.1
      have : a.tmps[d]? = none := by
        rw [Array.getElem?_eq_none]
        have := List.getElem?_eq_none_iff.1 hi
        simp at hl; omega
      rw [this]
    | some v =>
      obtain ⟨v', h1, h2⟩ := h.get hi
      simp at h1
      rw [h1]
      cases h2 <;> rfl
theorem wanted_rel {m : M} {ops : Array Oper} {t : List Value} {a : Act} (h : TRel m t a.tmps) (o : Oper) : Region.wanted o (yielded ops a.tmps) = wantedA ops t o := by
  unfold Region.wanted wantedA
  cases o.guard with
  | none => rfl
  | some g => obtain ⟨j, want⟩ := g; simp only; rw [yielded_rel h]

/-- The operations of a region, in the order of the text. -/
def opsWp (P : Program) (w0 : World) (out : Nat → Nat → Option Value) (ops : Array Oper) (Q : AExit → AA → List Blk → Prop) : List Oper → AA → List Blk → Prop
  | [], s, own => Q .normal s own
  | o :: rest, s, own =>
    if wantedA ops s.t o then
      ∃ r own', aop P out own (evalA s.t) o = some (r, own') ∧
        match r with
        | .value v => opsWp P w0 out ops Q rest { s with t := putA s.t o.dst v } own'
        | .enter f args => ACalls P w0 f args own' fun
            | .returned v, own'' => opsWp P w0 out ops Q rest { s with t := putA s.t o.dst v } own''
            | .panicked v, own'' => Q (.panic v) s own''
        | .panic v => Q (.panic v) s own'
        | .defer f args => opsWp P w0 out ops Q rest { t := putA s.t o.dst undef, ds := (f, args) :: s.ds } own'
        | .recover => False
    else opsWp P w0 out ops Q rest { s with t := putA s.t o.dst undef } own

theorem act_put {m : M} {a : Act} (h : ActRel m s a) (d : Option Tmp) {v v' : Value} (hv : VRel m v v') : ActRel m { s with t := putA s.t d v } (a.put d v') :=
  ⟨put_rel h.t d hv, by rw [put_defers]; exact h.ds⟩

/-- One operation of the world, by an abstract one. -/
theorem op_wp {out : Nat → Nat → Option Value} (ho : OutOK w0 out) {m : M} {w : World} {a : Act} (hr : Rep w0 m own w) (ha : ActRel m s a) {o : Oper} (hp : plainOper o = true) {r : AR} {own' : List Blk}
    (h : aop P out own (evalA s.t) o = some (r, own')) {K : Act → World → Prop} {QQ : Exit → Act → World → Prop}
    (hv : ∀ v, r = .value v → ∀ m' a' w', ActRel m' { s with t := putA s.t o.dst v } a' → Rep w0 m' own' w' → Step m own w m' own' w' → K a' w')
    (he : ∀ f args, r = .enter f args → own' = own → ∀ args', LRel m args args'.toList → Calls P f args' w fun
      | .returned v, w'' => K (a.put o.dst v) w''
      | .panicked chain, w'' => QQ (.panic chain) a w''
      | .outgrown, _ => LetsOut QQ)
    (hpn : ∀ v, r = .panic v → own' = own → ∀ v', VRel m v v' → QQ (.panic [{ v := v', recovered := false }]) a w)
    (hd : ∀ f args, r = .defer f args → own' = own → ∀ a', ActRel m { t := putA s.t o.dst undef, ds := (f, args) :: s.ds } a' → K a' w)
    (hrec : r ≠ .recover) : o.wp P a w K QQ := by
  have := aop_sound hr ho ha.t hp h
  unfold Oper.wp
  cases r with
  | value v =>
    obtain ⟨v', w', m', hrun, hvr, hr', hs'⟩ := this
    rcases hrun with hrun | ⟨hrun, rfl⟩
    · rw [hrun]
      exact hv v rfl m' _ w' (act_put (ha.mono hs'.ext) _ hvr) hr' hs'
    · rw [hrun]
      exact hv v rfl m' _ w' (act_put (ha.mono hs'.ext) _ hvr) hr' hs'
  | enter f args =>
    obtain ⟨e1, args', hrun, hl⟩ := this
    rw [hrun]
    exact he f args rfl e1 args' hl
  | panic v =>
    obtain ⟨e1, v', hrun, hvr⟩ := this
    rw [hrun]
    exact hpn v rfl e1 v' hvr
  | defer f args =>
    obtain ⟨e1, dargs, cap, hrun, hl⟩ := this
    rw [hrun]
    refine hd f args rfl e1 _ ⟨?_, ?_⟩
    · exact put_rel (a := { a with defers := _ :: a.defers }) ha.t _ (undef_rel m)
    · rw [put_defers]
      refine ⟨by simp [ha.ds.1], fun i d d' h1 h2 => ?_⟩
      cases i with
      | zero => simp at h1 h2; subst h1; subst h2; exact ⟨dargs, cap, rfl, hl⟩
      | succ i => exact ha.ds.2 i d d' (by simpa using h1) (by simpa using h2)
  | recover => exact absurd rfl hrec

theorem opsWp_sound {out : Nat → Nat → Option Value} (ho : OutOK w0 out) {ops : Array Oper} : ∀ (l : List Oper), (∀ o ∈ l, plainOper o = true) → ∀ (s : AA) (own : List Blk) m w a, opsWp P w0 out ops Q l s own → Rep w0 m own w → ActRel m s a →
    ∀ m0 own0 w00, Step m0 own0 w00 m own w → wpList P ops (Post w0 m0 own0 w00 Q) l a w
  | [], _, s, own, m, w, a, h, hr, ha, m0, own0, w00, hs => ⟨.normal, s, own, m, h, trivial, ha, hr, hs⟩
  | o :: rest, hp, s, own, m, w, a, h, hr, ha, m0, own0, w00, hs => by
    have ih := opsWp_sound ho (ops := ops) rest (fun x hx => hp x (by simp [hx]))
    simp only [opsWp] at h
    simp only [wpList]
    rw [wanted_rel ha.t]
    split at h
    · rename_i hw
      rw [if_pos hw]
      obtain ⟨r, own', hop, hk⟩ := h
      refine .inl (op_wp ho hr ha (hp o (by simp)) hop ?_ ?_ ?_ ?_ ?_)
      · rintro v rfl m' a' w' h1 h2 h3
        exact ih _ _ m' w' a' hk h2 h1 m0 own0 w00 (hs.trans h3)
      · rintro f args rfl rfl args' hl
        refine (hk m w args' hr hl).mono fun e w' ⟨ae, o', m', hq, he, hr', hs'⟩ => ?_
        cases ae <;> cases e <;> first | exact he.elim | skip
        · exact ih _ _ m' w' _ hq hr' (act_put (ha.mono hs'.ext) _ he) m0 own0 w00 (hs.trans hs')
        · obtain ⟨v', rfl, hv⟩ := he
          exact ⟨.panic _, s, o', m', hq, ⟨v', rfl, hv⟩, (ha.mono hs'.ext).x (.panic _), hr', hs.trans hs'⟩
      · rintro v rfl rfl v' hv
        exact ⟨.panic v, s, _, m, hk, ⟨v', rfl, hv⟩, ha.x (.panic v), hr, hs⟩
      · rintro f args rfl rfl a' ha'
        exact ih _ _ m w a' hk hr ha' m0 own0 w00 hs
      · rintro rfl; exact hk
    · rename_i hw
      rw [if_neg hw]
      exact ih _ _ m w _ h hr (act_put ha _ (undef_rel m)) m0 own0 w00 hs

theorem awp_region {out : Nat → Nat → Option Value} (ho : OutOK w0 out) {id : Nat} {ops : Array Oper} (hp : ops.toList.all plainOper = true) (h : opsWp P w0 out ops Q ops.toList s own) : AWp P w0 (.region id ops false) Q s own :=
  fun m w a hr ha => wp_region_list (opsWp_sound ho ops.toList (fun o ho => List.all_eq_true.1 hp o ho) s own m w a h hr ha m own w (Step.refl _ _ _))

/-! A function. -/
def resA (P : Program) (out : Nat → Nat → Option Value) (own : List Blk) (t : List Value) : List ResultVar → Option (List Value)
  | [] => some []
  | .tmp d :: r => match resA P out own t r with
    | some l => some (t.getD d undef :: l)
    | none => none
  | .cell d e :: r => match loadA P out own e (t.getD d undef) with
    | some v => match resA P out own t r with
      | some l => some (v :: l)
      | none => none
    | none => none
def packA : List Value → Value
  | [v] => v
  | l => .tuple l.toArray
def resF (tmps : Array Value) : ResultVar → Sem Value
  | .tmp t => pure (tmps.getD t undef)
  | .cell a t => do loadVar t (← asAddr (tmps.getD a undef))
theorem results_eq (fn : Func) (tmps : Array Value) : results fn tmps = (do let vs ← fn.results.mapM (resF tmps); pure (if h : vs.size = 1 then vs[0] else .tuple vs)) := by
  unfold results
  congr 1
theorem res_rel {out : Nat → Nat → Option Value} (ho : OutOK w0 out) {m : M} {w : World} {t : List Value} {tmps : Array Value} (hr : Rep w0 m own w) (ht : TRel m t tmps) : ∀ (rs : List ResultVar) (l : List Value), resA P out own t rs = some l →
    ∃ l', (rs.mapM (m := Sem) (resF tmps)).run P w = .ok l' w ∧ LRel m l l'
  | [], l, h => by simp [resA] at h; subst h; exact ⟨[], by simp, LRel.nil m⟩
  | .tmp d :: r, l, h => by
    simp only [resA] at h
    split at h
    · rename_i l1 hl1
      simp at h; subst h
      obtain ⟨l', h1, h2⟩ := res_rel ho hr ht r l1 hl1
      have := eval_rel (a := ⟨tmps, []⟩) ht (x := .tmp d) rfl
      refine ⟨tmps.getD d undef :: l', ?_, LRel.cons this h2⟩
      rw [List.mapM_cons, Sem.run_bind]
      simp only [resF, Sem.run_pure, Result.andThen_ok, Sem.run_bind]
      rw [show (List.mapM (resF tmps) r).run P w = .ok l' w from h1]
      rfl
    · cases h
  | .cell d e :: r, l, h => by
    simp only [resA] at h
    split at h
    · rename_i v hv
      split at h
      · rename_i l1 hl1
        simp at h; subst h
        obtain ⟨l', h1, h2⟩ := res_rel ho hr ht r l1 hl1
        have hx := eval_rel (a := ⟨tmps, []⟩) ht (x := .tmp d) rfl
        obtain ⟨v', g1, g2⟩ := loadA_rel P hr ho hx hv
        refine ⟨v' :: l', ?_, LRel.cons g2 h2⟩
        have hx' : VRel m (t.getD d undef) (tmps.getD d undef) := hx
        have g1' : (Instr.loadAt e (tmps.getD d undef)).run P w = .ok v' w := g1
        have hptr : ∃ ad, tmps.getD d undef = .pointer (some ad) := by
          generalize tmps.getD d undef = y at hx'
          generalize t.getD d undef = y0 at hx' hv
          cases hx' <;> first | exact ⟨_, rfl⟩ | (simp [loadA] at hv; done)
        obtain ⟨ad, had⟩ := hptr
        rw [had] at g1'
        simp only [Instr.loadAt, Instr.sureAddr, Sem.run_bind, Sem.run_pure, Result.andThen_ok] at g1'
        have hfirst : (resF tmps (.cell d e)).run P w = .ok v' w := by
          simp only [resF, Sem.run_bind, had, asAddr, Sem.run_pure, Result.andThen_ok, g1']
        rw [List.mapM_cons, Sem.run_bind, hfirst]
        simp only [Result.andThen_ok, Sem.run_bind]
        rw [show (List.mapM (resF tmps) r).run P w = .ok l' w from h1]
        rfl
      · cases h
    · cases h
theorem results_rel {out : Nat → Nat → Option Value} (ho : OutOK w0 out) {m : M} {w : World} {t : List Value} {tmps : Array Value} (hr : Rep w0 m own w) (ht : TRel m t tmps) {fn : Func} {l : List Value} (h : resA P out own t fn.results.toList = some l) :
    ∃ v', (results fn tmps).run P w = .ok v' w ∧ VRel m (packA l) v' := by
  obtain ⟨l', h1, h2⟩ := res_rel ho hr ht _ l h
  have hpk : VRel m (packA l) (packA l') := by
    match l, l', h2 with
    | [], l', h2 => rw [h2.eq_nil]; exact .tuple _ _ rfl (by simp)
    | [v], l', h2 =>
      obtain ⟨v', r', rfl, hv, hn⟩ := h2.eq_cons
      rw [hn.eq_nil]; exact hv
    | v :: u :: r, l', h2 =>
      have h3 := h2
      obtain ⟨v', r', rfl, hv, hn⟩ := h2.eq_cons
      obtain ⟨u', r'', rfl, hu, hn'⟩ := hn.eq_cons
      exact .tuple _ _ h3.toArray.1 h3.toArray.2
  refine ⟨packA l', ?_, hpk⟩
  rw [results_eq, Array.mapM_eq_mapM_toList, Sem.run_bind, Sem.run_map, h1]
  simp only [Result.andThen_ok, Sem.run_pure]
  congr 1
  match l' with
  | [] => rfl
  | [v] => rfl
  | v :: u :: r => simp [packA]

/-- What a function's end says, where nothing is deferred. -/
def fnPost (P : Program) (out : Nat → Nat → Option Value) (fn : Func) (R : AEnd → List Blk → Prop) : AExit → AA → List Blk → Prop
  | .normal, s, own | .ret, s, own => s.ds = [] ∧ ∃ l, resA P out own s.t fn.results.toList = some l ∧ R (.returned (packA l)) own
  | .panic v, s, own => s.ds = [] ∧ R (.panicked v) own
  | _, _, _ => False
def enterA (fn : Func) (args : List Value) : AA := { t := args ++ List.replicate (fn.ntmps - args.length) undef }
theorem enter_rel {m : M} {fn : Func} {args : List Value} {args' : Array Value} (h : LRel m args args'.toList) : ActRel m (enterA fn args) { tmps := args' ++ Array.replicate (fn.ntmps - args'.size) undef, defers := [] } := by
  refine ⟨?_, ⟨rfl, by simp [enterA]⟩⟩
  show LRel m (args ++ List.replicate (fn.ntmps - args.length) undef) (args' ++ Array.replicate (fn.ntmps - args'.size) undef).toList
  rw [Array.toList_append]
  refine h.append ⟨by have := h.1; simp at this; simp [this], fun i v v' hv hv' => ?_⟩
  simp [List.getElem?_replicate] at hv hv'
  obtain ⟨_, rfl⟩ := hv
  obtain ⟨_, rfl⟩ := hv'
  exact undef_rel m
theorem acalls_of_awp {out : Nat → Nat → Option Value} (ho : OutOK w0 out) {f : FuncId} {fn : Func} {c : Code} {args : List Value} {R : AEnd → List Blk → Prop} (hf : P.funcs[f]? = some fn) (hb : fn.body = some c)
    (h : AWp P w0 c (fnPost P out fn R) (enterA fn args) own) : ACalls P w0 f args own R := by
  intro m w args' hr hl
  refine calls_of_wp hf hb (wp_mono (h m w _ hr (enter_rel hl)) fun e a' w' ⟨ae, s', o', m', hq, he, ha', hr', hs'⟩ => ?_)
  have hdef : DRel m' s'.ds a'.defers → s'.ds = [] → a'.defers = [] := fun hd e => by
    have := hd.1
    rw [e] at this
    exact List.eq_nil_of_length_eq_zero this.symm
  cases ae <;> cases e <;> first | exact he.elim | exact hq.elim | skip
  · obtain ⟨h1, l, h2, h3⟩ := hq
    obtain ⟨v', g1, g2⟩ := results_rel ho hr' ha'.t h2
    exact ⟨hdef ha'.ds h1, v', g1, .returned (packA l), o', m', h3, g2, hr', hs'⟩
  · obtain ⟨h1, l, h2, h3⟩ := hq
    obtain ⟨v', g1, g2⟩ := results_rel ho hr' ha'.t h2
    exact ⟨hdef ha'.ds h1, v', g1, .returned (packA l), o', m', h3, g2, hr', hs'⟩
  · obtain ⟨h1, h2⟩ := hq
    exact ⟨hdef ha'.2 h1, .panicked _, o', m', h2, he, hr', hs'⟩

end
end Go.Sim
