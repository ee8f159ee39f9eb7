/-
  A calculus of abstract runs, part 16: what is reckoned is so.
-/
import Derived.Test.YtocecgdblhjojaaGreatDoorSim15
namespace Go.Sim

section
variable {P : Program} {w0 : World} {out : Nat → Nat → Option Value} {ops : Array Oper} {call : CallT} {Q : AExit → AA → List Blk → Prop}

def CallOK (P : Program) (w0 : World) (call : CallT) : Prop :=
  ∀ f args own r own', call f args own = some (r, own') → ACalls P w0 f args own fun e o => e = r ∧ o = own'

theorem opsE_sound (hc : CallOK P w0 call) : ∀ (l : List Oper) (s : AA) (own : List Blk) (ex : AExit) (s' : AA) (own' : List Blk), opsE P out ops call l s own = some (ex, s', own') → Q ex s' own' → opsWp P w0 out ops Q l s own
  | [], s, own, ex, s', own', h, hq => by simp [opsE] at h; obtain ⟨rfl, rfl, rfl⟩ := h; exact hq
  | o :: r, s, own, ex, s', own', h, hq => by
    simp only [opsE] at h
    simp only [opsWp]
    split at h
    · rename_i hw
      rw [if_pos hw]
      split at h
      · cases h
      · rename_i v own1 ha
        exact ⟨_, _, ha, opsE_sound hc r _ _ _ _ _ h hq⟩
      · rename_i f args own1 ha
        refine ⟨_, _, ha, ?_⟩
        split at h
        · cases h
        · rename_i v own2 hcall
          refine (hc _ _ _ _ _ hcall).mono ?_
          rintro e o' ⟨rfl, rfl⟩
          exact opsE_sound hc r _ _ _ _ _ h hq
        · rename_i v own2 hcall
          refine (hc _ _ _ _ _ hcall).mono ?_
          rintro e o' ⟨rfl, rfl⟩
          simp at h
          obtain ⟨rfl, rfl, rfl⟩ := h
          exact hq
      · rename_i v own1 ha
        simp at h
        obtain ⟨rfl, rfl, rfl⟩ := h
        exact ⟨_, _, ha, hq⟩
      · rename_i f args own1 ha
        exact ⟨_, _, ha, opsE_sound hc r _ _ _ _ _ h hq⟩
      · cases h
    · rename_i hw
      rw [if_neg hw]
      exact opsE_sound hc r _ _ _ _ _ h hq

/-- A quiet operation leaves abstract memory as it is. -/
theorem aop_quiet {own own' : List Blk} {ρ : Operand → Value} {o : Oper} {r : AR} (hq : isQuietOp P o = true) (h : aop P out own ρ o = some (r, own')) : own' = own := by
  obtain ⟨dst, op, ty, pos, after, guard⟩ := o
  cases op with
  | move x => simp [aop] at h; exact h.2.symm
  | pick c x y =>
    simp only [aop] at h
    split at h
    · simp at h; exact h.2.symm
    · simp at h; exact h.2.symm
    · cases h
  | build t parts =>
    simp only [aop] at h
    split at h
    · split at h
      · simp at h; exact h.2.symm
      · cases h
    · cases h
  | load t x => simp only [aop] at h; split at h <;> first | (cases h; done) | (simp at h; exact h.2.symm)
  | nilCheck x => simp only [aop] at h; split at h <;> first | (cases h; done) | (simp at h; exact h.2.symm)
  | binOp b t x y yt =>
    simp only [aop] at h
    split at h
    · split at h
      · simp at h; exact h.2.symm
      · cases h
    · split at h
      · split at h
        · simp at h; exact h.2.symm
        · cases h
      · split at h
        · simp at h; exact h.2.symm
        · cases h
      · cases h
  | unOp u t x =>
    simp only [aop] at h
    split at h
    · split at h
      · simp at h; exact h.2.symm
      · cases h
    · cases h
  | convert sx d x =>
    simp only [aop] at h
    split at h
    · rename_i v own1 hcv
      simp at h
      obtain ⟨_, rfl⟩ := h
      simp only [isQuietOp] at hq
      unfold convA at hcv
      split at hcv
      · rename_i e h1 h2
        rw [h2] at hq; simp at hq
      · split at hcv
        · split at hcv
          · simp at hcv; exact hcv.2.symm
          · cases hcv
        · cases hcv
      · rename_i e h1 h2
        rw [h2] at hq; simp at hq
      · split at hcv
        · split at hcv
          · simp at hcv; exact hcv.2.symm
          · cases hcv
        · cases hcv
      · cases hcv
    · cases h
  | makeInterface t x =>
    simp only [aop] at h
    split at h
    · cases h
    · simp at h; exact h.2.symm
    · cases h
  | makeFunc fn f c => simp [aop] at h; exact h.2.symm
  | slice t x lo hi mx =>
    simp only [aop] at h
    split at h
    · split at h
      · split at h
        · simp at h; exact h.2.symm
        · cases h
      · cases h
    · split at h
      · simp at h; exact h.2.symm
      · cases h
  | fieldAddr t x f => simp only [aop] at h; split at h <;> first | (cases h; done) | (simp at h; exact h.2.symm)
  | field t x f => simp only [aop] at h; split at h <;> first | (cases h; done) | (simp at h; exact h.2.symm)
  | indexAddr t x i => simp only [aop] at h; split at h <;> first | (cases h; done) | (simp at h; exact h.2.symm)
  | index t x i =>
    simp only [aop] at h
    split at h
    · split at h
      · simp at h; exact h.2.symm
      · cases h
    · cases h
  | extract x i => simp only [aop] at h; split at h <;> first | (cases h; done) | (simp at h; exact h.2.symm)
  | typeAssert x xt t ok => simp only [aop] at h; split at h <;> first | (cases h; done) | (simp at h; exact h.2.symm)
  | call c =>
    obtain ⟨callee, cargs, cat⟩ := c
    simp only [aop, callA] at h
    cases callee with
    | builtin b =>
      cases b <;> simp only [isQuietOp, Bool.false_eq_true] at hq <;> simp only at h <;> (repeat' split at h) <;> first | (cases h; done) | (simp at h; exact h.2.symm)
    | value f => simp [isQuietOp] at hq
    | invoke x n => simp [isQuietOp] at hq
  | _ => simp [isQuietOp] at hq

theorem qsE_sound {K : AA → Prop} : ∀ (l : List Nat) (s : AA) (own : List Blk) (s1 : AA), qsE P out ops l s own = some s1 → K s1 → qsWp P out ops l s own K
  | [], s, own, s1, h, hk => by simp [qsE] at h; subst h; exact hk
  | i :: r, s, own, s1, h, hk => by
    simp only [qsE] at h
    split at h
    · cases h
    rename_i o ho
    split at h
    · cases h
    rename_i hq
    simp at hq
    split at h
    · rename_i hw
      split at h
      · rename_i v own1 ha
        have := aop_quiet hq ha
        subst this
        exact ⟨o, v, ho, by rw [if_pos hw]; exact ha, qsE_sound r _ _ _ h hk⟩
      · cases h
    · rename_i hw
      exact ⟨o, undef, ho, by rw [if_neg hw], qsE_sound r _ _ _ h hk⟩
theorem rrE_sound {i : Nat} {s : AA} {own : List Blk} (h : rrE P out ops i s own = true) : RR P out ops i s own := by
  unfold rrE at h
  split at h
  · cases h
  rename_i o ho
  simp only [Bool.and_eq_true] at h
  obtain ⟨hq, h⟩ := h
  split at h
  · cases h
  rename_i d hd
  refine ⟨o, d, ho, hd, ?_⟩
  split at h
  · rename_i hw
    rw [if_pos hw]
    split at h
    · rename_i v own1 ha
      have := aop_quiet hq ha
      subst this
      rw [← veq_eq _ _ _ h]; exact ha
    · cases h
  · rename_i hw
    rw [if_neg hw]
    exact veq_eq _ _ _ h
theorem zsE_sound {K : AA → List Blk → Prop} : ∀ (l : List Nat) (s : AA) (own : List Blk) (s1 : AA) (own1 : List Blk), zsE P out ops l s own = some (s1, own1) → K s1 own1 → zsWp P out ops l s own K
  | [], s, own, s1, own1, h, hk => by simp [zsE] at h; obtain ⟨rfl, rfl⟩ := h; exact hk
  | i :: r, s, own, s1, own1, h, hk => by
    simp only [zsE] at h
    split at h
    · cases h
    rename_i o ho
    split at h
    · rename_i v own2 ha
      exact ⟨o, v, own2, ho, ha, zsE_sound r _ _ _ _ h hk⟩
    · cases h
theorem all_rr {l : List Nat} {s : AA} {own : List Blk} (h : l.all (fun i => rrE P out ops i s own) = true) : ∀ i ∈ l, RR P out ops i s own :=
  fun i hi => rrE_sound (List.all_eq_true.1 h i hi)

theorem planE_sound (hc : CallOK P w0 call) {qf zf : List Nat} : ∀ (st : List Stage) (lc : List Nat) (s : AA) (own : List Blk) (ex : AExit) (s' : AA) (own' : List Blk), planE P out ops call qf zf lc st s own = some (ex, s', own') → Q ex s' own' →
    planWp P w0 out ops Q qf zf lc st s own
  | [], lc, s, own, ex, s', own', h, hq => by
    simp only [planE] at h
    simp only [planWp]
    split at h
    · cases h
    rename_i s1 hs1
    split at h
    · cases h
    rename_i hrr
    split at h
    · cases h
    rename_i s2 own2 hz
    simp at h
    obtain ⟨rfl, rfl, rfl⟩ := h
    exact qsE_sound _ _ _ _ hs1 ⟨all_rr (by simpa using hrr), zsE_sound _ _ _ _ _ hz hq⟩
  | (qs, zs, e) :: rest, lc, s, own, ex, s', own', h, hq => by
    simp only [planE] at h
    simp only [planWp]
    split at h
    · cases h
    rename_i s1 hs1
    split at h
    · cases h
    rename_i hrr
    split at h
    · cases h
    rename_i s2 own2 hz
    split at h
    · cases h
    rename_i o ho
    refine qsE_sound _ _ _ _ hs1 ⟨all_rr (by simpa using hrr), zsE_sound _ _ _ _ _ hz ⟨o, ho, ?_⟩⟩
    split at h
    · rename_i hw
      rw [if_pos hw]
      split at h
      · cases h
      · rename_i v own3 ha
        exact ⟨_, _, ha, planE_sound hc rest _ _ _ _ _ _ h hq⟩
      · rename_i f args own3 ha
        refine ⟨_, _, ha, ?_⟩
        split at h
        · cases h
        · rename_i v own4 hcall
          refine (hc _ _ _ _ _ hcall).mono ?_
          rintro e o' ⟨rfl, rfl⟩
          exact planE_sound hc rest _ _ _ _ _ _ h hq
        · rename_i v own4 hcall
          refine (hc _ _ _ _ _ hcall).mono ?_
          rintro e o' ⟨rfl, rfl⟩
          simp at h
          obtain ⟨rfl, rfl, rfl⟩ := h
          exact hq
      · rename_i v own3 ha
        simp at h
        obtain ⟨rfl, rfl, rfl⟩ := h
        exact ⟨_, _, ha, hq⟩
      · rename_i f args own3 ha
        exact ⟨_, _, ha, planE_sound hc rest _ _ _ _ _ _ h hq⟩
      · cases h
    · rename_i hw
      rw [if_neg hw]
      exact planE_sound hc rest _ _ _ _ _ _ h hq

theorem execE_sound (hm : P.follows .mixedOrders = true) (ho : OutOK w0 out) (hc : CallOK P w0 call) (lf : Nat) : ∀ (c : Code), codeOk P c = true → ∀ (s : AA) (own : List Blk) (ex : AExit) (s' : AA) (own' : List Blk),
    execE P out call lf c s own = some (ex, s', own') → AWp P w0 c (fun e t o => e = ex ∧ t = s' ∧ o = own') s own := by
  intro c
  induction c with
  | skip => intro _ s own ex s' own' h; simp [execE] at h; obtain ⟨rfl, rfl, rfl⟩ := h; exact awp_skip ⟨rfl, rfl, rfl⟩
  | label l => intro _ s own ex s' own' h; simp [execE] at h; obtain ⟨rfl, rfl, rfl⟩ := h; exact awp_label ⟨rfl, rfl, rfl⟩
  | exit id => intro _ s own ex s' own' h; simp [execE] at h; obtain ⟨rfl, rfl, rfl⟩ := h; exact awp_exit ⟨rfl, rfl, rfl⟩
  | ret => intro _ s own ex s' own' h; simp [execE] at h; obtain ⟨rfl, rfl, rfl⟩ := h; exact awp_ret ⟨rfl, rfl, rfl⟩
  | region id ops d =>
    intro hok s own ex s' own' h
    simp only [codeOk, Bool.and_eq_true] at hok
    simp only [execE] at h
    split at h
    · rename_i hd
      subst hd
      have hp := hok.2
      simp at hp
      exact awp_draw hm ho hp (planE_sound hc _ _ _ _ _ _ _ h ⟨rfl, rfl, rfl⟩)
    · rename_i hd
      have : d = false := by cases d <;> simp_all
      subst this
      exact awp_region ho hok.1 (opsE_sound hc _ _ _ _ _ _ h ⟨rfl, rfl, rfl⟩)
  | seq a b iha ihb =>
    intro hok s own ex s' own' h
    simp only [codeOk, Bool.and_eq_true] at hok
    simp only [execE] at h
    refine awp_seq ?_
    split at h
    · rename_i s1 own1 h1
      refine (iha hok.1 s own _ _ _ h1).mono ?_
      rintro e t o ⟨rfl, rfl, rfl⟩
      exact ihb hok.2 _ _ _ _ _ h
    · rename_i hn
      cases hr : execE P out call lf a s own with
      | none => rw [hr] at h; cases h
      | some r =>
        rw [hr] at h
        simp at h
        subst h
        refine (iha hok.1 s own _ _ _ hr).mono ?_
        rintro e t o ⟨rfl, rfl, rfl⟩
        cases e with
        | normal => exact absurd hr (hn _ _)
        | _ => exact ⟨rfl, rfl, rfl⟩
  | cond c x y ihx ihy =>
    intro hok s own ex s' own' h
    simp only [codeOk, Bool.and_eq_true] at hok
    simp only [execE] at h
    split at h
    · rename_i hb
      exact awp_cond hok.1.1 hb (ihx hok.1.2 _ _ _ _ _ h)
    · rename_i hb
      exact awp_cond hok.1.1 hb (ihy hok.2 _ _ _ _ _ h)
    · cases h
  | block id c ih =>
    intro hok s own ex s' own' h
    simp only [codeOk] at hok
    simp only [execE] at h
    refine awp_block ?_
    split at h
    · rename_i i s1 own1 h1
      refine (ih hok s own _ _ _ h1).mono ?_
      rintro e t o ⟨rfl, rfl, rfl⟩
      simp only [AExit.inBlock]
      split at h
      · rename_i e1
        rw [if_pos e1]
        simp at h
        obtain ⟨rfl, rfl, rfl⟩ := h
        exact ⟨rfl, rfl, rfl⟩
      · rename_i e1
        rw [if_neg e1]
        simp at h
        obtain ⟨rfl, rfl, rfl⟩ := h
        exact ⟨rfl, rfl, rfl⟩
    · rename_i hn
      refine (ih hok s own _ _ _ h).mono ?_
      rintro e t o ⟨rfl, rfl, rfl⟩
      cases e with
      | exit i => exact absurd h (hn _ _ _)
      | _ => exact ⟨rfl, rfl, rfl⟩
  | loop c ih =>
    intro hok s own ex s' own' h
    simp only [codeOk] at hok
    simp only [execE] at h
    refine awp_loop (fun n t o => loopE (execE P out call lf c) n t o = some (ex, s', own')) lf h ?_
    intro n t o hI
    cases n with
    | zero => simp [loopE] at hI
    | succ n =>
      simp only [loopE] at hI
      split at hI
      · rename_i s1 own1 h1
        refine (ih hok t o _ _ _ h1).mono ?_
        rintro e t o ⟨rfl, rfl, rfl⟩
        exact ⟨n, by omega, hI⟩
      · rename_i hn
        refine (ih hok t o _ _ _ hI).mono ?_
        rintro e t o ⟨rfl, rfl, rfl⟩
        cases e with
        | normal => exact absurd hI (hn _ _)
        | _ => exact ⟨rfl, rfl, rfl⟩
  | _ => intro _ s own ex s' own' h; simp [execE] at h

/-! ### What is deferred -/
def ModeRel (m : M) : AMode → FrameMode → Prop
  | .ret, .returning => True
  | .pan v r, .panicking ch => ∃ v', ch = [{ v := v', recovered := r }] ∧ VRel m v v'
  | _, _ => False
theorem ModeRel.mono {m m' : M} (h : Ext m m') {μ : AMode} {u : FrameMode} (hm : ModeRel m μ u) : ModeRel m' μ u := by
  cases μ <;> cases u <;> first | exact hm | skip
  obtain ⟨v', e, hv⟩ := hm
  exact ⟨v', e, hv.mono h⟩
theorem ModeRel.ne_run {m : M} {μ : AMode} {u : FrameMode} (hm : ModeRel m μ u) : u ≠ .run := by
  rintro rfl
  cases μ <;> exact hm
theorem ModeRel.settle {m : M} {μ : AMode} {u : FrameMode} (hm : ModeRel m μ u) : ModeRel m (settleA μ) (settle u) := by
  cases μ with
  | ret => cases u <;> first | exact hm | exact hm.elim
  | pan v r =>
    cases u with
    | panicking ch =>
      obtain ⟨v', rfl, hv⟩ := hm
      cases r with
      | true => exact trivial
      | false => exact ⟨v', rfl, hv⟩
    | _ => exact hm.elim

def PostS (w0 : World) (m : M) (own : List Blk) (w : World) (Q : AExit → AA → AMode → List Blk → Prop) (c₀ : Frame) (cs : List Frame) : Exit → Act → List Frame → World → Prop :=
  fun e a' cs' w' => ∃ ae s' μ' own' m' u', cs' = { c₀ with mode := u' } :: cs ∧ Q ae s' μ' own' ∧ ModeRel m' μ' u' ∧ ExRel m' ae e ∧ XRel m' ae s' a' ∧ Rep w0 m' own' w' ∧ Step m own w m' own' w'
def AWpS (P : Program) (w0 : World) (c : Code) (Q : AExit → AA → AMode → List Blk → Prop) (s : AA) (μ : AMode) (own : List Blk) : Prop :=
  ∀ m w a (c₀ : Frame) cs, Rep w0 m own w → ActRel m s a → ModeRel m μ c₀.mode → c.wpS P (PostS w0 m own w Q c₀ cs) a (c₀ :: cs) w
theorem wpS_mono {c : Code} {Q Q' : Exit → Act → List Frame → World → Prop} {a : Act} {cs : List Frame} {w : World} (h : c.wpS P Q a cs w) (hq : ∀ e a cs w, Q e a cs w → Q' e a cs w) : c.wpS P Q' a cs w :=
  fun b k hb hr => let ⟨e, a', cs', w', q, r⟩ := h b k hb hr; ⟨e, a', cs', w', hq _ _ _ _ q, r⟩
theorem awpS_of_awp {c : Code} {Q : AExit → AA → AMode → List Blk → Prop} {s : AA} {μ : AMode} {own : List Blk} (h : AWp P w0 c (fun e s' o' => Q e s' μ o') s own) : AWpS P w0 c Q s μ own :=
  fun m w a c₀ _ hr ha hm => wpS_of_wp (wp_mono (h m w a hr ha) fun _ _ _ ⟨ae, s', o', m', hq, he, hx, hr', hs⟩ => ⟨ae, s', μ, o', m', c₀.mode, rfl, hq, hm.mono hs.ext, he, hx, hr', hs⟩)
theorem awpS_seq {x y : Code} {Q : AExit → AA → AMode → List Blk → Prop} {s : AA} {μ : AMode} {own : List Blk}
    (h : AWpS P w0 x (fun e s' μ' o' => match e with | .normal => AWpS P w0 y Q s' μ' o' | e => Q e s' μ' o') s μ own) : AWpS P w0 (.seq x y) Q s μ own := by
  intro m w a c₀ cs hr ha hm
  refine wpS_seq (wpS_mono (h m w a c₀ cs hr ha hm) ?_)
  rintro e a' cs' w' ⟨ae, s', μ', o', m', u', rfl, hq, hmm, he, hx, hr', hs⟩
  cases ae <;> cases e <;> first | exact he.elim | skip
  · refine wpS_mono (hq m' w' a' { c₀ with mode := u' } cs hr' hx hmm) ?_
    rintro e2 a2 cs2 w2 ⟨ae2, s2, μ2, o2, m2, u2, rfl, hq2, hmm2, he2, hx2, hr2, hs2⟩
    exact ⟨ae2, s2, μ2, o2, m2, u2, rfl, hq2, hmm2, he2, hx2, hr2, hs.trans hs2⟩
  all_goals exact ⟨_, s', μ', o', m', u', rfl, hq, hmm, he, hx, hr', hs⟩

theorem run_recover {ρ : Operand → Value} {o : Oper} (h : isRecover o = true) (w : World) : (execOp ρ o).run P w = .ok .recover w := by
  obtain ⟨dst, op, ty, pos, after, guard⟩ := o
  unfold isRecover at h
  split at h
  · rename_i c hc
    split at h
    · rename_i hb
      obtain ⟨cal, as, ats⟩ := c
      simp only at hb
      subst hb
      simp only at hc
      subst hc
      rfl
    · cases h
  · cases h

theorem opsSE_sound {ops : Array Oper} (hp : ops.toList.all plainOper = true) : ∀ (l : List Nat) (s : AA) (μ : AMode) (own : List Blk) (s' : AA) (μ' : AMode) (own' : List Blk), opsSE P out ops l s μ own = some (s', μ', own') →
    ∀ m w a (c₀ : Frame) cs u, Rep w0 m own w → ActRel m s a → ModeRel m μ u →
      wpOpsS P ops (PostS w0 m own w (fun e t ν o => e = .normal ∧ t = s' ∧ ν = μ' ∧ o = own') c₀ cs) l a ({ c₀ with mode := u } :: cs) w
  | [], s, μ, own, s', μ', own', h, m, w, a, c₀, cs, u, hr, ha, hm => by
    simp only [opsSE, Option.some.injEq, Prod.mk.injEq] at h
    obtain ⟨rfl, rfl, rfl⟩ := h
    exact ⟨.normal, s, μ, own, m, u, rfl, ⟨rfl, rfl, rfl, rfl⟩, hm, trivial, ha, hr, Step.refl _ _ _⟩
  | i :: r, s, μ, own, s', μ', own', h, m, w, a, c₀, cs, u, hr, ha, hm => by
    simp only [opsSE] at h
    simp only [wpOpsS]
    split at h
    · cases h
    rename_i o ho
    split at h
    · cases h
    rename_i hw
    simp at hw
    simp only [ho]
    rw [wanted_rel ha.t]
    simp only [hw, if_true]
    have hpo : plainOper o = true := List.all_eq_true.1 hp o (by
      rw [Array.mem_toList_iff]; exact Array.mem_of_getElem? ho)
    split at h
    · rename_i hrec
      rw [run_recover hrec]
      simp only
      split at h
      · rename_i v
        cases u with
        | panicking ch =>
          obtain ⟨v', rfl, hv⟩ := hm
          exact opsSE_sound hp r _ _ own s' μ' own' h m w _ c₀ cs (.panicking [{ v := v', recovered := true }]) hr (act_put ha _ hv) ⟨v', rfl, hv⟩
        | _ => exact hm.elim
      · cases u with
        | returning => exact opsSE_sound hp r _ _ own s' μ' own' h m w _ c₀ cs .returning hr (act_put ha _ .nilIface) trivial
        | _ => exact hm.elim
      · cases h
    · split at h
      · rename_i x hx
        have hv := eval_rel ha.t (x := x) (by have := hpo; simp [plainOper, hx, Op.operands] at this; exact this)
        have hrun : (execOp a.eval o).run P w = .ok (.value (a.eval x)) w := by unfold execOp; rw [hx]; rfl
        rw [hrun]
        exact opsSE_sound hp r _ _ own s' μ' own' h m w _ c₀ cs u hr (act_put ha _ hv) hm
      · rename_i x hx
        have hv := eval_rel ha.t (x := x) (by have := hpo; simp [plainOper, hx, Op.operands] at this; exact this)
        have hrun : (execOp a.eval o).run P w = .ok (.value (a.eval x)) w := by unfold execOp; rw [hx]; rfl
        rw [hrun]
        exact opsSE_sound hp r _ _ own s' μ' own' h m w _ c₀ cs u hr (act_put ha _ hv) hm
      · cases h

theorem execSE_sound (hmo : P.follows .mixedOrders = true) (ho : OutOK w0 out) (hc : CallOK P w0 call) (lf : Nat) : ∀ (c : Code), codeOk P c = true → ∀ (s : AA) (μ : AMode) (own : List Blk) (e : AExit) (s' : AA) (μ' : AMode) (own' : List Blk),
    execSE P out call lf c s μ own = some (e, s', μ', own') → AWpS P w0 c (fun e1 t ν o => e1 = e ∧ t = s' ∧ ν = μ' ∧ o = own') s μ own := by
  have plain : ∀ (c : Code), codeOk P c = true → ∀ (s : AA) (μ : AMode) (own : List Blk) (e : AExit) (s' : AA) (μ' : AMode) (own' : List Blk),
      (match execE P out call lf c s own with | some (e, s', own') => some (e, s', μ, own') | none => none) = some (e, s', μ', own') → AWpS P w0 c (fun e1 t ν o => e1 = e ∧ t = s' ∧ ν = μ' ∧ o = own') s μ own := by
    intro c hok s μ own e s' μ' own' h
    split at h
    · rename_i e1 s1 o1 hex
      simp only [Option.some.injEq, Prod.mk.injEq] at h
      obtain ⟨rfl, rfl, rfl, rfl⟩ := h
      exact awpS_of_awp ((execE_sound hmo ho hc lf c hok _ _ _ _ _ hex).mono fun _ _ _ ⟨a, b, c⟩ => ⟨a, b, rfl, c⟩)
    · cases h
  intro c
  induction c with
  | seq a b iha ihb =>
    intro hok s μ own e s' μ' own' h
    simp only [codeOk, Bool.and_eq_true] at hok
    simp only [execSE] at h
    split at h
    · rename_i s1 μ1 own1 hex
      refine awpS_seq ?_
      intro m w ac c₀ cs hr ha hmm
      refine wpS_mono (iha hok.1 _ _ _ _ _ _ _ hex m w ac c₀ cs hr ha hmm) ?_
      rintro e2 a2 cs2 w2 ⟨ae2, s2, μ2, o2, m2, u2, rfl, ⟨rfl, rfl, rfl, rfl⟩, r3, r4, r5, r6, r7⟩
      exact ⟨_, _, _, _, m2, u2, rfl, ihb hok.2 _ _ _ _ _ _ _ h, r3, r4, r5, r6, r7⟩
    · rename_i hne
      refine awpS_seq ?_
      intro m w ac c₀ cs hr ha hmm
      refine wpS_mono (iha hok.1 _ _ _ _ _ _ _ h m w ac c₀ cs hr ha hmm) ?_
      rintro e2 a2 cs2 w2 ⟨ae2, s2, μ2, o2, m2, u2, rfl, ⟨rfl, rfl, rfl, rfl⟩, r3, r4, r5, r6, r7⟩
      refine ⟨_, _, _, _, m2, u2, rfl, ?_, r3, r4, r5, r6, r7⟩
      cases ae2 with
      | normal => exact absurd h (hne _ _ _)
      | _ => exact ⟨rfl, rfl, rfl, rfl⟩
  | region id ops d =>
    intro hok s μ own e s' μ' own' h
    simp only [execSE] at h
    split at h
    · rename_i hd
      simp only [Bool.and_eq_true, Bool.not_eq_true'] at hd
      obtain ⟨rfl, _⟩ := hd
      split at h
      · rename_i s1 μ1 own1 hex
        simp only [Option.some.injEq, Prod.mk.injEq] at h
        obtain ⟨rfl, rfl, rfl, rfl⟩ := h
        intro m w ac c₀ cs hr ha hmm
        simp only [codeOk, Bool.and_eq_true] at hok
        exact wpS_region (opsSE_sound hok.1 _ _ _ _ _ _ _ hex m w ac c₀ cs c₀.mode hr ha hmm)
      · cases h
    · exact plain _ hok _ _ _ _ _ _ _ h
  | _ => intro hok s μ own e s' μ' own' h; exact plain _ hok _ _ _ _ _ _ _ h

theorem callDE_sound (hmo : P.follows .mixedOrders = true) (ho : OutOK w0 out) (hc : CallOK P w0 call) {lf : Nat} {f : FuncId} {args : List Value} {μ μ' : AMode} {own own' : List Blk} (h : callDE P out call lf f args μ own = some (μ', own')) :
    (∃ fn, P.funcs[f]? = some fn ∧ fn.name ≠ "runtime.NumGoroutine" ∧ fn.body.isSome = true) ∧ ∀ m w (args' : Array Value) u, Rep w0 m own w → LRel m args args'.toList → ModeRel m μ u →
      CallsD P f args' u w fun e u' w' => ∃ m' v, e = .returned v ∧ ModeRel m' μ' u' ∧ Rep w0 m' own' w' ∧ Step m own w m' own' w' := by
  unfold callDE at h
  split at h
  · cases h
  rename_i fn hfn
  split at h
  · cases h
  rename_i c hb
  split at h
  · cases h
  rename_i hcond
  simp only [Bool.or_eq_true, not_or, Bool.not_eq_true', beq_iff_eq] at hcond
  obtain ⟨⟨hname, hok⟩, hres⟩ := hcond
  have hok : codeOk P c = true := by simpa using hok
  have hres : fn.results.toList = [] := by simpa using hres
  refine ⟨⟨fn, hfn, hname, by rw [hb]; rfl⟩, fun m w args' u hr hl hm => ?_⟩
  have fin : ∀ (e : AExit) (s : AA) (own1 : List Blk), execSE P out call lf c (enterA fn args) μ own = some (e, s, μ', own1) → (e = .normal ∨ e = .ret) → s.ds = [] → own1 = own' →
      CallsD P f args' u w fun e u' w' => ∃ m' v, e = .returned v ∧ ModeRel m' μ' u' ∧ Rep w0 m' own' w' ∧ Step m own w m' own' w' := by
    rintro e s own1 hex hee hds rfl
    refine callsD_of_wpS hfn hb fun c₀ cs hu => wpS_mono (execSE_sound hmo ho hc lf c hok _ _ _ _ _ _ _ hex m w _ c₀ cs hr (enter_rel hl) (hu ▸ hm)) ?_
    rintro e2 a2 cs2 w2 ⟨ae2, s2, μ2, o2, m2, u2, rfl, ⟨rfl, rfl, rfl, rfl⟩, r3, r4, r5, r6, r7⟩
    have hact : ActRel m2 s2 a2 := by rcases hee with rfl | rfl <;> exact r5
    have hdef : a2.defers = [] := by
      have := hact.ds.1
      rw [hds] at this
      exact List.eq_nil_of_length_eq_zero this.symm
    obtain ⟨v', g1, _⟩ := results_rel (P := P) ho r6 hact.t (fn := fn) (l := []) (by rw [hres]; rfl)
    rcases hee with rfl | rfl <;> cases e2 <;> first | exact r4.elim | exact ⟨hdef, u2, rfl, v', g1, m2, v', rfl, r3, r6, r7⟩
  split at h
  · rename_i s μ1 own1 hex
    split at h
    · rename_i hds
      simp only [Option.some.injEq, Prod.mk.injEq] at h
      obtain ⟨rfl, rfl⟩ := h
      exact fin _ _ _ hex (.inl rfl) hds rfl
    · cases h
  · rename_i s μ1 own1 hex
    split at h
    · rename_i hds
      simp only [Option.some.injEq, Prod.mk.injEq] at h
      obtain ⟨rfl, rfl⟩ := h
      exact fin _ _ _ hex (.inr rfl) hds rfl
    · cases h
  · cases h

/-- Slots that aren't holes are told. -/
theorem slot_rel {m : M} {t : List Value} {a : Array Value} (h : PRel m t a) {d : Nat} (hn : isHole (t.getD d undef) = false) : VRel m (t.getD d undef) (a.getD d undef) := by
  by_cases hd : d < t.length
  · have hd' : d < a.size := by rw [← h.1]; exact hd
    have e1 : t[d]? = some (t.getD d undef) := by simp [List.getD, hd]
    have e2 : a[d]? = some (a.getD d undef) := by simp [Array.getD, hd']
    rcases h.2 d _ _ e1 e2 with h3 | h3
    · rw [h3] at hn; cases hn
    · exact h3
  · have hd' : ¬ d < a.size := by rw [← h.1]; exact hd
    have e1 : t.getD d undef = undef := by simp [List.getD, List.getElem?_eq_none (Nat.le_of_not_lt hd)]
    have e2 : a.getD d undef = undef := by simp [Array.getD, hd']
    rw [e1, e2]; exact undef_rel m
theorem resP_rel (ho : OutOK w0 out) {m : M} {w : World} {own : List Blk} {t : List Value} {tmps : Array Value} (hr : Rep w0 m own w) (ht : PRel m t tmps) : ∀ (rs : List ResultVar) (l : List Value), noHole t rs = true → resA P out own t rs = some l →
    ∃ l', (rs.mapM (m := Sem) (resF tmps)).run P w = .ok l' w ∧ LRel m l l'
  | [], l, _, h => by simp [resA] at h; subst h; exact ⟨[], by simp, LRel.nil m⟩
  | .tmp d :: r, l, hh, h => by
    simp only [noHole, List.all_cons, Bool.and_eq_true, Bool.not_eq_true'] at hh
    simp only [resA] at h
    split at h
    · rename_i l1 hl1
      simp at h; subst h
      obtain ⟨l', h1, h2⟩ := resP_rel ho hr ht r l1 hh.2 hl1
      refine ⟨tmps.getD d undef :: l', ?_, LRel.cons (slot_rel ht hh.1) h2⟩
      rw [List.mapM_cons, Sem.run_bind]
      simp only [resF, Sem.run_pure, Result.andThen_ok, Sem.run_bind]
      rw [show (List.mapM (resF tmps) r).run P w = .ok l' w from h1]
      rfl
    · cases h
  | .cell d e :: r, l, hh, h => by
    simp only [noHole, List.all_cons, Bool.and_eq_true, Bool.not_eq_true'] at hh
    simp only [resA] at h
    split at h
    · rename_i v hv
      split at h
      · rename_i l1 hl1
        simp at h; subst h
        obtain ⟨l', h1, h2⟩ := resP_rel ho hr ht r l1 hh.2 hl1
        have hx' := slot_rel ht hh.1
        obtain ⟨v', g1', g2⟩ := loadA_rel P hr ho hx' hv
        refine ⟨v' :: l', ?_, LRel.cons g2 h2⟩
        have hptr : ∃ ad, tmps.getD d undef = .pointer (some ad) := by
          generalize tmps.getD d undef = y at hx'
          generalize t.getD d undef = y0 at hx' hv
          cases hx' <;> first | exact ⟨_, rfl⟩ | (simp [loadA] at hv; done)
        obtain ⟨ad, had⟩ := hptr
        rw [had] at g1'
        simp only [Instr.loadAt, Instr.sureAddr, Sem.run_bind, Sem.run_pure, Result.andThen_ok] at g1'
        have hfirst : (resF tmps (.cell d e)).run P w = .ok v' w := by
          simp only [resF, Sem.run_bind, had, asAddr, Sem.run_pure, Result.andThen_ok, g1']
        rw [List.mapM_cons, Sem.run_bind, hfirst]
        simp only [Result.andThen_ok, Sem.run_bind]
        rw [show (List.mapM (resF tmps) r).run P w = .ok l' w from h1]
        rfl
      · cases h
    · cases h
theorem resultsP_rel (ho : OutOK w0 out) {m : M} {w : World} {own : List Blk} {t : List Value} {tmps : Array Value} (hr : Rep w0 m own w) (ht : PRel m t tmps) {fn : Func} {l : List Value} (hh : noHole t fn.results.toList = true) (h : resA P out own t fn.results.toList = some l) :
    ∃ v', (results fn tmps).run P w = .ok v' w ∧ VRel m (packA l) v' := by
  obtain ⟨l', h1, h2⟩ := resP_rel ho hr ht _ l hh h
  have hpk : VRel m (packA l) (packA l') := by
    match l, l', h2 with
    | [], l', h2 => rw [h2.eq_nil]; exact .tuple _ _ rfl (by simp)
    | [v], l', h2 =>
      obtain ⟨v', r', rfl, hv, hn⟩ := h2.eq_cons
      rw [hn.eq_nil]; exact hv
    | v :: u :: r, l', h2 =>
      have h3 := h2
      obtain ⟨v', r', rfl, hv, hn⟩ := h2.eq_cons
      obtain ⟨u', r'', rfl, hu, hn'⟩ := hn.eq_cons
      exact .tuple _ _ h3.toArray.1 h3.toArray.2
  refine ⟨packA l', ?_, hpk⟩
  rw [results_eq, Array.mapM_eq_mapM_toList, Sem.run_bind, Sem.run_map, h1]
  simp only [Result.andThen_ok, Sem.run_pure]
  congr 1
  match l' with
  | [] => rfl
  | [v] => rfl
  | v :: u :: r => simp [packA]
theorem PRel.mono {m m' : M} (h : Ext m m') {t : List Value} {a : Array Value} (hp : PRel m t a) : PRel m' t a :=
  ⟨hp.1, fun i v v' h1 h2 => (hp.2 i v v' h1 h2).imp_right fun r => r.mono h⟩

theorem leaveE_sound (hmo : P.follows .mixedOrders = true) (ho : OutOK w0 out) (hc : CallOK P w0 call) {lf : Nat} {f : FuncId} {fn : Func} (hfn : P.funcs[f]? = some fn) : ∀ (ds : List (FuncId × List Value)) (t : List Value) (μ : AMode) (own : List Blk) (x : AEnd × List Blk),
    leaveE P out call lf fn t ds μ own = some x → ∀ m w u (tmps : Array Value) (l : List Deferred), Rep w0 m own w → PRel m t tmps → DRel m ds l → ModeRel m μ u → ∀ m0 own0 w00, Step m0 own0 w00 m own w →
      Leaves P fn tmps (fun e w' => ∃ ae o m', (ae = x.1 ∧ o = x.2) ∧ EndRel m' ae e ∧ Rep w0 m' o w' ∧ Step m0 own0 w00 m' o w') l u w
  | [], t, μ, own, x, h, m, w, u, tmps, l, hr, ht, hd, hm, m0, own0, w00, hs => by
    obtain rfl : l = [] := List.eq_nil_of_length_eq_zero hd.1.symm
    cases μ with
    | ret =>
      cases u with
      | returning =>
        simp only [leaveE] at h
        split at h
        · cases h
        rename_i hh
        simp at hh
        split at h
        · rename_i r hres
          simp at h
          subst h
          obtain ⟨v', g1, g2⟩ := resultsP_rel ho hr ht hh hres
          exact ⟨v', g1, _, _, m, ⟨rfl, rfl⟩, g2, hr, hs⟩
        · cases h
      | _ => exact hm.elim
    | pan v rec =>
      cases u with
      | panicking ch =>
        cases rec with
        | true => simp [leaveE] at h
        | false =>
          simp only [leaveE, Option.some.injEq] at h
          subst h
          exact ⟨_, _, m, ⟨rfl, rfl⟩, hm, hr, hs⟩
      | _ => exact hm.elim
  | (g, args) :: ds, t, μ, own, x, h, m, w, u, tmps, l, hr, ht, hd, hm, m0, own0, w00, hs => by
    cases l with
    | nil => have := hd.1; simp at this
    | cons d l =>
      simp only [leaveE] at h
      split at h
      · rename_i μ1 own1 hcd
        obtain ⟨⟨gn, hgn, hname, hbody⟩, hcalls⟩ := callDE_sound hmo ho hc hcd
        obtain ⟨dargs, cap, rfl, hl⟩ := hd.2 0 (g, args) d rfl rfl
        have hd' : DRel m ds l := ⟨by have := hd.1; simpa using this, fun i a b h1 h2 => hd.2 (i + 1) a b (by simpa using h1) (by simpa using h2)⟩
        refine leaves_cons hm.ne_run (f := g) (args := dargs ++ cap) ?_ ((hcalls m w (dargs ++ cap) u hr hl hm).mono ?_)
        · simp [invoke, callFunc, hgn, hname, Option.isNone_iff_eq_none, Option.isSome_iff_ne_none.1 hbody]
        · rintro e u' w' ⟨m', v, rfl, hm', hr', hs'⟩
          exact leaveE_sound hmo ho hc hfn ds t _ _ x h m' w' (settle u') tmps l hr' (ht.mono hs'.ext) (hd'.mono hs'.ext) hm'.settle m0 own0 w00 (hs.trans hs')
      · cases h

abbrev Prims := FuncId → Option (List Value → List Blk → Option (AEnd × List Blk))
def PrimsOK (P : Program) (w0 : World) (prims : Prims) : Prop :=
  ∀ f p, prims f = some p → ∀ args own r own', p args own = some (r, own') → ACalls P w0 f args own fun e o => e = r ∧ o = own'

/-- WHAT IS RECKONED IS SO. -/
theorem callE_sound (hm : P.follows .mixedOrders = true) (ho : OutOK w0 out) {okF : FuncId → Bool} (hok : ∀ f, okF f = true → (P.funcs[f]?).isSome = true → fnOk P f = true ∨ ((P.funcs[f]?).bind (·.body)) = none) {prims : Prims} (hp : PrimsOK P w0 prims) (lf : Nat) :
    ∀ n, CallOK P w0 (callE P out okF prims lf n)
  | 0 => fun f args own r own' h => by simp [callE] at h
  | n + 1 => fun f args own r own' h => by
    have ih := callE_sound hm ho hok hp lf n
    simp only [callE] at h
    split at h
    · rename_i p hpf
      exact hp f p hpf args own r own' h
    · split at h
      · cases h
      rename_i hf
      simp at hf
      split at h
      · cases h
      rename_i fn hfn
      split at h
      · cases h
      rename_i c hb
      have hcode : codeOk P c = true := by
        rcases hok f hf (by rw [hfn]; rfl) with h1 | h1
        · simpa [fnOk, hfn, hb] using h1
        · rw [hfn] at h1; simp [hb] at h1
      intro m w args' hr hl
      generalize hex : execE P out (callE P out okF prims lf n) lf c (enterA fn args) own = res at h
      unfold finE at h
      split at h
      · rename_i s1 own1
        refine calls_of_wp_defers hfn hb (wp_mono ((execE_sound hm ho ih lf c hcode _ _ _ _ _ hex) m w _ hr (enter_rel hl)) ?_)
        rintro e a' w' ⟨ae, s2, o2, m2, ⟨rfl, rfl, rfl⟩, he, hx, hr2, hs2⟩
        cases e <;> first | exact he.elim | skip
        exact leaveE_sound hm ho ih hfn _ _ _ _ _ h m2 w' .returning _ _ hr2 (TRel.toP hx.t) hx.ds trivial m own w hs2
      · rename_i s1 own1
        refine calls_of_wp_defers hfn hb (wp_mono ((execE_sound hm ho ih lf c hcode _ _ _ _ _ hex) m w _ hr (enter_rel hl)) ?_)
        rintro e a' w' ⟨ae, s2, o2, m2, ⟨rfl, rfl, rfl⟩, he, hx, hr2, hs2⟩
        cases e <;> first | exact he.elim | skip
        exact leaveE_sound hm ho ih hfn _ _ _ _ _ h m2 w' .returning _ _ hr2 (TRel.toP hx.t) hx.ds trivial m own w hs2
      · rename_i v s1 own1
        refine calls_of_wp_defers hfn hb (wp_mono ((execE_sound hm ho ih lf c hcode _ _ _ _ _ hex) m w _ hr (enter_rel hl)) ?_)
        rintro e a' w' ⟨ae, s2, o2, m2, ⟨rfl, rfl, rfl⟩, he, hx, hr2, hs2⟩
        cases e <;> first | exact he.elim | skip
        exact leaveE_sound hm ho ih hfn _ _ _ _ _ h m2 w' (.panicking _) _ _ hr2 hx.1 hx.2 he m own w hs2
      · cases h

end
end Go.Sim
