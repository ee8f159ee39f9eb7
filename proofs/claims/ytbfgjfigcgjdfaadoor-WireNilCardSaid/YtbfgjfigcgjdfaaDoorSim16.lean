/-
  A calculus of abstract runs, part 16: what is reckoned is so.
-/
import Derived.Test.YtbfgjfigcgjdfaaDoorSim15
namespace Go.Sim

section
variable {P : Program} {w0 : World} {out : Nat → Nat → Option Value} {ops : Array Oper} {call : CallT} {Q : AExit → AA → List Blk → Prop}

def CallOK (P : Program) (w0 : World) (call : CallT) : Prop :=
  ∀ f args own r own', call f args own = some (r, own') → ACalls P w0 f args own fun e o => e = r ∧ o = own'

theorem opsE_sound (hc : CallOK P w0 call) : ∀ (l : List Oper) (s : AA) (own : List Blk) (ex : AExit) (s' : AA) (own' : List Blk), opsE P out ops call l s own = some (ex, s', own') → Q ex s' own' → opsWp P w0 out ops Q l s own
  | [], s, own, ex, s', own', h, hq => by simp [opsE] at h; obtain ⟨rfl, rfl, rfl⟩ := h; exact hq
  | o :: r, s, own, ex, s', own', h, hq => by
    simp only [opsE] at h
    simp only [opsWp]
    split at h
    · rename_i hw
      rw [if_pos hw]
      split at h
      · cases h
      · rename_i v own1 ha
        exact ⟨_, _, ha, opsE_sound hc r _ _ _ _ _ h hq⟩
      · rename_i f args own1 ha
        refine ⟨_, _, ha, ?_⟩
        split at h
        · cases h
        · rename_i v own2 hcall
          refine (hc _ _ _ _ _ hcall).mono ?_
          rintro e o' ⟨rfl, rfl⟩
          exact opsE_sound hc r _ _ _ _ _ h hq
        · rename_i v own2 hcall
          refine (hc _ _ _ _ _ hcall).mono ?_
          rintro e o' ⟨rfl, rfl⟩
          simp at h
          obtain ⟨rfl, rfl, rfl⟩ := h
          exact hq
      · rename_i v own1 ha
        simp at h
        obtain ⟨rfl, rfl, rfl⟩ := h
        exact ⟨_, _, ha, hq⟩
      · rename_i f args own1 ha
        exact ⟨_, _, ha, opsE_sound hc r _ _ _ _ _ h hq⟩
      · cases h
    · rename_i hw
      rw [if_neg hw]
      exact opsE_sound hc r _ _ _ _ _ h hq

/-- A quiet operation leaves abstract memory as it is. -/
theorem aop_quiet {own own' : List Blk} {ρ : Operand → Value} {o : Oper} {r : AR} (hq : isQuietOp P o = true) (h : aop P out own ρ o = some (r, own')) : own' = own := by
  obtain ⟨dst, op, ty, pos, after, guard⟩ := o
  cases op with
  | move x => simp [aop] at h; exact h.2.symm
  | pick c x y =>
    simp only [aop] at h
    split at h
    · simp at h; exact h.2.symm
    · simp at h; exact h.2.symm
    · cases h
  | build t parts =>
    simp only [aop] at h
    split at h
    · split at h
      · simp at h; exact h.2.symm
      · cases h
    · cases h
  | load t x => simp only [aop] at h; split at h <;> first | (cases h; done) | (simp at h; exact h.2.symm)
  | nilCheck x => simp only [aop] at h; split at h <;> first | (cases h; done) | (simp at h; exact h.2.symm)
  | binOp b t x y yt =>
    simp only [aop] at h
    split at h
    · split at h
      · simp at h; exact h.2.symm
      · cases h
    · split at h
      · split at h
        · simp at h; exact h.2.symm
        · cases h
      · split at h
        · simp at h; exact h.2.symm
        · cases h
      · cases h
  | unOp u t x =>
    simp only [aop] at h
    split at h
    · split at h
      · simp at h; exact h.2.symm
      · cases h
    · cases h
  | convert sx d x =>
    simp only [aop] at h
    split at h
    · rename_i v own1 hcv
      simp at h
      obtain ⟨_, rfl⟩ := h
      simp only [isQuietOp] at hq
      unfold convA at hcv
      split at hcv
      · rename_i e h1 h2
        rw [h2] at hq; simp at hq
      · split at hcv
        · split at hcv
          · simp at hcv; exact hcv.2.symm
          · cases hcv
        · cases hcv
      · rename_i e h1 h2
        rw [h2] at hq; simp at hq
      · split at hcv
        · split at hcv
          · simp at hcv; exact hcv.2.symm
          · cases hcv
        · cases hcv
      · cases hcv
    · cases h
  | makeInterface t x =>
    simp only [aop] at h
    split at h
    · cases h
    · simp at h; exact h.2.symm
    · cases h
  | makeFunc fn f c => simp [aop] at h; exact h.2.symm
  | slice t x lo hi mx =>
    simp only [aop] at h
    split at h
    · split at h
      · split at h
        · simp at h; exact h.2.symm
        · cases h
      · cases h
    · split at h
      · simp at h; exact h.2.symm
      · cases h
  | fieldAddr t x f => simp only [aop] at h; split at h <;> first | (cases h; done) | (simp at h; exact h.2.symm)
  | field t x f => simp only [aop] at h; split at h <;> first | (cases h; done) | (simp at h; exact h.2.symm)
  | indexAddr t x i => simp only [aop] at h; split at h <;> first | (cases h; done) | (simp at h; exact h.2.symm)
  | index t x i =>
    simp only [aop] at h
    split at h
    · split at h
      · simp at h; exact h.2.symm
      · cases h
    · cases h
  | extract x i => simp only [aop] at h; split at h <;> first | (cases h; done) | (simp at h; exact h.2.symm)
  | typeAssert x xt t ok => simp only [aop] at h; split at h <;> first | (cases h; done) | (simp at h; exact h.2.symm)
  | call c =>
    obtain ⟨callee, cargs, cat⟩ := c
    simp only [aop, callA] at h
    cases callee with
    | builtin b =>
      cases b <;> simp only [isQuietOp, Bool.false_eq_true] at hq <;> simp only at h <;> (repeat' split at h) <;> first | (cases h; done) | (simp at h; exact h.2.symm)
    | value f => simp [isQuietOp] at hq
    | invoke x n => simp [isQuietOp] at hq
  | _ => simp [isQuietOp] at hq

theorem qsE_sound {K : AA → Prop} : ∀ (l : List Nat) (s : AA) (own : List Blk) (s1 : AA), qsE P out ops l s own = some s1 → K s1 → qsWp P out ops l s own K
  | [], s, own, s1, h, hk => by simp [qsE] at h; subst h; exact hk
  | i :: r, s, own, s1, h, hk => by
    simp only [qsE] at h
    split at h
    · cases h
    rename_i o ho
    split at h
    · cases h
    rename_i hq
    simp at hq
    split at h
    · rename_i hw
      split at h
      · rename_i v own1 ha
        have := aop_quiet hq ha
        subst this
        exact ⟨o, v, ho, by rw [if_pos hw]; exact ha, qsE_sound r _ _ _ h hk⟩
      · cases h
    · rename_i hw
      exact ⟨o, undef, ho, by rw [if_neg hw], qsE_sound r _ _ _ h hk⟩
theorem rrE_sound {i : Nat} {s : AA} {own : List Blk} (h : rrE P out ops i s own = true) : RR P out ops i s own := by
  unfold rrE at h
  split at h
  · cases h
  rename_i o ho
  simp only [Bool.and_eq_true] at h
  obtain ⟨hq, h⟩ := h
  split at h
  · cases h
  rename_i d hd
  refine ⟨o, d, ho, hd, ?_⟩
  split at h
  · rename_i hw
    rw [if_pos hw]
    split at h
    · rename_i v own1 ha
      have := aop_quiet hq ha
      subst this
      rw [← veq_eq _ _ _ h]; exact ha
    · cases h
  · rename_i hw
    rw [if_neg hw]
    exact veq_eq _ _ _ h
theorem zsE_sound {K : AA → List Blk → Prop} : ∀ (l : List Nat) (s : AA) (own : List Blk) (s1 : AA) (own1 : List Blk), zsE P out ops l s own = some (s1, own1) → K s1 own1 → zsWp P out ops l s own K
  | [], s, own, s1, own1, h, hk => by simp [zsE] at h; obtain ⟨rfl, rfl⟩ := h; exact hk
  | i :: r, s, own, s1, own1, h, hk => by
    simp only [zsE] at h
    split at h
    · cases h
    rename_i o ho
    split at h
    · rename_i v own2 ha
      exact ⟨o, v, own2, ho, ha, zsE_sound r _ _ _ _ h hk⟩
    · cases h
theorem all_rr {l : List Nat} {s : AA} {own : List Blk} (h : l.all (fun i => rrE P out ops i s own) = true) : ∀ i ∈ l, RR P out ops i s own :=
  fun i hi => rrE_sound (List.all_eq_true.1 h i hi)

theorem planE_sound (hc : CallOK P w0 call) {qf zf : List Nat} : ∀ (st : List Stage) (lc : List Nat) (s : AA) (own : List Blk) (ex : AExit) (s' : AA) (own' : List Blk), planE P out ops call qf zf lc st s own = some (ex, s', own') → Q ex s' own' →
    planWp P w0 out ops Q qf zf lc st s own
  | [], lc, s, own, ex, s', own', h, hq => by
    simp only [planE] at h
    simp only [planWp]
    split at h
    · cases h
    rename_i s1 hs1
    split at h
    · cases h
    rename_i hrr
    split at h
    · cases h
    rename_i s2 own2 hz
    simp at h
    obtain ⟨rfl, rfl, rfl⟩ := h
    exact qsE_sound _ _ _ _ hs1 ⟨all_rr (by simpa using hrr), zsE_sound _ _ _ _ _ hz hq⟩
  | (qs, zs, e) :: rest, lc, s, own, ex, s', own', h, hq => by
    simp only [planE] at h
    simp only [planWp]
    split at h
    · cases h
    rename_i s1 hs1
    split at h
    · cases h
    rename_i hrr
    split at h
    · cases h
    rename_i s2 own2 hz
    split at h
    · cases h
    rename_i o ho
    refine qsE_sound _ _ _ _ hs1 ⟨all_rr (by simpa using hrr), zsE_sound _ _ _ _ _ hz ⟨o, ho, ?_⟩⟩
    split at h
    · rename_i hw
      rw [if_pos hw]
      split at h
      · cases h
      · rename_i v own3 ha
        exact ⟨_, _, ha, planE_sound hc rest _ _ _ _ _ _ h hq⟩
      · rename_i f args own3 ha
        refine ⟨_, _, ha, ?_⟩
        split at h
        · cases h
        · rename_i v own4 hcall
          refine (hc _ _ _ _ _ hcall).mono ?_
          rintro e o' ⟨rfl, rfl⟩
          exact planE_sound hc rest _ _ _ _ _ _ h hq
        · rename_i v own4 hcall
          refine (hc _ _ _ _ _ hcall).mono ?_
          rintro e o' ⟨rfl, rfl⟩
          simp at h
          obtain ⟨rfl, rfl, rfl⟩ := h
          exact hq
      · rename_i v own3 ha
        simp at h
        obtain ⟨rfl, rfl, rfl⟩ := h
        exact ⟨_, _, ha, hq⟩
      · rename_i f args own3 ha
        exact ⟨_, _, ha, planE_sound hc rest _ _ _ _ _ _ h hq⟩
      · cases h
    · rename_i hw
      rw [if_neg hw]
      exact planE_sound hc rest _ _ _ _ _ _ h hq

theorem execE_sound (hm : P.follows .mixedOrders = true) (ho : OutOK w0 out) (hc : CallOK P w0 call) (lf : Nat) : ∀ (c : Code), codeOk P c = true → ∀ (s : AA) (own : List Blk) (ex : AExit) (s' : AA) (own' : List Blk),
    execE P out call lf c s own = some (ex, s', own') → AWp P w0 c (fun e t o => e = ex ∧ t = s' ∧ o = own') s own := by
  intro c
  induction c with
  | skip => intro _ s own ex s' own' h; simp [execE] at h; obtain ⟨rfl, rfl, rfl⟩ := h; exact awp_skip ⟨rfl, rfl, rfl⟩
  | label l => intro _ s own ex s' own' h; simp [execE] at h; obtain ⟨rfl, rfl, rfl⟩ := h; exact awp_label ⟨rfl, rfl, rfl⟩
  | exit id => intro _ s own ex s' own' h; simp [execE] at h; obtain ⟨rfl, rfl, rfl⟩ := h; exact awp_exit ⟨rfl, rfl, rfl⟩
  | ret => intro _ s own ex s' own' h; simp [execE] at h; obtain ⟨rfl, rfl, rfl⟩ := h; exact awp_ret ⟨rfl, rfl, rfl⟩
  | region id ops d =>
    intro hok s own ex s' own' h
    simp only [codeOk, Bool.and_eq_true] at hok
    simp only [execE] at h
    split at h
    · rename_i hd
      subst hd
      have hp := hok.2
      simp at hp
      exact awp_draw hm ho hp (planE_sound hc _ _ _ _ _ _ _ h ⟨rfl, rfl, rfl⟩)
    · rename_i hd
      have : d = false := by cases d <;> simp_all
      subst this
      exact awp_region ho hok.1 (opsE_sound hc _ _ _ _ _ _ h ⟨rfl, rfl, rfl⟩)
  | seq a b iha ihb =>
    intro hok s own ex s' own' h
    simp only [codeOk, Bool.and_eq_true] at hok
    simp only [execE] at h
    refine awp_seq ?_
    split at h
    · rename_i s1 own1 h1
      refine (iha hok.1 s own _ _ _ h1).mono ?_
      rintro e t o ⟨rfl, rfl, rfl⟩
      exact ihb hok.2 _ _ _ _ _ h
    · rename_i hn
      cases hr : execE P out call lf a s own with
      | none => rw [hr] at h; cases h
      | some r =>
        rw [hr] at h
        simp at h
        subst h
        refine (iha hok.1 s own _ _ _ hr).mono ?_
        rintro e t o ⟨rfl, rfl, rfl⟩
        cases e with
        | normal => exact absurd hr (hn _ _)
        | _ => exact ⟨rfl, rfl, rfl⟩
  | cond c x y ihx ihy =>
    intro hok s own ex s' own' h
    simp only [codeOk, Bool.and_eq_true] at hok
    simp only [execE] at h
    split at h
    · rename_i hb
      exact awp_cond hok.1.1 hb (ihx hok.1.2 _ _ _ _ _ h)
    · rename_i hb
      exact awp_cond hok.1.1 hb (ihy hok.2 _ _ _ _ _ h)
    · cases h
  | block id c ih =>
    intro hok s own ex s' own' h
    simp only [codeOk] at hok
    simp only [execE] at h
    refine awp_block ?_
    split at h
    · rename_i i s1 own1 h1
      refine (ih hok s own _ _ _ h1).mono ?_
      rintro e t o ⟨rfl, rfl, rfl⟩
      simp only [AExit.inBlock]
      split at h
      · rename_i e1
        rw [if_pos e1]
        simp at h
        obtain ⟨rfl, rfl, rfl⟩ := h
        exact ⟨rfl, rfl, rfl⟩
      · rename_i e1
        rw [if_neg e1]
        simp at h
        obtain ⟨rfl, rfl, rfl⟩ := h
        exact ⟨rfl, rfl, rfl⟩
    · rename_i hn
      refine (ih hok s own _ _ _ h).mono ?_
      rintro e t o ⟨rfl, rfl, rfl⟩
      cases e with
      | exit i => exact absurd h (hn _ _ _)
      | _ => exact ⟨rfl, rfl, rfl⟩
  | loop c ih =>
    intro hok s own ex s' own' h
    simp only [codeOk] at hok
    simp only [execE] at h
    refine awp_loop (fun n t o => loopE (execE P out call lf c) n t o = some (ex, s', own')) lf h ?_
    intro n t o hI
    cases n with
    | zero => simp [loopE] at hI
    | succ n =>
      simp only [loopE] at hI
      split at hI
      · rename_i s1 own1 h1
        refine (ih hok t o _ _ _ h1).mono ?_
        rintro e t o ⟨rfl, rfl, rfl⟩
        exact ⟨n, by omega, hI⟩
      · rename_i hn
        refine (ih hok t o _ _ _ hI).mono ?_
        rintro e t o ⟨rfl, rfl, rfl⟩
        cases e with
        | normal => exact absurd hI (hn _ _)
        | _ => exact ⟨rfl, rfl, rfl⟩
  | _ => intro _ s own ex s' own' h; simp [execE] at h

abbrev Prims := FuncId → Option (List Value → List Blk → Option (AEnd × List Blk))
def PrimsOK (P : Program) (w0 : World) (prims : Prims) : Prop :=
  ∀ f p, prims f = some p → ∀ args own r own', p args own = some (r, own') → ACalls P w0 f args own fun e o => e = r ∧ o = own'

/-- WHAT IS RECKONED IS SO. -/
theorem callE_sound (hm : P.follows .mixedOrders = true) (ho : OutOK w0 out) {okF : FuncId → Bool} (hok : ∀ f, okF f = true → (P.funcs[f]?).isSome = true → fnOk P f = true ∨ ((P.funcs[f]?).bind (·.body)) = none) {prims : Prims} (hp : PrimsOK P w0 prims) (lf : Nat) :
    ∀ n, CallOK P w0 (callE P out okF prims lf n)
  | 0 => fun f args own r own' h => by simp [callE] at h
  | n + 1 => fun f args own r own' h => by
    have ih := callE_sound hm ho hok hp lf n
    simp only [callE] at h
    split at h
    · rename_i p hpf
      exact hp f p hpf args own r own' h
    · split at h
      · cases h
      rename_i hf
      simp at hf
      split at h
      · cases h
      rename_i fn hfn
      split at h
      · cases h
      rename_i c hb
      have hcode : codeOk P c = true := by
        rcases hok f hf (by rw [hfn]; rfl) with h1 | h1
        · simpa [fnOk, hfn, hb] using h1
        · rw [hfn] at h1; simp [hb] at h1
      refine acalls_of_awp ho hfn hb ?_
      generalize hex : execE P out (callE P out okF prims lf n) lf c (enterA fn args) own = res at h
      unfold finE at h
      split at h
      · rename_i s1 own1
        split at h
        · rename_i hds
          split at h
          · rename_i l hl
            simp at h
            obtain ⟨rfl, rfl⟩ := h
            refine (execE_sound hm ho ih lf c hcode _ _ _ _ _ hex).mono ?_
            rintro e t o ⟨rfl, rfl, rfl⟩
            exact ⟨hds, l, hl, rfl, rfl⟩
          · cases h
        · cases h
      · rename_i s1 own1
        split at h
        · rename_i hds
          split at h
          · rename_i l hl
            simp at h
            obtain ⟨rfl, rfl⟩ := h
            refine (execE_sound hm ho ih lf c hcode _ _ _ _ _ hex).mono ?_
            rintro e t o ⟨rfl, rfl, rfl⟩
            exact ⟨hds, l, hl, rfl, rfl⟩
          · cases h
        · cases h
      · rename_i v s1 own1
        split at h
        · rename_i hds
          simp at h
          obtain ⟨rfl, rfl⟩ := h
          refine (execE_sound hm ho ih lf c hcode _ _ _ _ _ hex).mono ?_
          rintro e t o ⟨rfl, rfl, rfl⟩
          exact ⟨hds, rfl, rfl⟩
        · cases h
      · cases h

end
end Go.Sim
