/-
  A calculus of abstract runs, part 13: a region that draws its order: whole.
-/
import Derived.Test.YtocecgdblhjojaaGreatDoorSim12
namespace Go.Sim

section
variable {P : Program} {w0 : World} {out : Nat → Nat → Option Value} {ops : Array Oper} {flat : List (Nat × PK)} {m0 : M} {own0 : List Blk} {w00 : World}
variable {L : Nat → Bool} {rem : List (Nat × PK)} {lc : List Nat} {s : AA} {own : List Blk} {m : M} {w : World} {a : Act} {β : Nat → Option Nat}

/-- The abstract state goes on over reads; they may lag behind in the world. -/
theorem consume (F : Facts P ops flat) {K : AA → Prop} : ∀ (qs : List Nat) (lc : List Nat) (s : AA), J P w0 ops flat m0 own0 w00 L (tq qs ++ rem) lc s own m w a β → qsWp P out ops qs s own K →
    ∃ s1, K s1 ∧ J P w0 ops flat m0 own0 w00 L rem (lc ++ qs) s1 own m w a β
  | [], lc, s, j, h => ⟨s, h, by simpa [tq] using j⟩
  | i :: qs, lc, s, j, h => by
    obtain ⟨o, v, hop, _, hk⟩ := h
    have hir : (i, PK.q) ∈ tq (i :: qs) ++ rem := by simp [tq]
    have hif := mem_flat j hir
    have hone := F.one _ hif
    unfold oneOk at hone
    simp only [hop, Bool.and_eq_true] at hone
    obtain ⟨hp, hone⟩ := hone
    cases hd : o.dst with
    | none => rw [hd] at hone; cases hone
    | some d =>
      have hdo : dstOf ops i = some d := by simp [dstOf, hop, hd]
      have hLi : L i = false := by
        cases hL : L i with
        | false => rfl
        | true => have := (j.early i .q hir hL).1; cases this
      obtain ⟨pre, e⟩ := j.suf
      have e' : flat = (pre ++ [(i, PK.q)]) ++ (tq qs ++ rem) := by rw [e]; simp [tq]
      have hnot : (i, PK.q) ∉ tq qs ++ rem := cut_one F e' (by simp)
      have j' : J P w0 ops flat m0 own0 w00 L (tq qs ++ rem) (lc ++ [i]) { s with t := putA s.t o.dst v } own m w a β := by
        refine ⟨j.rep, j.base0, j.step, by rw [hd]; simp [putA, j.len], j.ds, j.down, ⟨_, e'⟩, fun x kx hx hxr hLx => ?_, fun x kx hxr hLx => ?_, j.binj, j.blt, fun f v1 u hv1 hu1 hse => ?_⟩
        · by_cases ex : (x, kx) = (i, PK.q)
          · cases ex; exact ⟨rfl, by simp⟩
          · obtain ⟨h1, h2⟩ := j.late x kx hx (by
              intro hm
              rcases List.mem_cons.1 (show (x, kx) ∈ (i, PK.q) :: (tq qs ++ rem) by simpa [tq] using hm) with h | h
              · exact ex h
              · exact hxr h) hLx
            exact ⟨h1, by simp [h2]⟩
        · exact j.early x kx (by simpa [tq] using Or.inr (by simpa [tq] using hxr)) hLx
        · rw [hd] at hv1
          simp only [putA] at hv1
          rcases set_get hv1 with ⟨rfl, _, _⟩ | ⟨hne, hv2⟩
          · have := hse i .q hif hdo
            rw [hLi] at this
            exact absurd (this.2 hnot) (by simp)
          · refine j.tm f v1 u hv2 hu1 fun jj kk hjk hdj => ?_
            have := hse jj kk hjk hdj
            rw [this]
            constructor
            · intro h hm
              rcases List.mem_cons.1 (show (jj, kk) ∈ (i, PK.q) :: (tq qs ++ rem) by simpa [tq] using hm) with h' | h'
              · cases h'; rw [hdo] at hdj; cases hdj; exact hne rfl
              · exact h h'
            · intro h hm
              exact h (by simpa [tq] using Or.inr (by simpa [tq] using hm))
      obtain ⟨s1, h1, h2⟩ := consume F qs (lc ++ [i]) _ j' hk
      exact ⟨s1, h1, by simpa using h2⟩

/-- What was made early is taken over. -/
theorem adopt (F : Facts P ops flat) {K : AA → List Blk → Prop} : ∀ (zs : List Nat) (s : AA) (own : List Blk) (m : M), (∀ i ∈ zs, L i = true) → J P w0 ops flat m0 own0 w00 L (tz zs ++ rem) lc s own m w a β → zsWp P out ops zs s own K →
    ∃ s1 own1 m1, K s1 own1 ∧ J P w0 ops flat m0 own0 w00 L rem lc s1 own1 m1 w a β
  | [], s, own, m, _, j, h => ⟨s, own, m, h, by simpa [tz] using j⟩
  | i :: zs, s, own, m, hL, j, h => by
    obtain ⟨o, v, own1, hop, haop, hk⟩ := h
    have hir : (i, PK.z) ∈ tz (i :: zs) ++ rem := by simp [tz]
    have hif := mem_flat j hir
    obtain ⟨_, o', d, B, c, mk, b, h1, hd, hlazy, h4, h5, h6, h7, h8⟩ := j.early i .z hir (hL i (by simp))
    rw [hop] at h1; cases h1
    have hdo : dstOf ops i = some d := by simp [dstOf, hop, hd]
    obtain ⟨v2, ha2, hv2⟩ := hlazy.2.2.2.2 out own (evalA s.t)
    rw [haop] at ha2
    simp only [Option.some.injEq, Prod.mk.injEq, AR.value.injEq] at ha2
    obtain ⟨rfl, rfl⟩ := ha2
    obtain ⟨pre, e⟩ := j.suf
    have e' : flat = (pre ++ [(i, PK.z)]) ++ (tz zs ++ rem) := by rw [e]; simp [tz]
    have hnot : (i, PK.z) ∉ tz zs ++ rem := cut_one F e' (by simp)
    obtain ⟨hrep, hstep⟩ := adopt_rel j.rep (Nat.le_trans j.base0 h7) h5 h8 hlazy.1 hlazy.2.2.1 (hlazy.2.2.2.1 m)
    have hext := Ext.push m b 0 0 0
    have j' : J P w0 ops flat m0 own0 w00 L (tz zs ++ rem) lc { s with t := putA s.t o.dst v } (own ++ [B]) (m.push b 0 0 0) w a β := by
      refine ⟨hrep, j.base0, hstep j.step h7, by rw [hd]; simp [putA, j.len], j.ds.mono hext, j.down, ⟨_, e'⟩, fun x kx hx hxr hLx => ?_, fun x kx hxr hLx => ?_, j.binj, j.blt, fun f v1 u hv1 hu1 hse => ?_⟩
      · refine j.late x kx hx (fun hm => ?_) hLx
        rcases List.mem_cons.1 (show (x, kx) ∈ (i, PK.z) :: (tz zs ++ rem) by simpa [tz] using hm) with h | h
        · cases h; rw [hL i (by simp)] at hLx; cases hLx
        · exact hxr h
      · obtain ⟨g1, o2, d2, B2, c2, mk2, b2, g2, g3, g4, g5, g6, g7, g8, g9⟩ := j.early x kx (by simpa [tz] using Or.inr (by simpa [tz] using hxr)) hLx
        refine ⟨g1, o2, d2, B2, c2, mk2, b2, g2, g3, g4, g5, g6, g7, g8, fun k A hkA hAd => ?_⟩
        by_cases hlt : k < own.length
        · rw [List.getElem?_append_left hlt] at hkA
          rw [(hext.2 k (by rw [j.rep.len]; exact hlt)).1]
          exact g9 k A hkA hAd
        · have h2 := lt_of_get hkA
          simp at h2
          have ek : k = m.n := by rw [j.rep.len]; omega
          subst ek
          rw [push_last]
          intro eb
          simp only at eb
          have := j.binj i x b h4 (by rw [eb]; exact g5)
          subst this
          have := kind_one F (mem_flat j hir) (mem_flat j (show (i, kx) ∈ tz (i :: zs) ++ rem by simpa [tz] using Or.inr (by simpa [tz] using hxr)))
          subst this
          exact hnot hxr
      · rw [hd] at hv1
        simp only [putA] at hv1
        rcases set_get hv1 with ⟨rfl, rfl, _⟩ | ⟨hne, hv3⟩
        · rw [h6 u hu1]
          exact hv2 m b j.rep.len
        · refine (j.tm f v1 u hv3 hu1 fun jj kk hjk hdj => ?_).mono hext
          have := hse jj kk hjk hdj
          rw [this]
          constructor
          · intro h hm
            rcases List.mem_cons.1 (show (jj, kk) ∈ (i, PK.z) :: (tz zs ++ rem) by simpa [tz] using hm) with h' | h'
            · cases h'; rw [hdo] at hdj; cases hdj; exact hne rfl
            · exact h h'
          · intro h hm
            exact h (by simpa [tz] using Or.inr (by simpa [tz] using hm))
    exact adopt F zs _ _ _ (fun x hx => hL x (by simp [hx])) j' hk

/-- The next one in order. -/
theorem e_step (ho : OutOK w0 out) {Q : AExit → AA → List Blk → Prop} (F : Facts P ops flat) {i : Nat} {rem' : List (Nat × PK)} (j : J P w0 ops flat m0 own0 w00 L ((i, PK.e) :: rem') lc s own m w a β) (hL : L i = false)
    (hrdy : ∀ k, isAnc ops i k = true → L k = true) {KK : AA → List Blk → Prop} (h : eWp P w0 out ops Q i s own KK) {K : Act → World → Prop}
    (hK : ∀ s3 own3 m' w' a', KK s3 own3 → J P w0 ops flat m0 own0 w00 (fun x => if x = i then true else L x) rem' (lc.filter fun x => !isAnc ops i x) s3 own3 m' w' a' β → K a' w') :
    wpOp P ops (Post w0 m0 own0 w00 Q) i K a w := by
  obtain ⟨o, hop, hk⟩ := h
  obtain ⟨pre, e⟩ := j.suf
  have hif : (i, PK.e) ∈ flat := by rw [e]; simp
  obtain ⟨o', hop', hp⟩ := flat_lt F hif
  simp only at hop'
  rw [hop] at hop'; cases hop'
  obtain ⟨hv, hw⟩ := operands_rel j hop hp (head_settled F j hL hrdy)
  have e' : flat = (pre ++ [(i, PK.e)]) ++ rem' := by rw [e]; simp
  have hnot : (i, PK.e) ∉ rem' := cut_one F e' (by simp)
  -- what holds behind it
  have fin : ∀ (own' : List Blk) (m' : M) (w' : World) (v v' : Value) (ds' : List (FuncId × List Value)) (df' : List Deferred), Rep w0 m' own' w' → Step m own w m' own' w' → VRel m' v v' → DRel m' ds' df' →
      J P w0 ops flat m0 own0 w00 (fun x => if x = i then true else L x) rem' (lc.filter fun x => !isAnc ops i x) { t := putA s.t o.dst v, ds := ds' } own' m' w' ({ a with defers := df' }.put o.dst v') β := by
    intro own' m' w' v v' ds' df' hrep hstep hvr hds
    refine ⟨hrep, j.base0, j.step.trans hstep, by rw [put_size]; cases o.dst <;> simp [putA, j.len], by rw [put_defers]; exact hds, down_set j.down hrdy, ⟨_, e'⟩, fun x kx hx hxr hLx => ?_, fun x kx hxr hLx => ?_, j.binj, fun x b hb => Nat.lt_of_lt_of_le (j.blt x b hb) hstep.size, fun f v1 u hv1 hu1 hse => ?_⟩
    · by_cases ex : x = i
      · simp [ex] at hLx
      · rw [if_neg ex] at hLx
        obtain ⟨h1, h2⟩ := j.late x kx hx (fun hm => by
          rcases List.mem_cons.1 hm with h | h
          · cases h; exact ex rfl
          · exact hxr h) hLx
        refine ⟨h1, List.mem_filter.2 ⟨h2, ?_⟩⟩
        cases hanc : isAnc ops i x with
        | false => rfl
        | true => rw [hrdy x hanc] at hLx; cases hLx
    · have hxi : x ≠ i := fun ex => by
        subst ex
        have := kind_one F (show (x, kx) ∈ flat by rw [e']; exact List.mem_append_right _ hxr) hif
        subst this
        exact hnot hxr
      rw [if_neg hxi] at hLx
      obtain ⟨h1, h2⟩ := j.early x kx (List.mem_cons_of_mem _ hxr) hLx
      refine ⟨h1, h2.mono hstep (j.blt x) fun dx hdx u hu => ?_⟩
      cases hd : o.dst with
      | none => rw [hd] at hu; exact hu
      | some d =>
        rw [hd] at hu
        rcases put_get hu with ⟨rfl, _⟩ | ⟨_, h⟩
        · have hdo : dstOf ops i = some dx := by simp [dstOf, hop, hd]
          exact absurd (by have := dst_one F (show (x, kx) ∈ flat by rw [e']; exact List.mem_append_right _ hxr) hif hdx hdo; injection this) hxi
        · exact h
    · have old : s.t[f]? = some v1 → a.tmps[f]? = some u → (∀ d, o.dst = some d → f ≠ d) → VRel m' v1 u := fun h1 h2 hne =>
        (j.tm f v1 u h1 h2 fun jj kk hjk hdj => by
          have := hse jj kk hjk hdj
          by_cases ej : jj = i
          · subst ej
            have hd : o.dst = some f := by simpa [dstOf, hop] using hdj
            exact absurd rfl (hne f hd)
          · simp only [if_neg ej] at this
            rw [this]
            constructor
            · intro h hm
              rcases List.mem_cons.1 hm with h' | h'
              · cases h'; exact ej rfl
              · exact h h'
            · intro h hm; exact h (List.mem_cons_of_mem _ hm)).mono hstep.ext
      cases hd : o.dst with
      | none => rw [hd] at hv1 hu1; exact old hv1 hu1 (fun d h => by rw [hd] at h; cases h)
      | some d =>
        rw [hd] at hv1 hu1
        simp only [putA] at hv1
        rcases put_get hu1 with ⟨rfl, rfl⟩ | ⟨hne, hu2⟩
        · rcases set_get hv1 with ⟨_, rfl, _⟩ | ⟨hne, _⟩
          · exact hvr
          · exact absurd rfl hne
        · rcases set_get hv1 with ⟨h, _, _⟩ | ⟨_, hv2⟩
          · exact absurd h hne
          · exact old hv2 hu2 (fun d' h => by rw [hd] at h; cases h; exact hne)
  have masked : ∀ m', Ext m m' → PRel m' (maskT ops s.t) a.tmps := fun m' hx => by
    refine ⟨by rw [maskT_length]; exact j.len, fun d v v' h1 h2 => ?_⟩
    rcases mask_get ops.toList s.t d v h1 with h | ⟨h3, h4⟩
    · exact .inl h
    · refine .inr ((j.tm d v v' h3 h2 fun jj kk _ hdj => ?_).mono hx)
      unfold dstOf at hdj
      cases hj : ops[jj]? with
      | none => rw [hj] at hdj; cases hdj
      | some oj =>
        rw [hj] at hdj
        exact absurd hdj (h4 oj (by have := Array.mem_of_getElem? hj; simpa using this))
  unfold wpOp
  rw [hop]
  simp only
  rw [hw]
  split at hk
  · rename_i hwt
    rw [if_pos hwt]
    left
    obtain ⟨r, own', haop, hr⟩ := hk
    have hsnd := aop_sound_of j.rep ho hv haop
    unfold Oper.wp
    cases r with
    | value v =>
      obtain ⟨v', w', m', hrun, hvr, hrep, hstep⟩ := hsnd
      have hf := hK _ _ m' w' _ hr (fin own' m' w' v v' s.ds a.defers hrep hstep hvr (j.ds.mono hstep.ext))
      rcases hrun with hrun | ⟨hrun, rfl⟩
      · rw [hrun]; exact hf
      · rw [hrun]; exact hf
    | enter f args =>
      obtain ⟨rfl, args', hrun, hl⟩ := hsnd
      rw [hrun]
      refine (hr m w args' j.rep hl).mono fun en w' ⟨ae, o', m', hq, he, hr', hs'⟩ => ?_
      cases ae <;> cases en <;> first | exact he.elim | skip
      · exact hK _ _ m' w' _ hq (fin o' m' w' _ _ s.ds a.defers hr' hs' he (j.ds.mono hs'.ext))
      · obtain ⟨v', rfl, hv'⟩ := he
        -- behind a panic no slot is asked for
        exact ⟨.panic _, { s with t := maskT ops s.t }, o', m', hq, ⟨v', rfl, hv'⟩, ⟨masked m' hs'.ext, j.ds.mono hs'.ext⟩, hr', j.step.trans hs'⟩
    | panic v =>
      obtain ⟨rfl, v', hrun, hvr⟩ := hsnd
      rw [hrun]
      exact ⟨.panic _, { s with t := maskT ops s.t }, _, m, hr, ⟨v', rfl, hvr⟩, ⟨masked m (Ext.refl m), j.ds⟩, j.rep, j.step⟩
    | defer f args =>
      obtain ⟨rfl, dargs, cap, hrun, hl⟩ := hsnd
      rw [hrun]
      refine hK _ _ m w _ hr (fin _ m w undef undef ((f, args) :: s.ds) _ j.rep (Step.refl _ _ _) (undef_rel m) ?_)
      refine ⟨by simp [j.ds.1], fun x d d' h1 h2 => ?_⟩
      cases x with
      | zero => simp at h1 h2; subst h1; subst h2; exact ⟨dargs, cap, rfl, hl⟩
      | succ x => exact j.ds.2 x d d' (by simpa using h1) (by simpa using h2)
    | recover => exact hr.elim
  · rename_i hwt
    rw [if_neg hwt]
    exact hK _ _ m w _ hk (fin own m w undef undef s.ds a.defers j.rep (Step.refl _ _ _) (undef_rel m) j.ds)

end
end Go.Sim
