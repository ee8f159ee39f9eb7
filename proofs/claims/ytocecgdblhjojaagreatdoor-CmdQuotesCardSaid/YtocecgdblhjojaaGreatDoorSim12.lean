/-
  A calculus of abstract runs, part 12: a region that draws its order: the proof.
-/
import Derived.Test.YtocecgdblhjojaaGreatDoorSim11
namespace Go.Sim

section
variable {P : Program} {w0 : World} {out : Nat → Nat → Option Value} {ops : Array Oper} {flat : List (Nat × PK)} {m0 : M} {own0 : List Blk} {w00 : World}

/-- An early one's block. -/
def EarlyAt (P : Program) (ops : Array Oper) (m : M) (own : List Blk) (w w00 : World) (a : Act) (β : Nat → Option Nat) (i : Nat) : Prop :=
  ∃ o d B c mk b, ops[i]? = some o ∧ o.dst = some d ∧ LazyIs P o B c mk ∧ β i = some b ∧ w.heap[b]? = some (.cells c B.elem (0, 0)) ∧ (∀ v', a.tmps[d]? = some v' → v' = mk b) ∧ w00.heap.size ≤ b ∧
    ∀ (k : Nat) (A : Blk), own[k]? = some A → A.dead = false → (m.f k).1 ≠ b

def Settled (ops : Array Oper) (flat : List (Nat × PK)) (L : Nat → Bool) (rem : List (Nat × PK)) (d : Tmp) : Prop :=
  ∀ j k, (j, k) ∈ flat → dstOf ops j = some d → (L j = true ↔ (j, k) ∉ rem)

structure J (P : Program) (w0 : World) (ops : Array Oper) (flat : List (Nat × PK)) (m0 : M) (own0 : List Blk) (w00 : World) (L : Nat → Bool) (rem : List (Nat × PK)) (lc : List Nat)
    (s : AA) (own : List Blk) (m : M) (w : World) (a : Act) (β : Nat → Option Nat) : Prop where
  rep : Rep w0 m own w
  base0 : w0.heap.size ≤ w00.heap.size
  step : Step m0 own0 w00 m own w
  len : s.t.length = a.tmps.size
  ds : DRel m s.ds a.defers
  down : ∀ i, L i = true → ∀ j, isAnc ops i j = true → L j = true
  suf : ∃ pre, flat = pre ++ rem
  late : ∀ i k, (i, k) ∈ flat → (i, k) ∉ rem → L i = false → k = .q ∧ i ∈ lc
  early : ∀ i k, (i, k) ∈ rem → L i = true → k = .z ∧ EarlyAt P ops m own w w00 a β i
  binj : ∀ i j b, β i = some b → β j = some b → i = j
  blt : ∀ i b, β i = some b → b < w.heap.size
  tm : ∀ d v v', s.t[d]? = some v → a.tmps[d]? = some v' → Settled ops flat L rem d → VRel m v v'

variable {L : Nat → Bool} {rem : List (Nat × PK)} {lc : List Nat} {s : AA} {own : List Blk} {m : M} {w : World} {a : Act} {β : Nat → Option Nat}

theorem mem_flat (j : J P w0 ops flat m0 own0 w00 L rem lc s own m w a β) {x : Nat × PK} (h : x ∈ rem) : x ∈ flat := by
  obtain ⟨pre, e⟩ := j.suf
  rw [e]; exact List.mem_append_right _ h

theorem look_rel (j : J P w0 ops flat m0 own0 w00 L rem lc s own m w a β) {d : Tmp} (h : Settled ops flat L rem d) : VRel m (s.t.getD d undef) (a.tmps.getD d undef) := by
  simp only [List.getD_eq_getElem?_getD, Array.getD_eq_getD_getElem?]
  by_cases hd : d < s.t.length
  · have hd' : d < a.tmps.size := by rw [← j.len]; exact hd
    have := j.tm d s.t[d] a.tmps[d] (List.getElem?_eq_getElem hd) (Array.getElem?_eq_getElem hd') h
    rw [List.getElem?_eq_getElem hd, Array.getElem?_eq_getElem hd']
    exact this
  · rw [List.getElem?_eq_none (l := s.t) (Nat.le_of_not_lt hd), Array.getElem?_eq_none (xs := a.tmps) (by rw [← j.len]; exact Nat.le_of_not_lt hd)]
    exact undef_rel m

theorem mem_looksAt {o : Oper} {t : Tmp} (h : Operand.tmp t ∈ o.op.operands.toList) : t ∈ o.looksAt ops := by
  unfold Oper.looksAt
  refine List.mem_append_left _ (List.mem_filterMap.2 ⟨.tmp t, h, rfl⟩)

theorem operands_rel (j : J P w0 ops flat m0 own0 w00 L rem lc s own m w a β) {i : Nat} {o : Oper} (ho : ops[i]? = some o) (hp : plainOper o = true) (h : ∀ d ∈ looks ops i, Settled ops flat L rem d) :
    (∀ x ∈ o.op.operands.toList, VRel m (evalA s.t x) (a.eval x)) ∧ Region.wanted o (yielded ops a.tmps) = wantedA ops s.t o := by
  have hl : looks ops i = o.looksAt ops := by simp [looks, ho]
  rw [hl] at h
  refine ⟨fun x hx => ?_, ?_⟩
  · have hpx := List.all_eq_true.1 hp x hx
    cases x with
    | tmp t => exact look_rel j (h t (mem_looksAt hx))
    | const v => exact plainV_rel m hpx
    | global g => exact eval_rel (t := []) (a := ⟨#[], []⟩) (LRel.nil m) (x := .global g) rfl
    | func f => exact eval_rel (t := []) (a := ⟨#[], []⟩) (LRel.nil m) (x := .func f) rfl
  · unfold Region.wanted wantedA
    cases hg : o.guard with
    | none => rfl
    | some g =>
      obtain ⟨gj, want⟩ := g
      simp only
      unfold yielded yieldedA
      cases hd : (ops[gj]?).bind (·.dst) with
      | none => rfl
      | some d =>
        simp only [Option.bind_some]
        have hmem : d ∈ o.looksAt ops := by
          unfold Oper.looksAt
          rw [hg]
          refine List.mem_append_right _ ?_
          simp only [hd]
          simp
        have hs := h d hmem
        by_cases hlt : d < s.t.length
        · have hlt' : d < a.tmps.size := by rw [← j.len]; exact hlt
          have := j.tm d s.t[d] a.tmps[d] (List.getElem?_eq_getElem hlt) (Array.getElem?_eq_getElem hlt') hs
          rw [List.getElem?_eq_getElem hlt, Array.getElem?_eq_getElem hlt']
          generalize s.t[d] = x at this
          generalize a.tmps[d] = y at this
          cases this <;> rfl
        · rw [List.getElem?_eq_none (l := s.t) (Nat.le_of_not_lt hlt), Array.getElem?_eq_none (xs := a.tmps) (by rw [← j.len]; exact Nat.le_of_not_lt hlt)]

/-- What is ready is told as the abstract state has it: a late read. -/
theorem late_settled (F : Facts P ops flat) (j : J P w0 ops flat m0 own0 w00 L rem lc s own m w a β) {i : Nat} (hi : (i, PK.q) ∈ flat) (hr : (i, PK.q) ∉ rem) (hL : L i = false) (hrdy : ∀ k, isAnc ops i k = true → L k = true) :
    ∀ d ∈ looks ops i, Settled ops flat L rem d := by
  intro d hd jj k hjk hdst
  obtain ⟨pre, e⟩ := j.suf
  have hipre : (i, PK.q) ∈ pre := by rw [e] at hi; rcases List.mem_append.1 hi with h | h; exact h; exact absurd h hr
  by_cases hjr : (jj, k) ∈ rem
  · have hp := F.pair (bef_split e hipre hjr)
    simp only [pairOk, hdst, Bool.and_eq_true, Bool.or_eq_true] at hp
    have h5 := hp.2
    simp [hd] at h5
    obtain ⟨hk, _⟩ := h5
    have hk : k = .e := by simpa using hk
    subst hk
    refine ⟨fun hLj => ?_, fun hn => absurd hjr hn⟩
    have := (j.early jj .e hjr hLj).1
    cases this
  · refine ⟨fun _ => hjr, fun _ => ?_⟩
    by_cases hij : jj = i
    · subst hij
      have := F.one _ hi
      unfold oneOk at this
      split at this
      · cases this
      · rename_i o ho
        simp only [Bool.and_eq_true] at this
        have h2 := this.2
        have hdo : o.dst = some d := by simpa [dstOf, ho] using hdst
        rw [hdo] at h2
        simp [looks, ho] at hd
        simp [hd] at h2
    · rcases bef_or hjk hi (fun e => hij (by injection e)) with hb | hb
      · have hp := F.pair hb
        simp only [pairOk, hdst, Bool.and_eq_true] at hp
        have h4 := hp.1.2
        simp [hd] at h4
        exact hrdy jj h4.2
      · have hp := F.pair hb
        simp only [pairOk, hdst, Bool.and_eq_true] at hp
        have h5 := hp.2
        simp [hd] at h5
        obtain ⟨hk, hanc⟩ := h5
        have hk : k = .e := by simpa using hk
        subst hk
        cases hLj : L jj with
        | true => rfl
        | false => have := (j.late jj .e hjk hjr hLj).1; cases this

/-- .. and the next one in order. -/
theorem head_settled (F : Facts P ops flat) {i : Nat} {rem' : List (Nat × PK)} (j : J P w0 ops flat m0 own0 w00 L ((i, PK.e) :: rem') lc s own m w a β) (_hL : L i = false) (hrdy : ∀ k, isAnc ops i k = true → L k = true) :
    ∀ d ∈ looks ops i, Settled ops flat L ((i, PK.e) :: rem') d := by
  intro d hd jj k hjk hdst
  obtain ⟨pre, e⟩ := j.suf
  have hi : (i, PK.e) ∈ flat := by rw [e]; simp
  by_cases hjr : (jj, k) ∈ (i, PK.e) :: rem'
  · refine ⟨fun hLj => ?_, fun hn => absurd hjr hn⟩
    have hz := (j.early jj k hjr hLj).1
    subst hz
    rcases List.mem_cons.1 hjr with h | h
    · cases h
    · have hp := F.pair (bef_split (pre := pre ++ [(i, PK.e)]) (rem := rem') (by rw [e]; simp) (x := (i, PK.e)) (by simp) h)
      simp only [pairOk, hdst, Bool.and_eq_true] at hp
      have h5 := hp.2
      simp [hd] at h5
  · refine ⟨fun _ => hjr, fun _ => ?_⟩
    have hjpre : (jj, k) ∈ pre := by rw [e] at hjk; rcases List.mem_append.1 hjk with h | h; exact h; exact absurd h hjr
    have hp := F.pair (bef_split e hjpre (y := (i, PK.e)) (by simp))
    simp only [pairOk, hdst, Bool.and_eq_true] at hp
    have h4 := hp.1.2
    simp [hd] at h4
    exact hrdy jj h4.2

theorem down_set {i : Nat} (hd : ∀ i, L i = true → ∀ j, isAnc ops i j = true → L j = true) (hrdy : ∀ k, isAnc ops i k = true → L k = true) :
    ∀ k, (if k = i then true else L k) = true → ∀ j, isAnc ops k j = true → (if j = i then true else L j) = true := by
  intro k hk j hj
  by_cases e : j = i
  · simp [e]
  · simp only [if_neg e]
    by_cases ek : k = i
    · subst ek; exact hrdy j hj
    · rw [if_neg ek] at hk; exact hd k hk j hj

theorem put_get {a : Act} {d e : Tmp} {v v' : Value} (h : (a.put (some d) v).tmps[e]? = some v') : (e = d ∧ v' = v) ∨ (e ≠ d ∧ a.tmps[e]? = some v') := by
  simp only [Act.put] at h
  by_cases he : e = d
  · subst he
    by_cases hlt : e < a.tmps.size
    · rw [Array.getElem?_setIfInBounds_self_of_lt hlt] at h
      cases h; exact .inl ⟨rfl, rfl⟩
    · rw [Array.getElem?_eq_none (by simp; exact Nat.le_of_not_lt hlt)] at h; cases h
  · rw [Array.getElem?_setIfInBounds_ne (Ne.symm he)] at h; exact .inr ⟨he, h⟩
theorem put_size (a : Act) (d : Option Tmp) (v : Value) : (a.put d v).tmps.size = a.tmps.size := by cases d <;> simp [Act.put]

/-- What is early stays so. -/
theorem EarlyAt.mono {m m' : M} {own own' : List Blk} {w w' : World} {a a' : Act} {i : Nat} (h : EarlyAt P ops m own w w00 a β i) (hs : Step m own w m' own' w')
    (hlt : ∀ b, β i = some b → b < w.heap.size) (ht : ∀ d, dstOf ops i = some d → ∀ v', a'.tmps[d]? = some v' → a.tmps[d]? = some v') : EarlyAt P ops m' own' w' w00 a' β i := by
  obtain ⟨o, d, B, c, mk, b, h1, h2, h3, h4, h5, h6, h7, h8⟩ := h
  have hb := hlt b h4
  refine ⟨o, d, B, c, mk, b, h1, h2, h3, h4, by rw [hs.frame b hb (fun k A hk hd => h8 k A hk hd)]; exact h5, fun v' hv' => h6 v' (ht d (by simp [dstOf, h1, h2]) v' hv'), h7, fun k A hk hd e => ?_⟩
  rcases hs.sub k A hk hd with hn | ⟨j, A', hj, hd', hjk⟩
  · omega
  · exact h8 j A' hj hd' (hjk.trans e)

/-- An operation's result is put where no other one writes. -/
theorem J.put_step (F : Facts P ops flat) (j : J P w0 ops flat m0 own0 w00 L rem lc s own m w a β) {i : Nat} {k : PK} (hi : (i, k) ∈ flat) (hr : (i, k) ∉ rem) {o : Oper} {d : Tmp} (ho : ops[i]? = some o) (hd : o.dst = some d)
    (hrdy : ∀ k, isAnc ops i k = true → L k = true) {m' : M} {w' : World} {v' : Value} (hrep : Rep w0 m' own w') (hstep : Step m own w m' own w') (hv : VRel m' (s.t.getD d undef) v') :
    J P w0 ops flat m0 own0 w00 (fun x => if x = i then true else L x) rem lc s own m' w' (a.put o.dst v') β := by
  have hdo : dstOf ops i = some d := by simp [dstOf, ho, hd]
  refine ⟨hrep, j.base0, j.step.trans hstep, by rw [put_size]; exact j.len, by rw [put_defers]; exact j.ds.mono hstep.ext, down_set j.down hrdy, j.suf, fun x kx hx hxr hLx => ?_, fun x kx hxr hLx => ?_, j.binj, fun x b hb => Nat.lt_of_lt_of_le (j.blt x b hb) hstep.size, fun e v u hv1 hu1 hse => ?_⟩
  · by_cases ex : x = i
    · simp [ex] at hLx
    · rw [if_neg ex] at hLx; exact j.late x kx hx hxr hLx
  · have hxi : x ≠ i := fun ex => by
      subst ex
      have := kind_one F (mem_flat j hxr) hi
      subst this
      exact hr hxr
    rw [if_neg hxi] at hLx
    obtain ⟨h1, h2⟩ := j.early x kx hxr hLx
    refine ⟨h1, h2.mono hstep (j.blt x) fun dx hdx u hu => ?_⟩
    rw [hd] at hu
    rcases put_get hu with ⟨rfl, _⟩ | ⟨_, h⟩
    · exact absurd (by have := dst_one F (mem_flat j hxr) hi hdx hdo; injection this) hxi
    · exact h
  · rw [hd] at hu1
    rcases put_get hu1 with ⟨rfl, rfl⟩ | ⟨hne, hu2⟩
    · have : s.t.getD e undef = v := by rw [List.getD_eq_getElem?_getD, hv1]; rfl
      rw [← this]; exact hv
    · refine (j.tm e v u hv1 hu2 fun jj kk hjk hdj => ?_).mono hstep.ext
      have := hse jj kk hjk hdj
      by_cases ej : jj = i
      · subst ej; rw [hdo] at hdj; cases hdj; exact absurd rfl hne
      · simpa [ej] using this

/-- A late read. -/
theorem late_step (ho : OutOK w0 out) (F : Facts P ops flat) (j : J P w0 ops flat m0 own0 w00 L rem lc s own m w a β) {i : Nat} (hi : (i, PK.q) ∈ flat) (hr : (i, PK.q) ∉ rem) (hL : L i = false) (hrdy : ∀ k, isAnc ops i k = true → L k = true)
    (hrr : RR P out ops i s own) {K : Act → World → Prop} {QQ : Exit → Act → World → Prop}
    (hK : ∀ m' w' a', J P w0 ops flat m0 own0 w00 (fun x => if x = i then true else L x) rem lc s own m' w' a' β → K a' w') : wpOp P ops QQ i K a w := by
  obtain ⟨o, d, hop, hd, hval⟩ := hrr
  obtain ⟨o', hop', hp⟩ := flat_lt F hi
  simp only at hop'
  rw [hop] at hop'; cases hop'
  obtain ⟨hv, hw⟩ := operands_rel j hop hp (late_settled F j hi hr hL hrdy)
  unfold wpOp
  rw [hop]
  simp only
  rw [hw]
  by_cases hwt : wantedA ops s.t o = true
  · rw [if_pos hwt] at hval ⊢
    left
    obtain ⟨v', w', m', hrun, hvr, hrep, hstep⟩ := aop_sound_of j.rep ho hv hval
    have hfin := J.put_step F j hi hr hop hd hrdy hrep hstep hvr
    unfold Oper.wp
    rcases hrun with hrun | ⟨hrun, rfl⟩
    · rw [hrun]; exact hK m' w' _ hfin
    · rw [hrun]; exact hK m' w' _ hfin
  · rw [if_neg hwt] at hval ⊢
    refine hK m w _ (J.put_step F j hi hr hop hd hrdy j.rep (Step.refl _ _ _) ?_)
    rw [hval]; exact undef_rel m

/-- More lies in the world than is told. -/
theorem alloc_more (hr : Rep w0 m own w) (o : Obj) : Rep w0 m own (w.alloc o) ∧ Step m own w m own (w.alloc o) := by
  have hold : ∀ b, b < w.heap.size → (w.alloc o).heap[b]? = w.heap[b]? := fun b hb => by
    show (w.heap.push o)[b]? = _
    rw [Array.getElem?_push, if_neg (by omega)]
  have hsz : w.heap.size ≤ (w.alloc o).heap.size := by show _ ≤ (w.heap.push o).size; simp
  refine ⟨⟨hr.len, Nat.le_trans hr.size hsz, fun b hb => by rw [hold b (Nat.lt_of_lt_of_le hb hr.size)]; exact hr.outer b hb, hr.os, hr.tape, hr.output, fun k B hk hd => ?_, hr.inj⟩,
    ⟨Ext.refl m, hsz, fun b hb _ => hold b hb, fun k B hk hd => .inr ⟨k, B, hk, hd, rfl⟩⟩⟩
  have := hr.blk k B hk hd
  refine this.mono (Ext.refl m) (by rw [hr.len]; exact lt_of_get hk) (hold _ ?_)
  obtain ⟨_, c, fr, h1, _⟩ := this
  by_cases hlt : (m.f k).1 < w.heap.size
  · exact hlt
  · rw [Array.getElem?_eq_none (by omega)] at h1; cases h1

/-- A block is made ahead of its time. -/
theorem early_step (F : Facts P ops flat) (j : J P w0 ops flat m0 own0 w00 L rem lc s own m w a β) {i : Nat} (hi : (i, PK.z) ∈ rem) (hL : L i = false) (hrdy : ∀ k, isAnc ops i k = true → L k = true)
    {K : Act → World → Prop} {QQ : Exit → Act → World → Prop}
    (hK : ∀ w' a' β', J P w0 ops flat m0 own0 w00 (fun x => if x = i then true else L x) rem lc s own m w' a' β' → K a' w') : wpOp P ops QQ i K a w := by
  have hif := mem_flat j hi
  have hone := F.one _ hif
  unfold oneOk at hone
  split at hone
  · cases hone
  · rename_i o hop
    simp only at hop
    simp only [Bool.and_eq_true] at hone
    obtain ⟨hp, hds, hlz⟩ := hone
    obtain ⟨hg, B, c, mk, hlazy⟩ := lazy_is hlz
    obtain ⟨d, hd⟩ := Option.isSome_iff_exists.1 hds
    have hdo : dstOf ops i = some d := by simp [dstOf, hop, hd]
    unfold wpOp
    rw [hop]
    simp only
    have hw : Region.wanted o (yielded ops a.tmps) = true := by unfold Region.wanted; rw [hg]
    rw [if_pos hw]
    left
    unfold Oper.wp
    rw [hlazy.2.1 a w]
    refine hK (w.alloc (.cells c B.elem)) (a.put o.dst (mk w.heap.size)) (fun x => if x = i then some w.heap.size else if L x then β x else none) ?_
    obtain ⟨hrep, hstep⟩ := alloc_more j.rep (.cells c B.elem)
    have hnew : (w.alloc (.cells c B.elem)).heap[w.heap.size]? = some (.cells c B.elem (0, 0)) := by
      show (w.heap.push _)[w.heap.size]? = _
      simp
    have hfree : ∀ (k : Nat) (A : Blk), own[k]? = some A → A.dead = false → (m.f k).1 ≠ w.heap.size := fun k A hk hd e => by
      obtain ⟨_, c, fr, h1, _⟩ := j.rep.blk k A hk hd
      rw [e, Array.getElem?_eq_none (by omega)] at h1; cases h1
    refine ⟨hrep, j.base0, j.step.trans hstep, by rw [put_size]; exact j.len, by rw [put_defers]; exact j.ds, down_set j.down hrdy, j.suf, fun x kx hx hxr hLx => ?_, fun x kx hxr hLx => ?_, fun x y b hx hy => ?_, fun x b hb => ?_, fun e v u hv1 hu1 hse => ?_⟩
    · by_cases ex : x = i
      · simp [ex] at hLx
      · rw [if_neg ex] at hLx; exact j.late x kx hx hxr hLx
    · by_cases ex : x = i
      · subst ex
        have hk := kind_one F (mem_flat j hxr) hif
        subst hk
        refine ⟨rfl, o, d, B, c, mk, w.heap.size, hop, hd, hlazy, by simp, hnew, fun v' hv' => ?_, j.step.size, hfree⟩
        rw [hd] at hv'
        rcases put_get hv' with ⟨_, h⟩ | ⟨h, _⟩
        · exact h
        · exact absurd rfl h
      · rw [if_neg ex] at hLx
        obtain ⟨h1, h2⟩ := j.early x kx hxr hLx
        have h3 := h2.mono (a' := a.put o.dst (mk w.heap.size)) hstep (j.blt x) fun dx hdx u hu => by
          rw [hd] at hu
          rcases put_get hu with ⟨rfl, _⟩ | ⟨_, h⟩
          · exact absurd (by have := dst_one F (mem_flat j hxr) hif hdx hdo; injection this) ex
          · exact h
        obtain ⟨o', d', B', c', mk', b', g1, g2, g3, g4, g5, g6, g7, g8⟩ := h3
        exact ⟨h1, o', d', B', c', mk', b', g1, g2, g3, by simp [ex, hLx, g4], g5, g6, g7, g8⟩
    · by_cases ex : x = i <;> by_cases ey : y = i
      · rw [ex, ey]
      · simp only [ex, if_true, Option.some.injEq] at hx
        simp only [ey, if_false] at hy
        split at hy
        · have := j.blt y b hy; omega
        · cases hy
      · simp only [ey, if_true, Option.some.injEq] at hy
        simp only [ex, if_false] at hx
        split at hx
        · have := j.blt x b hx; omega
        · cases hx
      · simp only [ex, if_false] at hx
        simp only [ey, if_false] at hy
        split at hx
        · split at hy
          · exact j.binj x y b hx hy
          · cases hy
        · cases hx
    · by_cases ex : x = i
      · simp only [ex, if_true, Option.some.injEq] at hb
        subst hb
        show _ < (w.heap.push _).size
        simp
      · simp only [ex, if_false] at hb
        split at hb
        · exact Nat.lt_of_lt_of_le (j.blt x b hb) hstep.size
        · cases hb
    · rw [hd] at hu1
      rcases put_get hu1 with ⟨rfl, rfl⟩ | ⟨hne, hu2⟩
      · have := hse i .z hif hdo
        simp at this
        exact absurd hi this
      · refine j.tm e v u hv1 hu2 fun jj kk hjk hdj => ?_
        have := hse jj kk hjk hdj
        by_cases ej : jj = i
        · subst ej; rw [hdo] at hdj; cases hdj; exact absurd rfl hne
        · simpa [ej] using this

end
end Go.Sim
