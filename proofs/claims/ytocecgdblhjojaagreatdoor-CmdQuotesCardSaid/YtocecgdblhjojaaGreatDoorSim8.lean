/-
  A calculus of abstract runs, part 8: what an abstract operation says is so.
-/
import Derived.Test.YtocecgdblhjojaaGreatDoorSim7
namespace Go.Sim

section
variable {w0 : World} {out : Nat → Nat → Option Value} {m : M} {own : List Blk} {w : World} {P : Program}

theorem ok_same {o : Oper} {a : Act} {v v' : Value} (hr : Rep w0 m own w) (hrun : (execOp a.eval o).run P w = .ok (.value v') w) (hv : VRel m v v') : OpOK P w0 m own w o a (.value v) own :=
  ⟨v', w, m, .inl hrun, hv, hr, Step.refl _ _ _⟩

theorem ORel_map {ρ ρ' : Operand → Value} {x : Option Operand} (h : ∀ y ∈ x.toArray.toList, VRel m (ρ y) (ρ' y)) : OVRel m (x.map ρ) (x.map ρ') := by
  cases x with
  | none => trivial
  | some y => exact h y (by simp)

theorem callee_rel {x x' : Value} {g : FuncId} {f c : List Value} (hx : VRel m x x') (h : calleeA x = some (g, f, c)) :
    ∃ f' c' : Array Value, x' = .func (.func g) f' c' ∧ LRel m f f'.toList ∧ LRel m c c'.toList := by
  cases hx with
  | func fn y z y' z' h1 h2 h3 h4 =>
    cases fn <;> simp [calleeA] at h
    obtain ⟨rfl, rfl, rfl⟩ := h
    exact ⟨y', z', rfl, ARel.toList ⟨h1, h2⟩, ARel.toList ⟨h3, h4⟩⟩
  | _ => simp [calleeA] at h

theorem sliceAt_plain {lo : Option Operand} {ρ ρ' : Operand → Value} (hlo : ∀ y ∈ lo.toList, VRel m (ρ y) (ρ' y)) (hp : allPlain (lo.toList.map ρ) = true) : lo.map ρ' = lo.map ρ := by
  cases lo with
  | none => rfl
  | some y =>
    simp [allPlain] at hp
    simp [plainV_eq (hlo y (by simp)) hp]

set_option maxHeartbeats 1000000 in
theorem callA_sound (hr : Rep w0 m own w) (ho : OutOK w0 out) {a : Act} {ρ : Operand → Value} {c : Call} {dst : Option Tmp} {ty : TypeId} {pos : String} {after : Array Edge} {guard : Option (Nat × Bool)}
    (hv : ∀ x ∈ c.operands.toList, VRel m (ρ x) (a.eval x)) {r : AR} {own' : List Blk} (h : callA P out own ρ c ty = some (r, own')) :
    OpOK P w0 m own w { dst, op := .call c, type := ty, pos, after, guard } a r own' := by
  have hargs : LRel m (c.args.toList.map ρ) (c.args.map a.eval).toList := by
    rw [Array.toList_map]
    refine map_rel fun x hx => hv x ?_
    simp only [Call.operands, Array.toList_append]
    exact List.mem_append_right _ hx
  have hplain : ∀ {b : Builtin} {v : Value}, (c.callee = .builtin b) → b ≠ .recover → allPlain (c.args.toList.map ρ) = true → pureN P (builtin b c.argTypes ty (c.args.map isConstOp) (c.args.map ρ)) = some v →
      OpOK P w0 m own w { dst, op := .call c, type := ty, pos, after, guard } a (.value v) own := by
    intro b v hb hne hp hN
    have e : c.args.map a.eval = c.args.map ρ := by
      have := allPlain_eq hargs hp
      apply Array.ext'
      rw [this, Array.toList_map]
    refine ok_same hr ?_ ((pureN_run hN w).2 m)
    simp only [execOp, resolve, hb, Sem.run_bind, Sem.run_pure, Result.andThen_ok, invoke, e]
    exact (pureN_run hN w).1
  unfold callA at h
  split at h
  · -- append
    rename_i hb
    split at h
    · rename_i st xt s x h0 h1 hl
      split at h
      · rename_i v own1 happ
        simp at h
        obtain ⟨rfl, rfl⟩ := h
        rw [hl] at hargs
        obtain ⟨v', w', m', g1, g2, g3, g4⟩ := appendA_rel P hr ho h0 h1 (s' := a.eval s) (x' := a.eval x) (hv s (by simp [Call.operands, hb, hl])) (hv x (by simp [Call.operands, hb, hl])) happ (ty := ty)
        have e : c.args.map a.eval = #[a.eval s, a.eval x] := by
          apply Array.ext'; rw [Array.toList_map, hl]; rfl
        exact ⟨v', w', m', .inl (by simp [execOp, resolve, hb, invoke, e, builtin, g1]), g2, g3, g4⟩
      · cases h
    · cases h
  · rename_i hb
    simp at h
    obtain ⟨rfl, rfl⟩ := h
    exact ⟨rfl, by simp [execOp, resolve, hb, invoke, builtin]⟩
  · rename_i b hb1 hb2 hb
    split at h
    · rename_i _ t x hat hl
      split at h
      · rename_i v hlen
        simp at h
        obtain ⟨rfl, rfl⟩ := h
        unfold lenA at hlen
        split at hlen
        · rename_i e ad n cc hte hx
          simp at hlen
          subst hlen
          have hvx := hv x (by simp [Call.operands, hb, hl])
          rw [hx] at hvx
          have e1 : c.args.map a.eval = #[a.eval x] := by apply Array.ext'; rw [Array.toList_map, hl]; rfl
          have e2 : c.argTypes = #[t] := by apply Array.ext'; rw [hat]
          have hlen' : ∃ ad' cc', a.eval x = .slice ad' n cc' := by
            generalize a.eval x = y at hvx
            cases hvx with
            | sliceNil => exact ⟨_, _, rfl⟩
            | slice => exact ⟨_, _, rfl⟩
            | sliceEmpty => exact ⟨_, _, rfl⟩
          obtain ⟨ad', cc', hy⟩ := hlen'
          refine ok_same hr (v' := .int .i64 n) ?_ (.int _ _)
          have hel : P.underlying t = some (.slice (P.elem t)) := by simp [Program.elem, hte]
          simp [execOp, resolve, hb, invoke, e1, e2, builtin, hy, run_len_slice w t _ ad' n cc' hel, goInt]
        · cases hlen
      · split at h
        · rename_i hp
          split at h
          · rename_i v hN
            simp at h
            obtain ⟨rfl, rfl⟩ := h
            exact hplain hb (by simp) (by rw [hl]; simpa [allPlain] using hp) hN
          · cases h
        · cases h
    · split at h
      · rename_i hp
        split at h
        · rename_i v hN
          simp at h
          obtain ⟨rfl, rfl⟩ := h
          exact hplain hb hb2 hp hN
        · cases h
      · cases h
  · rename_i f hf
    split at h
    · rename_i g first cap hcal
      have hvf := hv f (by simp [Call.operands, hf])
      obtain ⟨f', c', hfe, hfl, hcl⟩ := callee_rel hvf hcal
      split at h
      · rename_i fn hfn
        simp only at h
        split at h
        · cases h
        rename_i hname
        have hall : LRel m (first ++ c.args.toList.map ρ ++ cap) ((f' ++ c.args.map a.eval) ++ c').toList := by
          simp only [Array.toList_append]
          exact (hfl.append hargs).append hcl
        split at h
        · rename_i hbody
          simp at h
          obtain ⟨rfl, rfl⟩ := h
          refine ⟨rfl, _, ?_, by rw [← List.append_assoc]; exact hall⟩
          have hbn : fn.body ≠ none := by intro hq; rw [hq] at hbody; cases hbody
          simp at hname
          simp [execOp, resolve, hf, hfe, Deferred.ofValue, invoke, callFunc, hfn, hname, hbn]
        · rename_i hbody
          split at h
          · rename_i hp
            split at h
            · rename_i v hN
              simp at h
              obtain ⟨rfl, rfl⟩ := h
              have e := allPlain_eq hall hp
              refine ok_same hr ?_ ((pureN_run hN w).2 m)
              simp only [execOp, resolve, hf, hfe, Deferred.ofValue, Sem.run_bind, Sem.run_pure, Result.andThen_ok, invoke]
              rw [show (f' ++ c.args.map a.eval) ++ c' = (first ++ c.args.toList.map ρ ++ cap).toArray from by apply Array.ext'; rw [e]]
              exact (pureN_run hN w).1
            · cases h
          · cases h
      · cases h
    · cases h
  · cases h

/-- WHAT AN ABSTRACT OPERATION SAYS IS SO. -/
theorem aop_sound_of (hr : Rep w0 m own w) (ho : OutOK w0 out) {ρ : Operand → Value} {a : Act} {o : Oper} (hv : ∀ x ∈ o.op.operands.toList, VRel m (ρ x) (a.eval x)) {r : AR} {own' : List Blk}
    (h : aop P out own ρ o = some (r, own')) : OpOK P w0 m own w o a r own' := by
  obtain ⟨dst, op, ty, pos, after, guard⟩ := o
  cases op with
  | move x =>
    simp only [aop, Option.some.injEq, Prod.mk.injEq] at h
    obtain ⟨rfl, rfl⟩ := h
    exact ok_same hr (by simp [execOp]) (hv x (by simp [Op.operands]))
  | assign x =>
    simp only [aop, Option.some.injEq, Prod.mk.injEq] at h
    obtain ⟨rfl, rfl⟩ := h
    exact ok_same hr (by simp [execOp]) (hv x (by simp [Op.operands]))
  | pick c x y =>
    have hc := hv c (by simp [Op.operands])
    simp only [aop] at h
    split at h
    · rename_i e
      rw [e] at hc
      simp at h
      obtain ⟨rfl, rfl⟩ := h
      generalize hce : a.eval c = z at hc
      cases hc
      exact ok_same hr (by simp [execOp, hce, asBool]) (hv x (by simp [Op.operands]))
    · rename_i e
      rw [e] at hc
      simp at h
      obtain ⟨rfl, rfl⟩ := h
      generalize hce : a.eval c = z at hc
      cases hc
      exact ok_same hr (by simp [execOp, hce, asBool]) (hv y (by simp [Op.operands]))
    · cases h
  | alloc e =>
    simp only [aop] at h
    split at h
    · rename_i i hi
      split at h
      · rename_i z hz
        split at h
        · rename_i hpl
          simp at h
          obtain ⟨rfl, rfl⟩ := h
          obtain ⟨g1, g2, _, _, g3, g4⟩ := newCells_rel P hr (plains_rel m hpl) e
          exact ⟨_, _, _, .inl (by simp [execOp, Instr.alloc, zeroValue, typeInfo, hi, hz, newVar, newRow]), g2, g3, g4⟩
        · cases h
      · cases h
    · cases h
  | box e x =>
    simp only [aop, Option.some.injEq, Prod.mk.injEq] at h
    obtain ⟨rfl, rfl⟩ := h
    obtain ⟨g1, g2, _, _, g3, g4⟩ := newCells_rel P hr (hv x (by simp [Op.operands])).cells e
    exact ⟨_, _, _, .inl (by simp [execOp, Instr.box, newVar, newRow]), g2, g3, g4⟩
  | build e parts =>
    simp only [aop] at h
    split at h
    · rename_i hz
      split at h
      · rename_i x hx
        simp at h
        obtain ⟨rfl, rfl⟩ := h
        obtain ⟨x', h1, h2⟩ := built_rel P e parts (ρ' := a.eval) (fun p hp => hv p.2 (by simp only [Op.operands]; simp; exact ⟨p.1, by simpa using hp⟩)) (fun it z h1 h2 => by simpa [zeroPlain, h1, h2] using hz) hx
        refine ok_same hr (v' := .agg x') ?_ (.agg _ _ h2.1 h2.2)
        have := run_build (P := P) w e (parts.map fun p => (p.1, a.eval p.2)) x' (by rw [Array.toList_map]; exact h1)
        simp [execOp, this]
      · cases h
    · cases h
  | buildSlice e len parts =>
    simp only [aop] at h
    split at h
    · rename_i x own1 hb
      simp at h
      obtain ⟨rfl, rfl⟩ := h
      obtain ⟨v', w', m', g1, g2, g3, g4⟩ := buildSliceA_rel P hr (ρ' := a.eval) (fun p hp => hv p.2 (by simp only [Op.operands]; simp; exact ⟨p.1, by simpa using hp⟩)) hb
      exact ⟨v', w', m', .inl (by simp [execOp, g1]), g2, g3, g4⟩
    · cases h
  | load e x =>
    simp only [aop] at h
    split at h
    · rename_i v hl
      simp at h
      obtain ⟨rfl, rfl⟩ := h
      obtain ⟨v', g1, g2⟩ := loadA_rel P hr ho (hv x (by simp [Op.operands])) hl
      exact ok_same hr (by simp [execOp, g1]) g2
    · cases h
  | store e x y =>
    simp only [aop] at h
    split at h
    · rename_i own1 hs
      simp at h
      obtain ⟨rfl, rfl⟩ := h
      obtain ⟨w', g1, g2, g3⟩ := storeVA_rel P hr (hv x (by simp [Op.operands])) (hv y (by simp [Op.operands])) hs
      exact ⟨undef, w', m, .inr ⟨by simp [execOp, g1], rfl⟩, undef_rel m, g2, g3⟩
    · cases h
  | nilCheck x =>
    have hx := hv x (by simp [Op.operands])
    simp only [aop] at h
    split at h
    · rename_i v hn
      simp at h
      obtain ⟨rfl, rfl⟩ := h
      generalize hce : a.eval x = z at hx
      generalize ρ x = y at hx hn
      cases hx <;> simp [nilCheckA] at hn
      · subst hn; rename_i ad hok
        exact ok_same hr (by simp [execOp, hce]) (.ptr _ hok)
      · rename_i fn f c f' c' h1 h2 h3 h4
        cases fn <;> simp at hn
        subst hn
        exact ok_same hr (by simp [execOp, hce]) (.func _ _ _ _ _ h1 h2 h3 h4)
      · subst hn; rename_i tt u u' hu
        exact ok_same hr (by simp [execOp, hce]) (.iface _ _ _ hu)
    · cases h
  | binOp b e x y ye =>
    have hx := hv x (by simp [Op.operands])
    have hy := hv y (by simp [Op.operands])
    simp only [aop] at h
    split at h
    · rename_i hp
      simp at hp
      split at h
      · rename_i v hpv
        simp at h
        obtain ⟨rfl, rfl⟩ := h
        have e1 := plainV_eq hx hp.1
        have e2 := plainV_eq hy hp.2
        have := pureV_run hpv w
        refine ok_same hr (v' := v) ?_ (this.2 m)
        have h2 := this.1
        simp only [execOp, e1, e2]
        rw [Sem.run_bind, h2]
        rfl
      · cases h
    · split at h
      · split at h
        · rename_i q hq
          simp at h
          obtain ⟨rfl, rfl⟩ := h
          have := (eqNilA_run P w hx hy hq).1
          refine ok_same hr (v' := .bool q) ?_ (.bool q)
          simp only [execOp]
          rw [Sem.run_bind, this]
          rfl
        · cases h
      · split at h
        · rename_i q hq
          simp at h
          obtain ⟨rfl, rfl⟩ := h
          have := (eqNilA_run P w hx hy hq).2
          refine ok_same hr (v' := .bool (!q)) ?_ (.bool (!q))
          simp only [execOp]
          rw [Sem.run_bind, this]
          rfl
        · cases h
      · cases h
  | unOp u e x =>
    have hx := hv x (by simp [Op.operands])
    simp only [aop] at h
    split at h
    · rename_i hp
      split at h
      · rename_i v hpv
        simp at h
        obtain ⟨rfl, rfl⟩ := h
        have e1 := plainV_eq hx hp
        have := pureV_run hpv w
        exact ok_same hr (v' := v) (by simp [execOp, e1, this.1]) (this.2 m)
      · cases h
    · cases h
  | convert s d x =>
    simp only [aop] at h
    split at h
    · rename_i v own1 hc
      simp at h
      obtain ⟨rfl, rfl⟩ := h
      obtain ⟨v', w', m', g1, g2, g3, g4⟩ := convA_rel P hr ho (hv x (by simp [Op.operands])) hc
      exact ⟨v', w', m', .inl (by simp [execOp, g1]), g2, g3, g4⟩
    · cases h
  | makeInterface e x =>
    have hx := hv x (by simp [Op.operands])
    simp only [aop] at h
    split at h
    · cases h
    · rename_i d hni hd
      simp at h
      obtain ⟨rfl, rfl⟩ := h
      refine ok_same hr (v' := .iface e (a.eval x)) ?_ (.iface _ _ _ hx)
      have : (Instr.makeInterface e (a.eval x)).run P w = .ok (.iface e (a.eval x)) w := by
        unfold Instr.makeInterface
        rw [Sem.run_bind, run_underlying hd, Result.andThen_ok]
        cases d <;> first | (exfalso; exact hni _ rfl) | rfl
      simp [execOp, this]
    · cases h
  | makeFunc fn f c =>
    simp only [aop, Option.some.injEq, Prod.mk.injEq] at h
    obtain ⟨rfl, rfl⟩ := h
    have h1 : LRel m (f.toList.map ρ) (f.toList.map a.eval) := map_rel fun x hx => hv x (by simp only [Op.operands, Array.toList_append]; exact List.mem_append_left _ hx)
    have h2 : LRel m (c.toList.map ρ) (c.toList.map a.eval) := map_rel fun x hx => hv x (by simp only [Op.operands, Array.toList_append]; exact List.mem_append_right _ hx)
    have h1' : ARel m (f.map ρ) (f.map a.eval) := ARel.of_toList (by simpa using h1)
    have h2' : ARel m (c.map ρ) (c.map a.eval) := ARel.of_toList (by simpa using h2)
    exact ok_same hr (v' := .func fn (f.map a.eval) (c.map a.eval)) (by simp [execOp, Instr.makeFunc]) (.func _ _ _ _ _ h1'.1 h1'.2 h2'.1 h2'.2)
  | makeSlice e l c =>
    simp only [aop] at h
    split at h
    · rename_i v own1 hc
      simp at h
      obtain ⟨rfl, rfl⟩ := h
      obtain ⟨v', w', m', g1, g2, g3, g4⟩ := makeSliceA_rel P hr (hv l (by simp [Op.operands])) (hv c (by simp [Op.operands])) hc
      exact ⟨v', w', m', .inl (by simp [execOp, g1]), g2, g3, g4⟩
    · cases h
  | slice e x lo hi mx =>
    have hx := hv x (by simp [Op.operands])
    have hlo : ∀ y ∈ lo.toList, VRel m (ρ y) (a.eval y) := fun y hy => hv y (by simp at hy; subst hy; simp [Op.operands])
    have hhi : ∀ y ∈ hi.toList, VRel m (ρ y) (a.eval y) := fun y hy => hv y (by simp at hy; subst hy; simp [Op.operands])
    have hmx : ∀ y ∈ mx.toList, VRel m (ρ y) (a.eval y) := fun y hy => hv y (by simp at hy; subst hy; simp [Op.operands])
    have ov : ∀ {z : Option Operand}, (∀ y ∈ z.toList, VRel m (ρ y) (a.eval y)) → OVRel m (z.map ρ) (z.map a.eval) := fun {z} hz => by
      cases z with
      | none => trivial
      | some y => exact hz y (by simp)
    simp only [aop] at h
    split at h
    · rename_i s hs
      split at h
      · rename_i hp
        simp only [Bool.and_eq_true] at hp
        split at h
        · rename_i v hpv
          simp at h
          obtain ⟨rfl, rfl⟩ := h
          rw [hs] at hx
          generalize hce : a.eval x = z at hx
          cases hx
          have := pureV_run hpv w
          rw [← sliceAt_plain hlo hp.1.1, ← sliceAt_plain hhi hp.1.2, ← sliceAt_plain hmx hp.2] at this
          exact ok_same hr (v' := v) (by simp [execOp, hce, this.1]) (this.2 m)
        · cases h
      · cases h
    · split at h
      · rename_i v hsl
        simp at h
        obtain ⟨rfl, rfl⟩ := h
        obtain ⟨v', g1, g2⟩ := sliceA_rel P hr hx (ov hlo) (ov hhi) (ov hmx) hsl
        exact ok_same hr (by simp [execOp, g1]) g2
      · cases h
  | fieldAddr e x f =>
    simp only [aop] at h
    split at h
    · rename_i v hf
      simp at h
      obtain ⟨rfl, rfl⟩ := h
      obtain ⟨v', g1, g2⟩ := fieldAddrA_rel P w (hv x (by simp [Op.operands])) hf
      exact ok_same hr (by simp [execOp, g1]) g2
    · cases h
  | field e x f =>
    simp only [aop] at h
    split at h
    · rename_i v hf
      simp at h
      obtain ⟨rfl, rfl⟩ := h
      obtain ⟨v', g1, g2⟩ := fieldA_rel P w (hv x (by simp [Op.operands])) hf
      exact ok_same hr (by simp [execOp, g1]) g2
    · cases h
  | indexAddr e x i =>
    simp only [aop] at h
    split at h
    · rename_i v hf
      simp at h
      obtain ⟨rfl, rfl⟩ := h
      obtain ⟨v', g1, g2⟩ := indexAddrA_rel P w (hv x (by simp [Op.operands])) (hv i (by simp [Op.operands])) hf
      exact ok_same hr (by simp [execOp, g1]) g2
    · cases h
  | index e x i =>
    have hx := hv x (by simp [Op.operands])
    have hy := hv i (by simp [Op.operands])
    simp only [aop] at h
    split at h
    · rename_i hp
      simp at hp
      split at h
      · rename_i v hpv
        simp at h
        obtain ⟨rfl, rfl⟩ := h
        have e1 := plainV_eq hx hp.1
        have e2 := plainV_eq hy hp.2
        have := pureV_run hpv w
        exact ok_same hr (v' := v) (by simp [execOp, e1, e2, this.1]) (this.2 m)
      · cases h
    · cases h
  | extract x i =>
    simp only [aop] at h
    split at h
    · rename_i v hf
      simp at h
      obtain ⟨rfl, rfl⟩ := h
      obtain ⟨v', g1, g2⟩ := extractA_rel P w (hv x (by simp [Op.operands])) hf
      exact ok_same hr (by simp [execOp, g1]) g2
    · cases h
  | typeAssert x xt at_ ok =>
    simp only [aop] at h
    split at h
    · rename_i v hf
      simp at h
      obtain ⟨rfl, rfl⟩ := h
      obtain ⟨v', g1, g2⟩ := typeAssertA_rel P w (xt := xt) (hv x (by simp [Op.operands])) hf
      exact ok_same hr (by simp [execOp, g1]) g2
    · cases h
  | call c =>
    simp only [aop] at h
    exact callA_sound hr ho (fun x hx => hv x hx) h
  | defer c =>
    simp only [aop] at h
    split at h
    · rename_i g args hd
      simp at h
      obtain ⟨rfl, rfl⟩ := h
      unfold deferA at hd
      split at hd
      · rename_i f hf
        split at hd
        · rename_i g' first cap hcal
          simp at hd
          obtain ⟨rfl, rfl⟩ := hd
          obtain ⟨f', c', hfe, hfl, hcl⟩ := callee_rel (hv f (by simp [Op.operands, Call.operands, hf])) hcal
          have hargs : LRel m (c.args.toList.map ρ) (c.args.map a.eval).toList := by
            rw [Array.toList_map]
            refine map_rel fun x hx => hv x ?_
            simp only [Op.operands, Call.operands, Array.toList_append]
            exact List.mem_append_right _ hx
          refine ⟨rfl, f' ++ c.args.map a.eval, c', by simp [execOp, resolve, hf, hfe, Deferred.ofValue], ?_⟩
          simp only [Array.toList_append]
          rw [← List.append_assoc]
          exact (hfl.append hargs).append hcl
        · cases hd
      · cases hd
    · cases h
  | panic x =>
    have hx := hv x (by simp [Op.operands])
    simp only [aop] at h
    split at h
    · rename_i tt u he
      simp at h
      obtain ⟨rfl, rfl⟩ := h
      rw [he] at hx
      generalize hce : a.eval x = z at hx
      cases hx
      rename_i u' hu
      exact ⟨rfl, .iface tt u', by simp [execOp, hce, Instr.panic], .iface _ _ _ hu⟩
    · cases h
  | _ => simp only [aop] at h; cases h
theorem aop_sound (hr : Rep w0 m own w) (ho : OutOK w0 out) {t : List Value} {a : Act} (ht : TRel m t a.tmps) {o : Oper} (hp : plainOper o = true) {r : AR} {own' : List Blk}
    (h : aop P out own (evalA t) o = some (r, own')) : OpOK P w0 m own w o a r own' :=
  aop_sound_of hr ho (fun x hx => eval_rel ht (List.all_eq_true.1 hp x hx)) h

end
end Go.Sim
