/-
  A calculus of abstract runs, part 5: one operation, abstractly.
-/
import Derived.Test.YtocecgdblhjojaaGreatDoorSim4
import Derived.Laws.Slices
import Derived.Laws.Strings
import Derived.Laws.Build
namespace Go.Sim

/-- What an operation comes to. -/
inductive AR where
  | value (v : Value)
  | enter (f : FuncId) (args : List Value)
  | panic (v : Value)
  | defer (f : FuncId) (args : List Value)
  | recover
  deriving Inhabited

def evalA (t : List Value) : Operand → Value
  | .tmp i => t.getD i undef
  | .const v => v
  | .global g => .pointer (some ⟨2 * g, 0, none⟩)
  | .func f => .func (.func f) #[] #[]
def plainOperand : Operand → Bool
  | .const v => plainV v
  | _ => true
def TRel (m : M) (t : List Value) (a : Array Value) : Prop := LRel m t a.toList

section
variable {w0 : World} {out : Nat → Nat → Option Value} {m : M} {own : List Blk} {w : World}

theorem eval_rel {t : List Value} {a : Act} (h : TRel m t a.tmps) {x : Operand} (hp : plainOperand x = true) : VRel m (evalA t x) (a.eval x) := by
  cases x with
  | tmp i =>
    simp only [evalA, Act.eval, List.getD_eq_getElem?_getD, Array.getD_eq_getD_getElem?]
    cases hi : t[i]? with
    | none =>
      have : a.tmps[i]? = none := by
        have hl := h.1
        simp at hl
        rw [Array.getElem?_eq_none]
        have := List.getElem?_eq_none_iff.1 hi
        omega
      rw [this]; exact undef_rel m
    | some v =>
      obtain ⟨v', h1, h2⟩ := h.get hi
      simp at h1
      rw [h1]; exact h2
  | const v => exact plainV_rel m hp
  | global g =>
    have e : m.addr ⟨2 * g, 0, none⟩ = ⟨g, 0, none⟩ := by simp [M.addr]
    show VRel m (.pointer (some ⟨2 * g, 0, none⟩)) (.pointer (some ⟨g, 0, none⟩))
    rw [← e]
    exact .ptr _ ⟨rfl, fun h => by simp at h⟩
  | func f => exact .func _ _ _ _ _ rfl (by simp) rfl (by simp)

/-! Loads and stores. -/
def isAggD : TypeDesc → Bool
  | .struct _ => true
  | .array _ _ => true
  | _ => false
def loadA (P : Program) (out : Nat → Nat → Option Value) (own : List Blk) (t : TypeId) : Value → Option Value
  | .pointer (some a) => match P.underlying t with
    | some d => if isAggD d then
        match P.info? t with
        | some i => match cellsA out own a 0 i.size with
          | some l => some (.agg l.toArray)
          | none => none
        | none => none
      else cellA out own a
    | none => none
  | _ => none
theorem run_isAgg (P : Program) (w : World) {t : TypeId} {d : TypeDesc} (h : P.underlying t = some d) : (isAgg t).run P w = .ok (isAggD d) w := by
  unfold isAgg
  simp only [Sem.run_bind, run_underlying h, Result.andThen_ok]
  cases d <;> rfl
theorem loadA_rel (P : Program) (hr : Rep w0 m own w) (ho : OutOK w0 out) {t : TypeId} {x x' v : Value} (hx : VRel m x x') (h : loadA P out own t x = some v) :
    ∃ v', (Instr.loadAt t x').run P w = .ok v' w ∧ VRel m v v' := by
  cases hx with
  | ptr a ha =>
    simp only [loadA] at h
    split at h
    · rename_i d hd
      split at h
      · rename_i hag
        split at h
        · rename_i i hi
          split at h
          · rename_i l hl
            simp at h
            subst h
            obtain ⟨l', h1, h2, h3⟩ := loadCells_rel P hr ho hl
            refine ⟨.agg l'.toArray, ?_, .agg _ _ h1.toArray.1 h1.toArray.2⟩
            simp [Instr.loadAt, Instr.sureAddr, loadVar, run_isAgg P w hd, hag, sizeOf, typeInfo, hi, h3]
          · cases h
        · cases h
      · rename_i hag
        obtain ⟨v', h1, h2⟩ := cell_rel hr ho h
        exact ⟨v', by simp [Instr.loadAt, Instr.sureAddr, loadVar, run_isAgg P w hd, hag, h1], h2⟩
    · cases h
  | _ => simp [loadA] at h

def storeVA (P : Program) (own : List Blk) (t : TypeId) (x v : Value) : Option (List Blk) :=
  match x with
  | .pointer (some a) => match P.info? t with
    | some i => if v.cells.size = i.size then storesA own a 0 v.cells.toList else none
    | none => none
  | _ => none
theorem storeVA_rel (P : Program) (hr : Rep w0 m own w) {t : TypeId} {x x' v v' : Value} (hx : VRel m x x') (hv : VRel m v v') {own' : List Blk} (h : storeVA P own t x v = some own') :
    ∃ w', (Instr.storeAt t x' v').run P w = .ok () w' ∧ Rep w0 m own' w' ∧ Step m own w m own' w' := by
  cases hx with
  | ptr a ha =>
    simp only [storeVA] at h
    split at h
    · rename_i i hi
      split at h
      · rename_i hs
        have hc := hv.cells
        obtain ⟨w', h1, h2, h3⟩ := storesA_rel P _ _ own own' w 0 a hr hc.toList h
        refine ⟨w', ?_, h2, h3⟩
        rw [hc.1] at hs
        simp [Instr.storeAt, Instr.sureAddr, storeVar, sizeOf, typeInfo, hi, hs, h1]
      · cases h
    · cases h
  | _ => simp [storeVA] at h

/-! Slices of slices. -/
def boundA (d : Nat) : Option Value → Option Nat
  | none => some d
  | some (.int _ i) => if 0 ≤ i then some i.toNat else none
  | _ => none
def knownEs (own : List Blk) (a : Addr) (size : Nat) : Bool :=
  a.block % 2 = 0 || match own[a.block / 2]? with
    | some B => !B.dead && !B.fix && B.es = size
    | none => false
def sliceA (P : Program) (own : List Blk) (t : TypeId) (x : Value) (lo hi mx : Option Value) : Option Value :=
  match P.underlying t with
  | some (.slice e) => match P.info? e with
    | none => none
    | some i => match x with
      | .slice none 0 0 => match boundA 0 lo, boundA 0 hi, mx with
        | some 0, some 0, none => some x
        | _, _, _ => none
      | .slice (some a) n c => match boundA 0 lo, boundA n hi with
        | some l, some h => match mx with
          | none =>
            if !(l ≤ h) then none else
            if c = 0 then
              if h ≤ n && knownEs own a i.size then some (.slice (some (a.add (l * i.size))) (h - l) 0) else none
            else if h ≤ c - 1 then some (.slice (some (if c - 1 = l then a else a.add (l * i.size))) (h - l) (c - 1 - l + 1)) else none
          | some (.int _ q) =>
            if hi.isNone || q < 0 || !(l ≤ h && h ≤ q.toNat) then none else
            if q.toNat ≤ n || (c ≠ 0 && q.toNat ≤ c - 1) then some (.slice (some (if q.toNat = l then a else a.add (l * i.size))) (h - l) (q.toNat - l + 1)) else none
          | _ => none
        | _, _ => none
      | _ => none
  | _ => none

theorem run_bound (P : Program) (w : World) {d : Nat} {k : IntKind} {q : Int} {y : Nat} {code : BoundsCode} (h0 : 0 ≤ q) (h1 : q.toNat ≤ y) : (Instr.sliceBound (.int k q) y code).run P w = .ok q.toNat w :=
  run_sliceBound w k q y code h0 (by omega)

theorem run_slice_of (P : Program) (w : World) {t e : TypeId} {i : TypeInfo} (ht : P.underlying t = some (.slice e)) (hi : P.info? e = some i) {a : Option Addr} {n c l h mm : Nat} {lo hi' mx : Option Value}
    (hb : (Instr.sliceBounds true n c lo hi' mx).run P w = .ok (l, h, mm) w) : (Instr.sliceAt t (.slice a n c) lo hi' mx).run P w = .ok (sliced a l h mm i.size) w := by
  have he : P.elem t = e := by simp [Program.elem, ht]
  have ht' : P.underlying t = some (.slice (P.elem t)) := by rw [he]; exact ht
  rw [run_sliceAt_slice w t _ _ _ _ ht', run_slice_any w t a n c ht', hb]
  simp [sizeOf, typeInfo, he, hi]

/-- A bound's value tells itself. -/
def OVRel (m : M) : Option Value → Option Value → Prop
  | none, none => True
  | some v, some v' => VRel m v v'
  | _, _ => False

theorem sliceBounds_two (P : Program) (w : World) {n c d : Nat} {lo hi lo' hi' : Option Value} (hlo : OVRel m lo lo') (hhi : OVRel m hi hi') {l h : Nat} (h1 : boundA 0 lo = some l) (h2 : boundA n hi = some h) (hlh : l ≤ h) (hc : h ≤ c) (hd : d = c) :
    (Instr.sliceBounds true n c lo' hi' none).run P w = .ok (l, h, c) w := by
  unfold Instr.sliceBounds
  cases hi with
  | none =>
    cases hi' with
    | some v => exact hhi.elim
    | none =>
      simp [boundA] at h2
      subst h2
      cases lo with
      | none =>
        cases lo' with
        | some v => exact hlo.elim
        | none => simp [boundA] at h1; subst h1; simp
      | some v =>
        cases lo' with
        | none => exact hlo.elim
        | some v' =>
          cases hlo with
          | int k q =>
            simp [boundA] at h1
            obtain ⟨h0, rfl⟩ := h1
            simp [run_sliceBound w k q n .sliceB h0 (by omega)]
          | _ => simp [boundA] at h1
  | some u =>
    cases hi' with
    | none => exact hhi.elim
    | some u' =>
      cases hhi with
      | int k q =>
        simp [boundA] at h2
        obtain ⟨h0, rfl⟩ := h2
        have hb := run_sliceBound (P := P) w k q c .sliceAcap h0 (by omega)
        cases lo with
        | none =>
          cases lo' with
          | some v => exact hlo.elim
          | none => simp [boundA] at h1; subst h1; simp [hb]
        | some v =>
          cases lo' with
          | none => exact hlo.elim
          | some v' =>
            cases hlo with
            | int k2 q2 =>
              simp [boundA] at h1
              obtain ⟨h0', rfl⟩ := h1
              simp [hb, run_sliceBound w k2 q2 q.toNat .sliceB h0' (by omega)]
            | _ => simp [boundA] at h1
      | _ => simp [boundA] at h2

theorem sliceBounds_three (P : Program) (w : World) {n c : Nat} {lo hi lo' hi' : Option Value} (hlo : OVRel m lo lo') (hhi : OVRel m hi hi') {l h : Nat} {k : IntKind} {q : Int} (hsome : hi.isNone = false) (h1 : boundA 0 lo = some l) (h2 : boundA n hi = some h) (hlh : l ≤ h) (hq : 0 ≤ q) (hc : h ≤ q.toNat) (hcc : q.toNat ≤ c) :
    (Instr.sliceBounds true n c lo' hi' (some (.int k q))).run P w = .ok (l, h, q.toNat) w := by
  unfold Instr.sliceBounds
  have hm := run_sliceBound (P := P) w k q c .slice3Acap hq (by omega)
  cases hi with
  | none => simp at hsome
  | some u =>
    cases hi' with
    | none => exact hhi.elim
    | some u' =>
      cases hhi with
      | int k1 q1 =>
        simp [boundA] at h2
        obtain ⟨h0, rfl⟩ := h2
        have hb := run_sliceBound (P := P) w k1 q1 q.toNat .slice3B h0 (by omega)
        cases lo with
        | none =>
          cases lo' with
          | some v => exact hlo.elim
          | none => simp [boundA] at h1; subst h1; simp [hb, hm]
        | some v =>
          cases lo' with
          | none => exact hlo.elim
          | some v' =>
            cases hlo with
            | int k2 q2 =>
              simp [boundA] at h1
              obtain ⟨h0', rfl⟩ := h1
              simp [hb, hm, run_sliceBound w k2 q2 q1.toNat .slice3C h0' (by omega)]
            | _ => simp [boundA] at h1
      | _ => simp [boundA] at h2

theorem add_zero_of {a : Addr} {n : Nat} (h : n = 0) : a.add n = a := by simp [Addr.add, h]
theorem add_block (a : Addr) (n : Nat) : (a.add n).block = a.block := by unfold Addr.add; split <;> rfl
theorem add_off (a : Addr) (n : Nat) : (a.add n).off = a.off + n := by unfold Addr.add; split <;> simp_all

theorem sliceA_rel (P : Program) (hr : Rep w0 m own w) {t : TypeId} {x x' v : Value} {lo hi mx lo' hi' mx' : Option Value} (hx : VRel m x x') (hlo : OVRel m lo lo') (hhi : OVRel m hi hi') (hmx : OVRel m mx mx')
    (h : sliceA P own t x lo hi mx = some v) : ∃ v', (Instr.sliceAt t x' lo' hi' mx').run P w = .ok v' w ∧ VRel m v v' := by
  unfold sliceA at h
  split at h
  case h_2 => cases h
  rename_i e ht
  split at h
  · cases h
  rename_i i hi0
  split at h
  case h_3 => cases h
  · -- nil
    split at h
    case h_2 => cases h
    rename_i h1 h2
    simp at h
    subst h
    cases mx' with
    | some _ => exact hmx.elim
    | none =>
      cases hx with
      | sliceNil =>
        exact ⟨_, run_slice_of P w ht hi0 (sliceBounds_two P w hlo hhi (d := 0) h1 h2 (Nat.le_refl _) (Nat.le_refl _) rfl), by simp [sliced]; exact .sliceNil⟩
  · rename_i a n c
    split at h
    case h_2 => cases h
    rename_i l hh h1 h2
    split at h
    case h_3 => cases h
    · -- two bounds
      cases mx' with
      | some _ => exact hmx.elim
      | none =>
        split at h
        · cases h
        rename_i hlh
        simp at hlh
        split at h
        · rename_i hc0
          subst hc0
          split at h
          · rename_i hcond
            simp at hcond
            obtain ⟨hn, hke⟩ := hcond
            simp at h
            subst h
            cases hx with
            | slice _ _ _ c' g1 g2 g3 g4 =>
              refine ⟨_, run_slice_of P w ht hi0 (sliceBounds_two P w hlo hhi (d := c') h1 h2 hlh (by omega) rfl), ?_⟩
              unfold sliced
              by_cases hcl : c' = l
              · have e1 : hh - l = 0 := by omega
                have e2 : c' - l = 0 := by omega
                rw [if_pos hcl, e1, e2]
                exact .sliceEmpty _ _ _ (.inl rfl)
              · rw [if_neg hcl]
                simp only [Option.map_some]
                rw [← addr_add]
                refine .slice _ _ _ _ (okAddr_add g1 _) (by omega) (.inl rfl) (fun _ hodd => ?_)
                rw [add_block] at hodd
                rw [add_block, add_off]
                have htot := g4 rfl hodd
                simp only [knownEs] at hke
                rw [show decide (a.block % 2 = 0) = false by simp; omega] at hke
                simp only [Bool.false_or] at hke
                split at hke
                · rename_i B hB
                  simp at hke
                  obtain ⟨⟨hBd, hBf⟩, hBe⟩ := hke
                  obtain ⟨hes, _⟩ := ((hr.blk _ _ hB hBd).obj.choose_spec.choose_spec.2.2.1) hBf
                  rw [hes, hBe] at htot ⊢
                  have : (c' - l) * i.size + l * i.size = c' * i.size := by rw [← Nat.add_mul]; congr 1; omega
                  omega
                · cases hke
            | sliceEmpty _ a' _ hc =>
              have e0 : hh = 0 := by omega
              have e1 : l = 0 := by omega
              subst e0; subst e1
              exact ⟨_, run_slice_of P w ht hi0 (sliceBounds_two P w hlo hhi (d := 0) h1 h2 (Nat.le_refl _) (Nat.le_refl _) rfl), by simp [sliced]; exact .sliceEmpty _ _ _ (.inl rfl)⟩
          · cases h
        · rename_i hc0
          split at h
          · rename_i hcap
            simp at h
            subst h
            cases hx with
            | slice _ _ _ c' g1 g2 g3 g4 =>
              have ec : c = c' + 1 := by omega
              subst ec
              simp at hcap
              refine ⟨_, run_slice_of P w ht hi0 (sliceBounds_two P w hlo hhi (d := c') h1 h2 hlh hcap rfl), ?_⟩
              unfold sliced
              simp only [Nat.add_sub_cancel]
              by_cases hcl : c' = l
              · rw [if_pos hcl, if_pos hcl]
                exact .slice _ _ _ _ g1 (by omega) (.inr rfl) (fun h => by omega)
              · rw [if_neg hcl, if_neg hcl]
                simp only [Option.map_some]
                rw [← addr_add]
                exact .slice _ _ _ _ (okAddr_add g1 _) (by omega) (.inr rfl) (fun h => by omega)
            | sliceEmpty _ a' _ hc =>
              have ec : c = 1 := by omega
              subst ec
              have e0 : hh = 0 := by omega
              have e1 : l = 0 := by omega
              subst e0; subst e1
              exact ⟨_, run_slice_of P w ht hi0 (sliceBounds_two P w hlo hhi (d := 0) h1 h2 (Nat.le_refl _) (Nat.le_refl _) rfl), by simp [sliced]; exact .sliceEmpty _ _ _ (.inr rfl)⟩
          · cases h
    · rename_i k q
      cases mx' with
      | none => exact hmx.elim
      | some u =>
        cases hmx with
        | int _ _ =>
          split at h
          · cases h
          rename_i hcond
          simp at hcond
          obtain ⟨⟨hsome, hq⟩, hlh⟩ := hcond
          have hlh1 : l ≤ hh := by by_cases h : l ≤ hh; exact h; simp [h] at hlh
          have hlh2 : hh ≤ q.toNat := by by_cases h : hh ≤ q.toNat; exact h; simp [h] at hlh
          have hsome' : hi.isNone = false := by cases hi <;> simp_all
          split at h
          · rename_i hcap
            simp at hcap
            simp at h
            subst h
            cases hx with
            | slice _ _ _ c' g1 g2 g3 g4 =>
              have hqc : q.toNat ≤ c' := by omega
              refine ⟨_, run_slice_of P w ht hi0 (sliceBounds_three P w hlo hhi hsome' h1 h2 hlh1 hq hlh2 hqc), ?_⟩
              unfold sliced
              by_cases hcl : q.toNat = l
              · rw [if_pos hcl, if_pos hcl]
                exact .slice _ _ _ _ g1 (by omega) (.inr rfl) (fun h => by omega)
              · rw [if_neg hcl, if_neg hcl]
                simp only [Option.map_some]
                rw [← addr_add]
                exact .slice _ _ _ _ (okAddr_add g1 _) (by omega) (.inr rfl) (fun h => by omega)
            | sliceEmpty _ a' _ hc =>
              have hq0 : q.toNat = 0 := by omega
              have e0 : hh = 0 := by omega
              have e1 : l = 0 := by omega
              subst e0; subst e1
              refine ⟨_, run_slice_of P w ht hi0 (sliceBounds_three P w hlo hhi hsome' h1 h2 hlh1 hq hlh2 (c := 0) (by omega)), ?_⟩
              simp only [sliced, hq0, if_true]
              exact .sliceEmpty _ _ _ (.inr rfl)
          · cases h

end
end Go.Sim
