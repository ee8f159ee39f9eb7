/-
  A calculus of abstract runs, part 17: from an abstract contract to the row: arguments of the caller's, what is kept, what the row asks behind the call.
-/
import Derived.Test.YtocecgdblhjojaaGreatDoorSim16
import Derived.ChangeSame
import Derived.Carry
import Derived.ChangeMaps5
namespace Go.Sim
open Go.ChangeShapes Go.RowKit

/-- A value of the caller's memory, told abstractly. -/
def outA0 : Value → Value
  | .slice (some a) n c => .slice (some ⟨2 * a.block, a.off, none⟩) n (c + 1)
  | .pointer (some a) => .pointer (some ⟨2 * a.block, a.off, none⟩)
  | v => v
def outA : Value → Value
  | .agg cs => .agg (cs.map outA0)
  | v => outA0 v
def flat0 : Value → Prop
  | .bool _ | .int _ _ | .string _ => True
  | .pointer none => True
  | .pointer (some a) => a.spot = none
  | .slice none n c => n = 0 ∧ c = 0
  | .slice (some a) n c => a.spot = none ∧ n ≤ c
  | _ => False
def flatV : Value → Prop
  | .agg cs => ∀ (i : Nat) (v : Value), cs[i]? = some v → flat0 v
  | v => flat0 v
theorem addr_outer (m : M) (a : Addr) (h : a.spot = none) : m.addr ⟨2 * a.block, a.off, none⟩ = a := by
  cases a with
  | mk b o s => simp only at h; subst h; simp [M.addr]
theorem outA0_rel {m : M} {v : Value} (h : flat0 v) : VRel m (outA0 v) v := by
  match v, h with
  | .bool b, _ => exact .bool b
  | .int k n, _ => exact .int k n
  | .string s, _ => exact .string s
  | .pointer none, _ => exact .ptrNil
  | .pointer (some a), h =>
    have := VRel.ptr (m := m) ⟨2 * a.block, a.off, none⟩ ⟨rfl, by simp⟩
    rw [addr_outer m a h] at this
    exact this
  | .slice none n c, ⟨h1, h2⟩ => subst h1; subst h2; exact .sliceNil
  | .slice (some a) n c, ⟨h1, h2⟩ =>
    have := VRel.slice (m := m) ⟨2 * a.block, a.off, none⟩ n (c + 1) c ⟨rfl, by simp⟩ h2 (.inr rfl) (by simp)
    rw [addr_outer m a h1] at this
    exact this
theorem outA_rel {m : M} {v : Value} (h : flatV v) : VRel m (outA v) v := by
  cases v with
  | agg cs =>
    refine .agg _ _ (by simp) fun i v v' h1 h2 => ?_
    rw [Array.getElem?_map, h2] at h1
    simp only [Option.map_some, Option.some.injEq] at h1
    subst h1
    exact outA0_rel (h i v' h2)
  | bool b => exact outA0_rel (v := .bool b) h
  | int k n => exact outA0_rel (v := .int k n) h
  | string t => exact outA0_rel (v := .string t) h
  | pointer a => exact outA0_rel (v := .pointer a) h
  | slice a n c => exact outA0_rel (v := .slice a n c) h
  | _ => exact h.elim

/-- Types whose values are flat: known by the program's own tables. -/
def flatD : TypeDesc → Bool
  | .slice _ | .string | .int _ | .bool | .pointer _ => true
  | _ => false
def flatT (P : Program) (t : TypeId) : Bool := match P.underlying t with
  | some (.struct _) | some (.array _ _) => match P.cellTypes P.depth t with
    | some ts => ts.all fun u => (P.underlying u).any flatD
    | none => false
  | some d => flatD d
  | none => false
theorem flat_of_cell {P : Program} {w : World} {r : Reach} {base : Nat} {t : TypeId} {v : Value} {d : TypeDesc} (ht : P.underlying t = some d) (hd : flatD d = true) (h : Cell.okWide P w r base t v) : flat0 v := by
  cases d with
  | slice e =>
    cases v <;> simp_all [Cell.okWide, Cell.ok, flat0]
    case slice a n c => cases a with
      | none => cases n <;> cases c <;> simp_all
      | some a => exact ⟨h.2.2.2.1, h.1⟩
  | string => cases v <;> simp_all [Cell.okWide, Cell.ok, flat0]
  | int k => cases v <;> simp_all [Cell.okWide, Cell.ok, flat0]
  | bool => cases v <;> simp_all [Cell.okWide, Cell.ok, flat0]
  | pointer e =>
    cases v <;> simp_all [Cell.okWide, Cell.ok, flat0]
    case pointer a => cases a with
      | none => simp
      | some a => exact h.2.1
  | _ => simp [flatD] at hd
theorem flatV_of_flat0 {v : Value} (h : flat0 v) : flatV v := by
  cases v <;> first | exact h | exact h.elim
theorem flat_of_okWide {P : Program} {w : World} {r : Reach} {base : Nat} {t : TypeId} {v : Value} (ht : flatT P t = true) (h : Value.okWide P w r base t v) : flatV v := by
  unfold flatT at ht
  unfold Value.okWide at h
  have agg : ∀ cs : Array Value, v = .agg cs → Row.okWide P w r base t cs → (match P.cellTypes P.depth t with | some ts => ts.all fun u => (P.underlying u).any flatD | none => false) = true → flatV v := by
    intro cs hv hrow hts
    obtain ⟨ts, h1, _, h3⟩ := hrow
    rw [h1] at hts
    subst hv
    intro i u hu
    obtain ⟨ty, hty, hok⟩ := h3 i u hu
    simp only [List.all_eq_true] at hts
    have := hts ty (List.mem_of_getElem? hty)
    rw [Option.any_eq_true] at this
    obtain ⟨d, hd, hdf⟩ := this
    exact flat_of_cell hd hdf hok
  split at ht
  · rename_i fs hd
    rw [hd] at h
    obtain ⟨cs, hv, _, hrow⟩ := h
    exact agg cs hv hrow ht
  · rename_i n e hd
    rw [hd] at h
    obtain ⟨cs, hv, _, hrow⟩ := h
    exact agg cs hv hrow ht
  · rename_i d n1 n2 hd
    refine flatV_of_flat0 (flat_of_cell (w := w) (r := r) (base := base) hd ht ?_)
    rw [hd] at h
    cases d with
    | struct fs => exact absurd rfl (n1 fs)
    | array n e => exact absurd rfl (n2 n e)
    | _ => exact h
  · cases ht

theorem flats_rel {m : M} {l : List Value} (h : ∀ v ∈ l, flatV v) : LRel m (l.map outA) l := by
  induction l with
  | nil => exact LRel.nil m
  | cons v l ih => exact LRel.cons (outA_rel (h v (by simp))) (ih fun u hu => h u (by simp [hu]))

def m0 : M := ⟨fun _ => (0, 0), 0, fun _ => 0, fun _ => 0⟩
theorem rep0 (w : World) : Rep w m0 [] w := ⟨rfl, Nat.le_refl _, fun _ _ => rfl, rfl, rfl, rfl, fun k B h => by simp at h, fun j k A B h => by simp at h⟩

theorem Rep.below {w0 : World} {m : M} {own : List Blk} {w : World} (h : Rep w0 m own w) : Below w0.heap.size w0 w := ⟨h.os, h.tape, h.output, h.size, h.outer⟩

/-- OUT OF AN ABSTRACT CONTRACT A CONTRACT: from the world in which the call begins. -/
theorem calls_of_acalls {P : Program} {f : FuncId} {w : World} {args : Array Value} {R : AEnd → List Blk → Prop} {la : List Value} (hf : LRel m0 la args.toList) (h : ACalls P w f la [] R) :
    Calls P f args w fun e w' => (∃ ae own m, R ae own ∧ EndRel m ae e) ∧ Below w.heap.size w w' :=
  (h m0 w args (rep0 w) hf).mono fun _ _ ⟨ae, own, m, hR, he, hr, _⟩ => ⟨⟨ae, own, m, hR, he⟩, hr.below⟩
theorem calls_true {P : Program} {f : FuncId} {w : World} {args : Array Value} {R : AEnd → List Blk → Prop} {la : List Value} (hf : LRel m0 la args.toList) (h : ACalls P w f la [] R)
    (hR : ∀ ae o, R ae o → ae = .returned (.bool true)) : Calls P f args w fun e w' => e = .returned (.bool true) ∧ Below w.heap.size w w' :=
  (calls_of_acalls hf h).mono fun e _ ⟨⟨ae, own, m, hr, he⟩, hb⟩ => by
    refine ⟨?_, hb⟩
    obtain rfl := hR _ _ hr
    cases e with
    | returned v => simp only [EndRel] at he; cases he; rfl
    | _ => simp [EndRel] at he

section
variable {H : Type} {enc : TypeId × Value → H} {P : Program}
theorem trodAll_stays (hl : laidOutB P = true) {W W' : World} {sp : Nat → Bool} (hb : Below W.heap.size W W') :
    ∀ {ts : List TypeId} {vs : List Value} {ds : List (DataW H)} {p : List MemPlace}, ts.all (fun t => P.readableRec t && decide (t < P.types.size)) = true →
      DataW.TrodAll enc P W 0 (fun _ => true) true ts vs ds p → (∀ x ∈ p, x.block < W.heap.size) → (∀ x ∈ p, sp x.block = true) → DataW.TrodAll enc P W' 0 sp true ts vs ds p
  | [], _, _, _, _, h, _, _ => by
    obtain ⟨rfl, rfl, rfl⟩ := trodAll_nil h
    exact trodAll_mk0
  | t :: ts, _, _, _, ht, h, hlt, hs => by
    obtain ⟨v, vs1, d, ds1, a, b, rfl, rfl, rfl, h1, h2⟩ := trodAll_cons h
    simp only [List.all_cons, Bool.and_eq_true, decide_eq_true_eq] at ht
    exact ⟨a, b, WideElems.Trod_stays hl ht.1.1 ht.1.2 h1 (fun x hx => hb.same (hlt x (by simp [hx]))) (fun x hx => hs x (by simp [hx])),
      trodAll_stays hl hb ht.2 h2 (fun x hx => hlt x (by simp [hx])) (fun x hx => hs x (by simp [hx])), rfl⟩

theorem trodAll_length {W : World} {b : Nat} {sp : Nat → Bool} {hd : Bool} : ∀ {ts : List TypeId} {vs : List Value} {ds : List (DataW H)} {p : List MemPlace}, DataW.TrodAll enc P W b sp hd ts vs ds p → ds.length = ts.length
  | [], _, _, _, h => by obtain ⟨_, rfl, _⟩ := trodAll_nil h; rfl
  | _ :: _, _, _, _, h => by
    obtain ⟨v, vs1, d, ds1, a, b, rfl, rfl, rfl, h1, h2⟩ := trodAll_cons h
    simp [trodAll_length h2]

theorem trodAll_lengthV {W : World} {b : Nat} {sp : Nat → Bool} {hd : Bool} : ∀ {ts : List TypeId} {vs : List Value} {ds : List (DataW H)} {p : List MemPlace}, DataW.TrodAll enc P W b sp hd ts vs ds p → vs.length = ts.length
  | [], _, _, _, h => by obtain ⟨rfl, _, _⟩ := trodAll_nil h; rfl
  | _ :: _, _, _, _, h => by
    obtain ⟨v, vs1, d, ds1, a, b, rfl, rfl, rfl, h1, h2⟩ := trodAll_cons h
    simp [trodAll_lengthV h2]

/-- WHAT THE ROW OF A LAW ASKS: true, and each argument as it was. -/
theorem post_true {f : Func} {s : ChangeSpec} {W W' : World} {args : Array Value} {ds gs : List (DataW H)} {before : List MemPlace} {tb : TypeId}
    (hl : laidOutB P = true) (hrd : f.params.toList.all (fun t => P.readableRec t && decide (t < P.types.size)) = true) (hres : f.resultTypes = #[tb]) (htb : P.underlying tb = some .bool)
    (hsv : s.vars = []) (hs : ∀ ds : List (DataW H), ds.length = f.params.size → s.fn H ds = { results := [.lit (.bool true)], args := ds, vars := [] })
    (hW : DataW.Whole enc P f.params.toList s.vars false W args.toList ds gs before) (hb : Below W.heap.size W W') : s.post enc P f false true false false W args (.bool true) W' := by
  have hW' := hW
  obtain ⟨p, q, hA, hV, rfl, hfz, hnd⟩ := hW
  rw [hsv] at hV
  have hq : gs = [] ∧ q = [] := by cases gs with | nil => exact ⟨rfl, hV⟩ | cons => exact hV.elim
  obtain ⟨rfl, rfl⟩ := hq
  have hlen := trodAll_length hA
  have hfn := hs ds (by simpa using hlen)
  have hlt : ∀ x ∈ p, x.block < W.heap.size := fun x hx => by simpa using hW'.lt x (by simp [hx])
  have hargs : ∀ sp : Nat → Bool, (∀ x ∈ p, sp x.block = true) → DataW.TrodAll enc P W' 0 sp true f.params.toList args.toList (s.fn H (ds ++ [])).args p := fun sp hsp => by
    rw [List.append_nil, hfn]
    exact trodAll_stays hl hb hrd hA hlt hsp
  have hvars : ∀ sp : Nat → Bool, DataW.TrodVars enc P W' sp s.vars (s.fn H (ds ++ [])).vars [] := fun sp => by
    rw [List.append_nil, hfn, hsv]; rfl
  have hout : ∀ (b : Nat) (sp : Nat → Bool) (hd : Bool), DataW.TrodAll enc P W' b sp hd f.resultTypes.toList ((Value.bool true).resultList f.resultTypes.size) (s.fn H (ds ++ [])).results [] := fun b sp hd => by
    rw [List.append_nil, hfn, hres]
    exact trodAll_mk1 ⟨1, by simp [DataW.trod, Value.cells, htb]⟩
  refine ⟨ds, [], p ++ [], [], p, [], hW', hout _ _ _, hargs _ (fun x hx => by simpa using hlt x hx), hvars _, World.keptBut_mono (fun x hx => ⟨hx, .inr (by simpa using hx)⟩) (hb.frame _), fun _ => ⟨fun j t r hj hr => ?_, _, _, [] ++ p ++ [],
    ⟨[] ++ p, [], trodAll_append (hargs _ (fun _ _ => rfl)) (hout _ _ _), hvars _, rfl, fun b off hx => ?_, fun h => by cases h⟩, fun x hx _ => by simpa using hx⟩⟩
  · rw [hres] at hj hr
    cases j with
    | zero =>
      simp [Value.resultList] at hj hr
      subst hj; subst hr
      simp [Value.okWide, htb, Cell.okWide, Cell.ok]
    | succ j => simp at hj
  · have hx' : MemPlace.cell b off ∈ p := by simpa using hx
    rw [hb.frozen (hlt _ hx')]
    exact hfz b off (by simpa using hx')

/-! Arguments opened, by their places: 'hval' is handed over as it stands (a great program: never let its type be reduced). -/
theorem string_at {W : World} {r : Reach} {base : Nat} {ps : Array TypeId} {args : Array Value} (hval : ∀ (j : Nat) t v, ps[j]? = some t → args[j]? = some v → Value.okWide P W r base t v) {j : Nat} {t : TypeId} {v : Value} {d : DataW H} {pl : List MemPlace} {b : Nat} {sp : Nat → Bool} {hd : Bool}
    (h1 : ps[j]? = some t) (h2 : args[j]? = some v) (ht : P.underlying t = some .string) (h : DataW.Trod enc P W b sp hd t v d pl) : ∃ s : ByteArray, v = .string s ∧ d = .lit (.string s.data.toList) ∧ pl = [] ∧ s.size ≤ maxLen :=
  ChangeMaps.open_string ht (hval j t v h1 h2) h
theorem int_at {W : World} {r : Reach} {base : Nat} {ps : Array TypeId} {args : Array Value} (hval : ∀ (j : Nat) t v, ps[j]? = some t → args[j]? = some v → Value.okWide P W r base t v) {j : Nat} {t : TypeId} {v : Value} {k : IntKind}
    (h1 : ps[j]? = some t) (h2 : args[j]? = some v) (ht : P.underlying t = some (.int k)) : ∃ n : Int, v = .int k n ∧ (Lit.int k n).wf = true := by
  have h := hval j t v h1 h2
  unfold Value.okWide at h
  rw [ht] at h
  cases v <;> simp_all [Cell.okWide, Cell.ok]
  simpa [Lit.wf, IntKind.has] using h.2
theorem flat_at {W : World} {r : Reach} {base : Nat} {ps : Array TypeId} {args : Array Value} (hval : ∀ (j : Nat) t v, ps[j]? = some t → args[j]? = some v → Value.okWide P W r base t v) {j : Nat} {t : TypeId} {v : Value}
    (h1 : ps[j]? = some t) (h2 : args[j]? = some v) (ht : flatT P t = true) : flatV v := flat_of_okWide ht (hval j t v h1 h2)

/-- THE CONTRACT OF A LAW, out of a walk. -/
theorem contract_of_true {f : FuncId} {fn : Func} {s : ChangeSpec} {tb : TypeId} (hl : laidOutB P = true) (hrd : fn.params.toList.all (fun t => P.readableRec t && decide (t < P.types.size)) = true) (hres : fn.resultTypes = #[tb])
    (htb : P.underlying tb = some .bool) (hsv : s.vars = []) (hs : ∀ ds : List (DataW H), ds.length = fn.params.size → s.fn H ds = { results := [.lit (.bool true)], args := ds, vars := [] })
    {W : World} {args : Array Value} {ds gs : List (DataW H)} {before : List MemPlace}
    (hW : DataW.Whole enc P fn.params.toList s.vars false W args.toList ds gs before)
    (hrun : Calls P f args W fun e w' => e = .returned (.bool true) ∧ Below W.heap.size W w') :
    Calls P f args W fun e W' => ∃ v, e = .returned v ∧ s.post enc P fn false true false false W args v W' :=
  hrun.mono fun _ _ ⟨he, hb⟩ => ⟨_, he, post_true hl hrd hres htb hsv hs hW hb⟩

/-- THE CONTRACT OF A LAW, out of an abstract one. -/
theorem contract_of_acalls {f : FuncId} {fn : Func} {s : ChangeSpec} {tb : TypeId} (hl : laidOutB P = true) (hrd : fn.params.toList.all (fun t => P.readableRec t && decide (t < P.types.size)) = true) (hres : fn.resultTypes = #[tb])
    (htb : P.underlying tb = some .bool) (hsv : s.vars = []) (hs : ∀ ds : List (DataW H), ds.length = fn.params.size → s.fn H ds = { results := [.lit (.bool true)], args := ds, vars := [] })
    (hflat : fn.params.toList.all (flatT P) = true) {W : World} {base : Nat} {args : Array Value} {ds gs : List (DataW H)} {before : List MemPlace}
    (hval : ∀ (j : Nat) t v, fn.params[j]? = some t → args[j]? = some v → Value.okWide P W .any base t v)
    (hW : DataW.Whole enc P fn.params.toList s.vars false W args.toList ds gs before)
    (hrun : LRel m0 (args.toList.map outA) args.toList → args.size = fn.params.size → ACalls P W f (args.toList.map outA) [] fun ae _ => ae = .returned (.bool true)) :
    Calls P f args W fun e W' => ∃ v, e = .returned v ∧ s.post enc P fn false true false false W args v W' := by
  have hW' := hW
  obtain ⟨p, q, hA, -, -, -, -⟩ := hW
  have hlen := trodAll_lengthV hA
  have hfl : ∀ v ∈ args.toList, flatV v := fun v hv => by
    obtain ⟨j, hj⟩ := List.mem_iff_getElem?.1 hv
    have hlt : j < fn.params.size := by
      have := (List.getElem?_eq_some_iff.1 hj).1
      simp at hlen this; omega
    simp only [List.all_eq_true] at hflat
    exact flat_of_okWide (hflat fn.params[j] (by simp)) (hval j fn.params[j] v (by simp) (by simpa using hj))
  refine (calls_true (flats_rel hfl) (hrun (flats_rel hfl) (by simpa using hlen)) fun _ _ h => h).mono fun e W' ⟨he, hb⟩ => ?_
  exact ⟨_, he, post_true hl hrd hres htb hsv hs hW' hb⟩
end
end Go.Sim
