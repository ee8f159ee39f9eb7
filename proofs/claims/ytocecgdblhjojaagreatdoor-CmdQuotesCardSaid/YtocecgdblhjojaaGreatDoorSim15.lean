/-
  A calculus of abstract runs, part 15: runs by reckoning.
-/
import Derived.Test.YtocecgdblhjojaaGreatDoorSim14
namespace Go.Sim

/-! Are two values the same? -/
def veqL (f : Value → Value → Bool) : List Value → List Value → Bool
  | [], [] => true
  | x :: l, y :: r => f x y && veqL f l r
  | _, _ => false
def veq : Nat → Value → Value → Bool
  | 0, _, _ => false
  | n + 1, x, y =>
    match x, y with
    | .bool a, .bool b => a == b
    | .int k a, .int l b => decide (k = l) && a == b
    | .string a, .string b => a.data.toList == b.data.toList
    | .pointer a, .pointer b => decide (a = b)
    | .slice a n c, .slice b m d => decide (a = b) && n == m && c == d
    | .func f a b, .func g c d => decide (f = g) && veqL (veq n) a.toList c.toList && veqL (veq n) b.toList d.toList
    | .nilFunc, .nilFunc => true
    | .iface t a, .iface u b => t == u && veq n a b
    | .nilIface, .nilIface => true
    | .agg a, .agg b => veqL (veq n) a.toList b.toList
    | .tuple a, .tuple b => veqL (veq n) a.toList b.toList
    | _, _ => false
theorem veqL_eq {f : Value → Value → Bool} (hf : ∀ x y, f x y = true → x = y) : ∀ {l r : List Value}, veqL f l r = true → l = r
  | [], [], _ => rfl
  | [], _ :: _, h => by simp [veqL] at h
  | _ :: _, [], h => by simp [veqL] at h
  | x :: l, y :: r, h => by
    simp only [veqL, Bool.and_eq_true] at h
    rw [hf x y h.1, veqL_eq hf h.2]
theorem veq_eq : ∀ (n : Nat) (x y : Value), veq n x y = true → x = y
  | 0, _, _, h => by simp [veq] at h
  | n + 1, x, y, h => by
    have ih := veq_eq n
    cases x <;> cases y <;> simp only [veq, Bool.and_eq_true, Bool.false_eq_true, beq_iff_eq, decide_eq_true_eq] at h
    · rw [h]
    · rw [h.1, h.2]
    · rename_i a b
      have : a.data = b.data := Array.ext' h
      cases a; cases b; simp only at this; rw [this]
    · rw [h]
    · rw [h.1.1, h.1.2, h.2]
    · rw [h.1.1, Array.ext' (veqL_eq ih h.1.2), Array.ext' (veqL_eq ih h.2)]
    · rfl
    · rw [h.1, ih _ _ h.2]
    · rfl
    · rw [Array.ext' (veqL_eq ih h)]
    · rw [Array.ext' (veqL_eq ih h)]

abbrev CallT := FuncId → List Value → List Blk → Option (AEnd × List Blk)
abbrev Res := Option (AExit × AA × List Blk)

section
variable (P : Program) (out : Nat → Nat → Option Value) (ops : Array Oper) (call : CallT)

def opsE : List Oper → AA → List Blk → Res
  | [], s, own => some (.normal, s, own)
  | o :: r, s, own =>
    if wantedA ops s.t o then
      match aop P out own (evalA s.t) o with
      | none => none
      | some (.value v, own') => opsE r { s with t := putA s.t o.dst v } own'
      | some (.enter f args, own') => match call f args own' with
        | none => none
        | some (.returned v, own'') => opsE r { s with t := putA s.t o.dst v } own''
        | some (.panicked v, own'') => some (.panic v, s, own'')
      | some (.panic v, own') => some (.panic v, s, own')
      | some (.defer f args, own') => opsE r { t := putA s.t o.dst undef, ds := (f, args) :: s.ds } own'
      | some (.recover, _) => none
    else opsE r { s with t := putA s.t o.dst undef } own

def qsE : List Nat → AA → List Blk → Option AA
  | [], s, _ => some s
  | i :: r, s, own => match ops[i]? with
    | none => none
    | some o =>
      if !isQuietOp P o then none else
      if wantedA ops s.t o then
        match aop P out own (evalA s.t) o with
        | some (.value v, _) => qsE r { s with t := putA s.t o.dst v } own
        | _ => none
      else qsE r { s with t := putA s.t o.dst undef } own
def rrE (i : Nat) (s : AA) (own : List Blk) : Bool :=
  match ops[i]? with
  | none => false
  | some o => isQuietOp P o && match o.dst with
    | none => false
    | some d =>
      if wantedA ops s.t o then
        match aop P out own (evalA s.t) o with
        | some (.value v, _) => veq 8 v (s.t.getD d undef)
        | _ => false
      else veq 8 (s.t.getD d undef) undef
def zsE : List Nat → AA → List Blk → Option (AA × List Blk)
  | [], s, own => some (s, own)
  | i :: r, s, own => match ops[i]? with
    | none => none
    | some o => match aop P out own (evalA s.t) o with
      | some (.value v, own') => zsE r { s with t := putA s.t o.dst v } own'
      | _ => none
def planE (qf zf : List Nat) : List Nat → List Stage → AA → List Blk → Res
  | lc, [], s, own => match qsE P out ops qf s own with
    | none => none
    | some s1 => if !(lc ++ qf).all fun i => rrE P out ops i s1 own then none else
      match zsE P out ops zf s1 own with
      | none => none
      | some (s2, own2) => some (.normal, s2, own2)
  | lc, (qs, zs, e) :: rest, s, own => match qsE P out ops qs s own with
    | none => none
    | some s1 => if !(lc ++ qs).all fun i => rrE P out ops i s1 own then none else
      match zsE P out ops zs s1 own with
      | none => none
      | some (s2, own2) => match ops[e]? with
        | none => none
        | some o =>
          let go := planE qf zf ((lc ++ qs).filter fun i => !isAnc ops e i) rest
          if wantedA ops s2.t o then
            match aop P out own2 (evalA s2.t) o with
            | none => none
            | some (.value v, own') => go { s2 with t := putA s2.t o.dst v } own'
            | some (.enter f args, own') => match call f args own' with
              | none => none
              | some (.returned v, own'') => go { s2 with t := putA s2.t o.dst v } own''
              | some (.panicked v, own'') => some (.panic v, { s2 with t := maskT ops s2.t }, own'')
            | some (.panic v, own') => some (.panic v, { s2 with t := maskT ops s2.t }, own')
            | some (.defer f args, own') => go { t := putA s2.t o.dst undef, ds := (f, args) :: s2.ds } own'
            | some (.recover, _) => none
          else go { s2 with t := putA s2.t o.dst undef } own2
end

def loopE (f : AA → List Blk → Res) : Nat → AA → List Blk → Res
  | 0, _, _ => none
  | n + 1, s, own => match f s own with
    | some (.normal, s', own') => loopE f n s' own'
    | r => r

def execE (P : Program) (out : Nat → Nat → Option Value) (call : CallT) (lf : Nat) : Code → AA → List Blk → Res
  | .skip, s, own => some (.normal, s, own)
  | .label _, s, own => some (.normal, s, own)
  | .exit id, s, own => some (.exit id, s, own)
  | .ret, s, own => some (.ret, s, own)
  | .region _ ops d, s, own =>
    if d then
      let pl := mkPlan P ops
      planE P out ops call pl.2.1 pl.2.2 [] pl.1 s own
    else opsE P out ops call ops.toList s own
  | .seq a b, s, own => match execE P out call lf a s own with
    | some (.normal, s', own') => execE P out call lf b s' own'
    | r => r
  | .cond c x y, s, own => match evalA s.t c with
    | .bool true => execE P out call lf x s own
    | .bool false => execE P out call lf y s own
    | _ => none
  | .block id c, s, own => match execE P out call lf c s own with
    | some (.exit i, s', own') => if i = id then some (.normal, s', own') else some (.exit i, s', own')
    | r => r
  | .loop c, s, own => loopE (execE P out call lf c) lf s own
  | _, _, _ => none

/-- What must be seen once of a function's text. -/
def codeOk (P : Program) : Code → Bool
  | .region _ ops d => ops.toList.all plainOper && (!d || (let pl := mkPlan P ops; planOk P ops (flatS pl.2.1 pl.2.2 pl.1)))
  | .seq a b => codeOk P a && codeOk P b
  | .cond c x y => plainOperand c && codeOk P x && codeOk P y
  | .block _ c => codeOk P c
  | .loop c => codeOk P c
  | _ => true
def fnOk (P : Program) (f : FuncId) : Bool :=
  match P.funcs[f]? with
  | some fn => match fn.body with
    | some c => codeOk P c
    | none => false
  | none => false

/-! Functions that defer: how things stand with the caller. -/
inductive AMode where
  | ret
  | pan (v : Value) (recovered : Bool)
def isRecover (o : Oper) : Bool := match o.op with
  | .call c => match c.callee with
    | .builtin .recover => true
    | _ => false
  | _ => false
def opsSE (P : Program) (out : Nat → Nat → Option Value) (ops : Array Oper) : List Nat → AA → AMode → List Blk → Option (AA × AMode × List Blk)
  | [], s, μ, own => some (s, μ, own)
  | i :: r, s, μ, own => match ops[i]? with
    | none => none
    | some o => if !wantedA ops s.t o then none else
      if isRecover o then match μ with
        | .pan v false => opsSE P out ops r { s with t := putA s.t o.dst v } (.pan v true) own
        | .ret => opsSE P out ops r { s with t := putA s.t o.dst .nilIface } .ret own
        | _ => none
      else match o.op with
        | .assign x | .move x => opsSE P out ops r { s with t := putA s.t o.dst (evalA s.t x) } μ own
        | _ => none
def execSE (P : Program) (out : Nat → Nat → Option Value) (call : CallT) (lf : Nat) : Code → AA → AMode → List Blk → Option (AExit × AA × AMode × List Blk)
  | .seq a b, s, μ, own => match execSE P out call lf a s μ own with
    | some (.normal, s', μ', own') => execSE P out call lf b s' μ' own'
    | r => r
  | .region id ops d, s, μ, own =>
    if !d && ops.toList.any isRecover then match opsSE P out ops (List.range ops.size) s μ own with
      | some (s', μ', own') => some (.normal, s', μ', own')
      | none => none
    else match execE P out call lf (.region id ops d) s own with
      | some (e, s', own') => some (e, s', μ, own')
      | none => none
  | c, s, μ, own => match execE P out call lf c s own with
    | some (e, s', own') => some (e, s', μ, own')
    | none => none
def settleA : AMode → AMode
  | .pan _ true => .ret
  | μ => μ
def isHole : Value → Bool
  | .chan (some _) => true
  | _ => false
def noHole (t : List Value) (rs : List ResultVar) : Bool := rs.all fun
  | .tmp d | .cell d _ => !isHole (t.getD d undef)
def callDE (P : Program) (out : Nat → Nat → Option Value) (call : CallT) (lf : Nat) (f : FuncId) (args : List Value) (μ : AMode) (own : List Blk) : Option (AMode × List Blk) :=
  match P.funcs[f]? with
  | none => none
  | some fn => match fn.body with
    | none => none
    | some c => if fn.name == "runtime.NumGoroutine" || !codeOk P c || !fn.results.toList.isEmpty then none else
      match execSE P out call lf c (enterA fn args) μ own with
      | some (.normal, s, μ', own') | some (.ret, s, μ', own') => match s.ds with
        | [] => some (μ', own')
        | _ => none
      | _ => none
def leaveE (P : Program) (out : Nat → Nat → Option Value) (call : CallT) (lf : Nat) (fn : Func) (t : List Value) : List (FuncId × List Value) → AMode → List Blk → Option (AEnd × List Blk)
  | [], .ret, own => if !noHole t fn.results.toList then none else match resA P out own t fn.results.toList with
    | some l => some (.returned (packA l), own)
    | none => none
  | [], .pan v false, own => some (.panicked v, own)
  | [], .pan _ true, _ => none
  | (f, args) :: ds, μ, own => match callDE P out call lf f args μ own with
    | some (μ', own') => leaveE P out call lf fn t ds (settleA μ') own'
    | none => none

def finE (P : Program) (out : Nat → Nat → Option Value) (call : CallT) (lf : Nat) (fn : Func) : Res → Option (AEnd × List Blk)
  | some (.normal, s, own) | some (.ret, s, own) => leaveE P out call lf fn s.t s.ds .ret own
  | some (.panic v, s, own) => leaveE P out call lf fn s.t s.ds (.pan v false) own
  | _ => none

def callE (P : Program) (out : Nat → Nat → Option Value) (okF : FuncId → Bool) (prims : FuncId → Option (List Value → List Blk → Option (AEnd × List Blk))) (lf : Nat) : Nat → CallT
  | 0, _, _, _ => none
  | n + 1, f, args, own => match prims f with
    | some p => p args own
    | none => if !okF f then none else
      match P.funcs[f]? with
      | none => none
      | some fn => match fn.body with
        | none => none
        | some c => finE P out (callE P out okF prims lf n) lf fn (execE P out (callE P out okF prims lf n) lf c (enterA fn args) own)

end Go.Sim
