/-
  A calculus of abstract runs, part 18: a world for the witness, the listed variables laid; what a reckoned run gives.
-/
import Derived.Test.YtocecgdblhjojaaGreatDoorSim17
import Derived.Deep.DeepHandedRow
import Derived.Deep.DeepWitnessRowRef
import Derived.Deep.DeepLaidRun
namespace Go.Sim

/-- The cells of a flat datum. -/
def cellsD : Nat → DataW Unit → List Value
  | _, .lit (.int k n) => [.int k n]
  | _, .lit (.bool b) => [.bool b]
  | _, .lit (.string bs) => [.string ⟨bs.toArray⟩]
  | n + 1, .agg parts => parts.flatMap (cellsD n)
  | _, _ => []

def putG (h : Array Obj) (g : Nat) (cs : List Value) : Array Obj := h.modify g fun
  | .cells _ t frozen => .cells cs.toArray t frozen
  | o => o
/-- 'tabs': variables that hold flat data; 'errs': variables that hold an interface over a pointer to a struct of its own. -/
noncomputable def laidW (P : Program) (os : Os) (tabs : List (Nat × DataW Unit)) (errs : List (Nat × TypeId × TypeId × List Value)) : World :=
  let N := (World.settled P os).heap.size
  let w := World.holding P os ⟨(errs.map fun e => Obj.cells e.2.2.2.toArray e.2.2.1).toArray, #[], []⟩
  let h1 := tabs.foldl (fun h x => putG h x.1 (cellsD 4 x.2)) w.heap
  let h2 := errs.zipIdx.foldl (fun h x => putG h x.1.1 [.iface x.1.2.1 (.pointer (some ⟨N + x.2, 0, none⟩))]) h1
  { w with heap := h2 }

def isTrueE : Option (AEnd × List Blk) → Bool
  | some (.returned (.bool true), _) => true
  | _ => false
/-- Every function of the program is one that the reckoner knows, or bears no code. -/
def allOk (P : Program) (bad : List FuncId) : Bool := (List.range P.funcs.size).all fun f => fnOk P f || ((P.funcs[f]?).bind (·.body)).isNone || bad.contains f
theorem ok_of_allOk {P : Program} {bad : List FuncId} (h : allOk P bad = true) : ∀ f, (!bad.contains f) = true → (P.funcs[f]?).isSome = true → fnOk P f = true ∨ ((P.funcs[f]?).bind (·.body)) = none := by
  intro f hf hs
  have hlt : f < P.funcs.size := by
    rw [Option.isSome_iff_exists] at hs
    obtain ⟨x, hx⟩ := hs
    exact (Array.getElem?_eq_some_iff.1 hx).1
  simp only [allOk, List.all_eq_true, List.mem_range] at h
  have := h f hlt
  simp only [Bool.or_eq_true] at this
  rcases this with (h1 | h1) | h1
  · exact .inl h1
  · exact .inr (Option.isNone_iff_eq_none.1 h1)
  · rw [h1] at hf; simp at hf
theorem noPrims (P : Program) (w0 : World) : PrimsOK P w0 fun _ => none := fun _ _ h => by cases h
theorem noOut (w0 : World) : OutOK w0 fun _ _ => none := fun _ _ _ h => by cases h

/-- What is reckoned to be true is so. -/
theorem acalls_true {P : Program} {w0 : World} {out : Nat → Nat → Option Value} {bad : List FuncId} {prims : Prims} (hm : P.follows .mixedOrders = true) (ho : OutOK w0 out) (hb : allOk P bad = true) (hp : PrimsOK P w0 prims) (lf n : Nat) {f : FuncId} {args : List Value} {own : List Blk}
    (h : isTrueE (callE P out (fun f => !bad.contains f) prims lf n f args own) = true) : ACalls P w0 f args own fun ae _ => ae = .returned (.bool true) := by
  cases hr : callE P out (fun f => !bad.contains f) prims lf n f args own with
  | none => rw [hr] at h; cases h
  | some x =>
    obtain ⟨r, own'⟩ := x
    rw [hr] at h
    refine (callE_sound hm ho (ok_of_allOk hb) hp lf n f args own r own' hr).mono fun ae o ⟨h1, _⟩ => ?_
    subst h1
    unfold isTrueE at h
    split at h
    · rename_i he
      simp only [Option.some.injEq, Prod.mk.injEq] at he
      exact he.1
    · cases h
end Go.Sim
