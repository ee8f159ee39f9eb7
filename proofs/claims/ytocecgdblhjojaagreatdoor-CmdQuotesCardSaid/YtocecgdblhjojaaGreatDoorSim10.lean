/-
  A calculus of abstract runs, part 10: a region that draws its order. What is made anew and not yet used.
-/
import Derived.Test.YtocecgdblhjojaaGreatDoorSim9
import Derived.Orders
namespace Go.Sim

section
variable {P : Program} {w0 : World} {out : Nat → Nat → Option Value}

/-- Operations that may be done at any time: they make a block out of nothing. -/
def isLazy (o : Oper) : Bool :=
  o.guard.isNone && match o.op with
  | .alloc _ => true
  | .buildSlice _ _ parts => parts.isEmpty
  | _ => false
def lazyOk (P : Program) (o : Oper) : Bool := isLazy o && (aop P (fun _ _ => none) [] (fun _ => undef) o).isSome

theorem ptr_new {m : M} {own : List Blk} (b : Nat) (h : m.n = own.length) : VRel (m.push b 0 0 0) (.pointer (some (nextAddr own))) (.pointer (some ⟨b, 0, none⟩)) ∧
    okAddr (m.push b 0 0 0) (nextAddr own) ∧ (m.push b 0 0 0).addr (nextAddr own) = ⟨b, 0, none⟩ := by
  have e : (m.push b 0 0 0).addr (nextAddr own) = ⟨b, 0, none⟩ := by simp [M.addr, nextAddr, next_half, M.push, h, next_odd]
  have hok : okAddr (m.push b 0 0 0) (nextAddr own) := ⟨rfl, fun _ => by simp [nextAddr, next_half, M.push, h]⟩
  exact ⟨by rw [← e]; exact .ptr _ hok, hok, e⟩

/-- What such an operation comes to, in whatever world and whatever abstract memory. -/
def LazyIs (P : Program) (o : Oper) (B : Blk) (c : Array Value) (mk : Nat → Value) : Prop :=
  B.fix = true ∧ (∀ (a : Act) w', (execOp a.eval o).run P w' = .ok (.value (mk w'.heap.size)) (w'.alloc (.cells c B.elem))) ∧
    c.size = B.cells.length ∧ (∀ (m : M) (i : Nat) (v : Value), B.cells[i]? = some v → ∃ v', c[i]? = some v' ∧ VRel m v v') ∧
    ∀ out own ρ, ∃ v, aop P out own ρ o = some (.value v, own ++ [B]) ∧ ∀ (m : M) b, m.n = own.length → VRel (m.push b 0 0 0) v (mk b)

theorem lazy_is {o : Oper} (hl : lazyOk P o = true) : o.guard = none ∧ ∃ B c mk, LazyIs P o B c mk := by
  simp only [lazyOk, isLazy, Bool.and_eq_true] at hl
  obtain ⟨⟨hg, hk⟩, hs⟩ := hl
  refine ⟨by simpa using hg, ?_⟩
  obtain ⟨dst, op, ty, pos, after, guard⟩ := o
  obtain ⟨r, hr⟩ := Option.isSome_iff_exists.1 hs
  cases op with
  | alloc e =>
    simp only [aop] at hr
    split at hr
    · rename_i i hi
      split at hr
      · rename_i z hz
        split at hr
        · rename_i hpl
          refine ⟨{ cells := z.cells.toList, elem := e }, z.cells, fun b => .pointer (some ⟨b, 0, none⟩), rfl, fun a w' => by simp [execOp, Instr.alloc, zeroValue, typeInfo, hi, hz, newVar, newRow], by simp, fun m i v hv => ?_,
            fun out own ρ => ⟨_, by simp only [aop, hi, hz]; rw [if_pos hpl], fun m b hb => (ptr_new b hb).1⟩⟩
          have := (plains_rel m hpl).toList.get hv
          simpa using this
        · cases hr
      · cases hr
    · cases hr
  | buildSlice e len parts =>
    have hp : parts = #[] := by simpa using hk
    subst hp
    simp only [aop] at hr
    split at hr
    · rename_i x own1 hb
      unfold buildSliceA at hb
      split at hb
      · rename_i el ht
        split at hb
        · rename_i i hi
          split at hb
          · rename_i z hz
            split at hb
            · cases hb
            rename_i hc
            have hc' := hc
            simp only [Bool.not_eq_true, Bool.not_eq_false', Bool.and_eq_true, decide_eq_true_eq] at hc
            obtain ⟨hpl, hle⟩ := hc
            refine ⟨{ cells := (zeroRow z.cells (len * i.size)).toList, elem := el }, zeroRow z.cells (len * i.size), fun b => .slice (some ⟨b, 0, none⟩) len len, rfl, fun a w' => ?_, by simp, fun m j v hv => ?_, fun out own ρ => ⟨.slice (some (nextAddr own)) len (len + 1), ?_, fun m b hb => ?_⟩⟩
            · have := run_buildSlice P w' ht hi hz len #[] hle (cells := zeroRow z.cells (len * i.size)) (by simp [Instr.fill]; rfl)
              simp [execOp, this]
            · have := (plains_rel m (zeroRow_plain hpl (len * i.size))).toList.get hv
              simpa using this
            · simp only [aop, buildSliceA, ht, hi, hz]
              rw [if_neg hc']
              simp [Instr.fill]
            · obtain ⟨_, g2, g3⟩ := ptr_new (m := m) (own := own) b hb
              show VRel (m.push b 0 0 0) _ (.slice (some ⟨b, 0, none⟩) len len)
              rw [← g3]
              exact .slice _ _ _ _ g2 (Nat.le_refl _) (.inr rfl) (fun h => by omega)
          · cases hb
        · cases hb
      · cases hb
    · cases hr
  | _ => simp at hk

/-- A block that lies in the world already becomes the call's own. -/
theorem adopt_rel {m : M} {own : List Blk} {w : World} (hr : Rep w0 m own w) {b : Nat} {B : Blk} {c : Array Value} (hb : w0.heap.size ≤ b) (hblk : w.heap[b]? = some (.cells c B.elem (0, 0)))
    (hfree : ∀ k A, own[k]? = some A → A.dead = false → (m.f k).1 ≠ b) (hfix : B.fix = true) (hsz : c.size = B.cells.length)
    (hc : ∀ (i : Nat) (v : Value), B.cells[i]? = some v → ∃ v', c[i]? = some v' ∧ VRel m v v') :
    Rep w0 (m.push b 0 0 0) (own ++ [B]) w ∧ ∀ {m0 : M} {own0 : List Blk} {w00 : World}, Step m0 own0 w00 m own w → w00.heap.size ≤ b → Step m0 own0 w00 (m.push b 0 0 0) (own ++ [B]) w := by
  have hget : ∀ k A, (own ++ [B])[k]? = some A → (k < m.n ∧ own[k]? = some A) ∨ (k = m.n ∧ A = B) := fun k A hk => by
    have hk' := lt_of_get hk
    simp at hk'
    by_cases hlt : k < own.length
    · rw [List.getElem?_append_left hlt] at hk; exact .inl ⟨by rw [hr.len]; exact hlt, hk⟩
    · have e : k = own.length := by omega
      subst e
      simp at hk
      exact .inr ⟨hr.len.symm, hk.symm⟩
  have hpe := Ext.push m b 0 0 0
  refine ⟨⟨by simp [M.push, hr.len], hr.size, hr.outer, hr.os, hr.tape, hr.output, fun k A hk hd => ?_, fun j k A A' hj hk hd hd' e => ?_⟩, fun {m0 own0 w00} hs hw => ⟨hs.ext.trans hpe, hs.size, hs.frame, fun k A hk hd => ?_⟩⟩
  · rcases hget k A hk with ⟨hlt', hk'⟩ | ⟨rfl, rfl⟩
    · exact (hr.blk k A hk' hd).mono hpe hlt' rfl
    · refine ⟨by rw [push_last]; exact hb, c, (0, 0), by rw [push_last]; exact hblk, fun _ => ⟨by rw [push_last], hsz⟩, fun hf => absurd (hfix.symm.trans hf) (by simp), fun i v hv => ?_, fun i h1 h2 h3 => Nat.zero_le _, fun _ => .inl rfl⟩
      obtain ⟨v', h1, h2⟩ := hc i v hv
      exact ⟨v', by rw [push_last]; simpa using h1, h2.mono hpe⟩
  · rcases hget j A hj with ⟨h1, hj'⟩ | ⟨rfl, rfl⟩ <;> rcases hget k A' hk with ⟨h2, hk'⟩ | ⟨rfl, rfl⟩
    · rw [(hpe.2 _ h1).1, (hpe.2 _ h2).1] at e
      exact hr.inj j k A A' hj' hk' hd hd' e
    · rw [(hpe.2 _ h1).1, push_last] at e
      exact absurd e (hfree j A hj' hd)
    · rw [push_last, (hpe.2 _ h2).1] at e
      exact absurd e.symm (hfree k A' hk' hd')
    · rfl
  · rcases hget k A hk with ⟨h1, hk'⟩ | ⟨rfl, rfl⟩
    · rw [(hpe.2 _ h1).1]; exact hs.sub k A hk' hd
    · exact .inl (by rw [push_last]; exact hw)

end
end Go.Sim
