/-
  A calculus of abstract runs, part 4: the other operations, one by one.
-/
import Derived.Test.YtocecgdblhjojaaGreatDoorSim3
import Derived.Laws.Tables
namespace Go.Sim

section
variable {w0 : World} {out : Nat → Nat → Option Value} {m : M} {own : List Blk} {w : World}

/-! What asks the program alone. -/
def pureRun {α : Type} (P : Program) : Sem α → Option α
  | .pure a => some a
  | .program k => pureRun P (k P)
  | .mark _ k => pureRun P k
  | _ => none
theorem pureRun_run {α : Type} (P : Program) (s : Sem α) (a : α) (h : pureRun P s = some a) (w : World) : s.run P w = .ok a w := by
  induction s with
  | pure b => simp [pureRun] at h; subst h; rfl
  | program k ih => simp only [pureRun] at h; simp only [Sem.run]; exact ih P h
  | mark m k ih => simp only [pureRun] at h; simp only [Sem.run]; exact ih h
  | _ => simp [pureRun] at h

/-! Bytes and strings. -/
def bytesOf : List Value → Option (List UInt8)
  | [] => some []
  | .int .u8 n :: r => match bytesOf r with
    | some l => some (UInt8.ofNat n.toNat :: l)
    | none => none
  | _ => none
theorem bytesOf_ints : ∀ (l : List Value) (b : List UInt8), bytesOf l = some b → ∃ ns : List Int, l = ns.map (Value.int .u8) ∧ b = ns.map fun n => UInt8.ofNat n.toNat
  | [], b, h => by simp [bytesOf] at h; exact ⟨[], rfl, h⟩
  | v :: r, b, h => by
    cases v with
    | int k n =>
      cases k <;> simp [bytesOf] at h
      case u8 =>
        cases hr : bytesOf r with
        | none => simp [hr] at h
        | some l =>
          simp [hr] at h
          obtain ⟨ns, h1, h2⟩ := bytesOf_ints r l hr
          exact ⟨n :: ns, by simp [h1], by simp [← h, h2]⟩
    | _ => simp [bytesOf] at h
theorem ints_rel {ns : List Int} {l' : List Value} (h : LRel m (ns.map (Value.int .u8)) l') : l' = ns.map (Value.int .u8) := by
  apply List.ext_getElem?
  intro i
  by_cases hi : i < ns.length
  · obtain ⟨v', h1, h2⟩ := h.get (i := i) (v := .int .u8 ns[i]) (by simp [hi])
    cases h2
    simp [h1, hi]
  · have := h.1
    simp at this
    rw [List.getElem?_eq_none (by omega), List.getElem?_eq_none (by simp; omega)]

def toStrA (out : Nat → Nat → Option Value) (own : List Blk) : Value → Option ByteArray
  | .slice none 0 0 => some ByteArray.empty
  | .slice (some a) n _ => match cellsA out own a 0 n with
    | some l => match bytesOf l with
      | some b => some ⟨b.toArray⟩
      | none => none
    | none => none
  | _ => none
theorem toStrA_rel (P : Program) (hr : Rep w0 m own w) (ho : OutOK w0 out) {x x' : Value} (hx : VRel m x x') {s : ByteArray} (h : toStrA out own x = some s) :
    (∃ a n c, x' = .slice a n c) ∧ (Conv.bytesToString x').run P w = .ok (.string s) w := by
  cases hx with
  | sliceNil => simp [toStrA] at h; subst h; exact ⟨⟨_, _, _, rfl⟩, by simp [Conv.bytesToString]⟩
  | slice a n c c' h1 h2 h3 h4 =>
    simp only [toStrA] at h
    split at h
    · rename_i l hl
      split at h
      · rename_i b hb
        simp at h
        subst h
        obtain ⟨ns, rfl, rfl⟩ := bytesOf_ints l b hb
        obtain ⟨l', hlr, _, hrun⟩ := loadCells_rel P hr ho hl
        rw [ints_rel hlr] at hrun
        refine ⟨⟨_, _, _, rfl⟩, ?_⟩
        rw [run_bytesToString w _ _ _ ns hrun, foldl_push_bytes]
        simp
      · cases h
    · cases h
  | sliceEmpty a a' c hc =>
    simp [toStrA, cellsA, bytesOf] at h
    subst h
    refine ⟨⟨_, _, _, rfl⟩, ?_⟩
    rw [run_bytesToString w _ _ _ [] (by simp [loadCells, loadCellsFrom])]
    rfl
  | _ => simp [toStrA] at h

theorem freeze_push (w : World) (c : Array Value) (e : TypeId) (n : Nat) (h : n = c.size) :
    ((w.alloc (.cells c e)).freeze ⟨w.heap.size, n, none⟩ 1).heap = w.heap.push (.cells c e (n, n + 1)) := by
  subst h
  apply Array.ext_getElem?
  intro i
  simp only [World.freeze, if_neg (by decide : ¬ (1 = 0)), Array.getElem?_modify]
  show (if w.heap.size = i then Option.map _ (w.heap.push (.cells c e))[i]? else (w.heap.push (.cells c e))[i]?) = _
  by_cases hi : w.heap.size = i
  · subst hi; simp
  · have hi' : ¬ (i = w.heap.size) := fun e => hi e.symm
    simp [hi, hi', Array.getElem?_push]

/-- A string's bytes, as a block that may grow. -/
def strBlk (e : TypeId) (s : ByteArray) : Blk := { cells := s.data.toList.map fun b : UInt8 => Value.int .u8 b.toNat, elem := e, fix := false, es := 1 }
theorem strBytes_rel (P : Program) (hr : Rep w0 m own w) (e : TypeId) (s : ByteArray) :
    ∃ v' w' m', (Conv.stringToBytes e s).run P w = .ok v' w' ∧ VRel m' (.slice (some (nextAddr own)) s.size 0) v' ∧
      Rep w0 m' (own ++ [strBlk e s]) w' ∧
      Step m own w m' (own ++ [strBlk e s]) w' := by
  let cap := (Question.appendCap s.size 0 e).cut (w.tape w.drawn (.appendCap s.size 0 e))
  have hcap : s.size ≤ cap := cut_ge _ _ _ _
  let c : Array Value := (s.data.map fun b : UInt8 => Value.int .u8 b.toNat) ++ Array.replicate (cap - s.size) (Value.int .u8 0)
  have hcs : c.size = cap := by
    show ((s.data.map fun b : UInt8 => Value.int .u8 b.toNat) ++ Array.replicate (cap - s.size) (Value.int .u8 0)).size = cap
    simp only [Array.size_append, Array.size_map, Array.size_replicate]
    have : s.data.size = s.size := rfl
    omega
  let w' := (w.drew.alloc (.cells c e)).freeze ⟨w.heap.size, cap, none⟩ 1
  have hrun : (Conv.stringToBytes e s).run P w = .ok (.slice (some ⟨w.heap.size, 0, none⟩) s.size cap) w' := by
    have hsh : (w.drew.alloc (.cells c e)).shape? w.heap.size = some (e, c.size) := by
      simp only [World.shape?]
      have : (w.drew.alloc (.cells c e)).heap[w.heap.size]? = some (.cells c e) := by
        show (w.heap.push (.cells c e))[w.heap.size]? = _
        simp
      rw [this]
    simp [Conv.stringToBytes, Question.forced, newRow, markStringish]
    rw [show (w.drew.alloc (.cells (Array.map (fun b : UInt8 => Value.int IntKind.u8 b.toNat) s.data ++ Array.replicate ((Question.appendCap s.size 0 e).cut (w.tape w.drawn (Question.appendCap s.size 0 e)) - s.size) (Value.int IntKind.u8 0)) e)).shape? w.heap.size = some (e, c.size) from hsh]
    simp [hcs]
    exact ⟨rfl, rfl⟩
  have hh : w'.heap = w.heap.push (.cells c e (cap, cap + 1)) := by
    have := freeze_push w.drew c e cap hcs.symm
    exact this
  obtain ⟨g1, g2⟩ := new_rel hr (w' := w') (B := strBlk e s) (c := c) (fr := (cap, cap + 1)) cap hh
    (by simp [w', World.freeze]; rfl) (by simp [w', World.freeze]) (by simp [w', World.freeze]; rfl) (fun h => by simp [strBlk] at h) (fun _ => by omega) (fun i v hv => by
      refine ⟨v, ?_, ?_⟩
      · have hlt := lt_of_get hv
        simp only [strBlk, List.length_map, Array.length_toList] at hlt
        simp only [strBlk, List.getElem?_map, Option.map_eq_some_iff] at hv
        obtain ⟨b, hb, rfl⟩ := hv
        show (((s.data.map fun b : UInt8 => Value.int .u8 b.toNat) ++ Array.replicate (cap - s.size) (Value.int .u8 0) : Array Value))[i]? = _
        rw [Array.getElem?_append_left (by simpa using hlt)]
        rw [Array.getElem?_toList] at hb
        rw [Array.getElem?_map, hb]; rfl
      · simp only [strBlk, List.getElem?_map, Option.map_eq_some_iff] at hv
        obtain ⟨b, _, rfl⟩ := hv
        exact .int _ _) (.inr (by simp [hcs]))
  refine ⟨_, w', _, hrun, ?_, g1, g2⟩
  rw [← nextAddr_addr hr w.heap.size 0 1 cap]
  refine .slice _ _ _ _ (nextAddr_ok hr _ _ _ _) hcap (.inl rfl) (fun _ _ => ?_)
  simp [nextAddr, next_half, M.push, hr.len, strBlk]

/-- A pointer's block is marked as one that a string may have come of: nothing turns that is told. -/
theorem mark_rel (P : Program) (hr : Rep w0 m own w) {a : Addr} {B : Blk} (ho : a.block % 2 = 1) (hB : own[a.block / 2]? = some B) (hd : B.dead = false) (hf : B.fz = 0) :
    ∃ w', (markStringish (m.addr a)).run P w = .ok () w' ∧ Rep w0 m own w' ∧ Step m own w m own w' := by
  obtain ⟨hb, c, fr, g1, g2, g2', g3, g4, g5⟩ := hr.blk _ _ hB hd
  have ea : (m.addr a).block = (m.f (a.block / 2)).1 := by unfold M.addr; rw [if_neg (by omega)]
  have hsh : w.shape? (m.addr a).block = some (B.elem, c.size) := by rw [ea]; simp [World.shape?, g1]
  refine ⟨w.freeze ⟨(m.addr a).block, c.size, none⟩ 1, ?_, ?_⟩
  · simp only [markStringish, Sem.run_bind, run_shape, Result.andThen_ok, hsh, run_freeze]
  · have hfr : ∃ fr', (w.freeze ⟨(m.addr a).block, c.size, none⟩ 1).heap[(m.f (a.block / 2)).1]? = some (.cells c B.elem fr') ∧ c.size ≤ fr'.1 := by
      rw [ea]
      simp only [World.freeze, if_neg (by decide : ¬ (1 = 0)), Array.getElem?_modify, if_true, g1, Option.map_some]
      obtain ⟨lo, hi⟩ := fr
      by_cases e : lo = hi
      · exact ⟨(c.size, c.size + 1), by simp [e], Nat.le_refl _⟩
      · rcases g5 hf with h | h
        · exact absurd h e
        · exact ⟨(min lo c.size, max hi (c.size + 1)), by simp [e], by simp at h ⊢; omega⟩
    obtain ⟨fr', h1, h2⟩ := hfr
    have hset : own.set (a.block / 2) B = own := by
      apply List.ext_getElem?
      intro i
      by_cases e : i = a.block / 2
      · subst e; rw [List.getElem?_set_self (lt_of_get hB), hB]
      · rw [List.getElem?_set_ne (Ne.symm e)]
    have := upd_rel hr hB hd (w' := w.freeze ⟨(m.addr a).block, c.size, none⟩ 1) (B' := B) (by simp [World.freeze]) (fun b hne => by
        simp only [World.freeze, if_neg (by decide : ¬ (1 = 0)), Array.getElem?_modify, ea]
        rw [if_neg (by omega)]) (by simp [World.freeze]) (by simp [World.freeze]) (by simp [World.freeze])
      ⟨hb, c, fr', h1, g2, g2', g3, fun i h3 h4 h5 => by omega, fun _ => .inr h2⟩
    rwa [hset] at this

/-! New blocks out of values. -/
theorem newCells_rel (P : Program) (hr : Rep w0 m own w) {c c' : Array Value} (hc : ARel m c c') (t : TypeId) :
    (newObj (.cells c' t)).run P w = .ok w.heap.size (w.alloc (.cells c' t)) ∧
    let m' := m.push w.heap.size 0 0 0
    VRel m' (.pointer (some (nextAddr own))) (.pointer (some ⟨w.heap.size, 0, none⟩)) ∧ okAddr m' (nextAddr own) ∧ m'.addr (nextAddr own) = ⟨w.heap.size, 0, none⟩ ∧
    Rep w0 m' (own ++ [{ cells := c.toList, elem := t }]) (w.alloc (.cells c' t)) ∧ Step m own w m' (own ++ [{ cells := c.toList, elem := t }]) (w.alloc (.cells c' t)) := by
  refine ⟨rfl, ?_⟩
  intro m'
  have e := nextAddr_addr hr w.heap.size 0 0 0
  have hok : okAddr m' (nextAddr own) := nextAddr_ok hr _ _ _ _
  refine ⟨by rw [← e]; exact .ptr _ hok, hok, e, ?_⟩
  exact new_rel hr (w' := w.alloc (.cells c' t)) (B := { cells := c.toList, elem := t }) (c := c') (fr := (0, 0)) 0 rfl rfl rfl rfl (fun _ => by simp [hc.1]) (fun h => by simp at h)
    (fun i v hv => by
      obtain ⟨v', h1, h2⟩ := hc.toList.get hv
      exact ⟨v', by simpa using h1, h2⟩) (.inl rfl)

/-! Parts. -/
theorem setCells_rel : ∀ (l l' : List Value) (k off : Nat) (c c' : Array Value), LRel m l l' → ARel m c c' →
    ARel m ((l.zipIdx k).foldl (fun cs p => cs.setIfInBounds (off + p.2) p.1) c) ((l'.zipIdx k).foldl (fun cs p => cs.setIfInBounds (off + p.2) p.1) c')
  | [], l', k, off, c, c', hl, hc => by rw [hl.eq_nil]; exact hc
  | v :: l, l', k, off, c, c', hl, hc => by
    obtain ⟨v', r', rfl, hv, hlr⟩ := hl.eq_cons
    simp only [List.zipIdx_cons, List.foldl_cons]
    refine setCells_rel l r' (k + 1) off _ _ hlr ⟨by simp [hc.1], fun i x x' hx hx' => ?_⟩
    by_cases e : i = off + k
    · subst e
      have h1 : off + k < c.size := by
        by_cases h : off + k < c.size
        · exact h
        · rw [Array.getElem?_eq_none (by simp; omega)] at hx; cases hx
      have h2 : off + k < c'.size := by rw [← hc.1]; exact h1
      simp [h1] at hx
      simp [h2] at hx'
      subst hx; subst hx'
      exact hv
    · rw [Array.getElem?_setIfInBounds_ne (Ne.symm e)] at hx hx'
      exact hc.2 i x x' hx hx'

theorem fill_rel (place : Nat → Option (Nat × Nat)) {ρ ρ' : Operand → Value} : ∀ (parts : List (Nat × Operand)), (∀ p ∈ parts, VRel m (ρ p.2) (ρ' p.2)) → ∀ (c c' r : Array Value), ARel m c c' →
    Instr.fill place c (parts.map fun p => (p.1, ρ p.2)) = some r → ∃ r', Instr.fill place c' (parts.map fun p => (p.1, ρ' p.2)) = some r' ∧ ARel m r r'
  | [], _, c, c', r, hc, h => by simp [Instr.fill] at h; subst h; exact ⟨c', by simp [Instr.fill], hc⟩
  | p :: parts, hp, c, c', r, hc, h => by
    simp only [List.map_cons, Instr.fill] at h ⊢
    cases hpl : place p.1 with
    | none => simp [hpl] at h
    | some os =>
      obtain ⟨off, size⟩ := os
      have hv := hp p (by simp)
      have hcs := hv.cells
      simp only [hpl] at h ⊢
      rw [← hcs.1, ← hc.1]
      split at h
      · cases h
      · rename_i hn
        rw [if_neg hn]
        refine fill_rel place parts (fun q hq => hp q (by simp [hq])) _ _ r ?_ h
        have := setCells_rel (ρ p.2).cells.toList (ρ' p.2).cells.toList 0 off c c' hcs.toList hc
        have e1 : ∀ (x : Array Value) (d : Array Value), (x.zipIdx.foldl (fun cs p => cs.setIfInBounds (off + p.2) p.1) d) = (x.toList.zipIdx.foldl (fun cs p => cs.setIfInBounds (off + p.2) p.1) d) := fun x d => by
          rw [← Array.foldl_toList, Array.toList_zipIdx]
        rw [e1, e1]
        exact this

theorem built_rel (P : Program) (t : TypeId) {ρ ρ' : Operand → Value} (parts : Array (Nat × Operand)) (hp : ∀ p ∈ parts.toList, VRel m (ρ p.2) (ρ' p.2)) (hz : ∀ it z, P.info? t = some it → it.zero = some z → z.cells.toList.all plain0 = true)
    {r : Array Value} (h : P.built t (parts.toList.map fun p => (p.1, ρ p.2)) = some r) : ∃ r', P.built t (parts.toList.map fun p => (p.1, ρ' p.2)) = some r' ∧ ARel m r r' := by
  unfold Program.built at h ⊢
  split at h
  · rename_i it n e hit hu
    split at h
    · rename_i z ie hzz hie
      exact fill_rel _ _ hp _ _ _ (plains_rel m (hz it z hit hzz)) h
    · cases h
  · rename_i it fields hit hu
    split at h
    · rename_i z places hzz hpl
      exact fill_rel _ _ hp _ _ _ (plains_rel m (hz it z hit hzz)) h
    · cases h
  · cases h

def zeroRow (z : Array Value) (n : Nat) : Array Value := (Array.range n).map (z[· % z.size]!)
theorem zeroRow_plain {z : Array Value} (h : z.toList.all plain0 = true) (n : Nat) : (zeroRow z n).toList.all plain0 = true := by
  refine List.all_eq_true.2 fun v hv => ?_
  simp [zeroRow] at hv
  obtain ⟨i, _, rfl⟩ := hv
  rw [getElem!_def]
  cases hi : z[i % z.size]? with
  | none => rfl
  | some v => exact List.all_eq_true.1 h v (by have := Array.mem_of_getElem? hi; simpa using this)

end
end Go.Sim
