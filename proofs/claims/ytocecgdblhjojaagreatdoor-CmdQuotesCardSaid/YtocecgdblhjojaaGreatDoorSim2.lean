/-
  A calculus of abstract runs, part 2: reading, new blocks, writing.
-/
import Derived.Test.YtocecgdblhjojaaGreatDoorSim1
import Derived.Laws.BytesArg
namespace Go.Sim

/-- What is known of memory outside: of the world in which the call began. -/
def OutOK (w0 : World) (out : Nat → Nat → Option Value) : Prop :=
  ∀ b o v, out b o = some v → ∃ v', w0.cell? ⟨b, o, none⟩ = some v' ∧ ∀ m, VRel m v v'

def cellA (out : Nat → Nat → Option Value) (own : List Blk) (a : Addr) : Option Value :=
  if a.block % 2 = 0 then out (a.block / 2) a.off else
  match own[a.block / 2]? with
  | some B => if B.dead then none else B.cells[a.off]?
  | none => none

section
variable {w0 : World} {out : Nat → Nat → Option Value} {m : M} {own : List Blk} {w : World}

theorem cell_of_block {w : World} {b o : Nat} {c : Array Value} {e : TypeId} {fr : Nat × Nat} (h : w.heap[b]? = some (.cells c e fr)) : w.cell? ⟨b, o, none⟩ = c[o]? := by
  simp [World.cell?, h]

theorem lt_of_get {α : Type} {l : List α} {i : Nat} {v : α} (h : l[i]? = some v) : i < l.length := by
  by_cases hi : i < l.length
  · exact hi
  · rw [List.getElem?_eq_none (by omega)] at h; cases h

theorem cell_rel (hr : Rep w0 m own w) (ho : OutOK w0 out) {a : Addr} {v : Value} (hv : cellA out own a = some v) : ∃ v', w.cell? (m.addr a) = some v' ∧ VRel m v v' := by
  unfold cellA at hv
  unfold M.addr
  by_cases e : a.block % 2 = 0
  · simp only [e, if_true] at hv ⊢
    obtain ⟨v', h1, h2⟩ := ho _ _ _ hv
    refine ⟨v', ?_, h2 m⟩
    have hlt : a.block / 2 < w0.heap.size := World.block_lt_of_cell? w0 _ h1
    have := hr.outer _ hlt
    unfold World.cell? at h1 ⊢
    simp only at h1 ⊢
    rw [this]; exact h1
  · simp only [e, if_false] at hv ⊢
    cases hk : own[a.block / 2]? with
    | none => rw [hk] at hv; cases hv
    | some B =>
      rw [hk] at hv
      simp only at hv
      cases hd : B.dead with
      | true => simp [hd] at hv
      | false =>
        simp [hd] at hv
        obtain ⟨hb, c, fr, h1, h2, _, h3, h4, h5⟩ := hr.blk _ _ hk hd
        obtain ⟨v', hv', hvr⟩ := h3 _ _ hv
        exact ⟨v', by rw [cell_of_block h1]; exact hv', hvr⟩

theorem addr_add (m : M) (a : Addr) (n : Nat) : m.addr (a.add n) = (m.addr a).add n := by
  unfold Addr.add M.addr
  by_cases h0 : n = 0
  · simp [h0]
  · by_cases e : a.block % 2 = 0 <;> simp [h0, e, Nat.add_assoc]
theorem okAddr_add {m : M} {a : Addr} (h : okAddr m a) (n : Nat) : okAddr m (a.add n) := by
  unfold Addr.add
  split
  · exact h
  · exact ⟨rfl, h.2⟩

def cellsA (out : Nat → Nat → Option Value) (own : List Blk) (a : Addr) (i : Nat) : Nat → Option (List Value)
  | 0 => some []
  | n + 1 =>
    match cellA out own (a.add i) with
    | none => none
    | some v => match cellsA out own a (i + 1) n with
      | none => none
      | some r => some (v :: r)

theorem cellsA_rel (hr : Rep w0 m own w) (ho : OutOK w0 out) (a : Addr) : ∀ (n i : Nat) (l : List Value), cellsA out own a i n = some l →
    l.length = n ∧ ∃ l', LRel m l l' ∧ ∀ j v, l'[j]? = some v → w.cell? ((m.addr a).add (i + j)) = some v
  | 0, i, l, h => by
    simp only [cellsA, Option.some.injEq] at h
    subst h
    exact ⟨rfl, [], LRel.nil m, by simp⟩
  | n + 1, i, l, h => by
    simp only [cellsA] at h
    split at h
    · cases h
    · rename_i v hv
      split at h
      · cases h
      · rename_i r hrr
        simp only [Option.some.injEq] at h
        subst h
        obtain ⟨v', hv', hvr⟩ := cell_rel hr ho hv
        obtain ⟨hl, l', hlr, hc⟩ := cellsA_rel hr ho a n (i + 1) r hrr
        refine ⟨by simp [hl], v' :: l', LRel.cons hvr hlr, fun j u hu => ?_⟩
        cases j with
        | zero => simp at hu; subst hu; rw [addr_add] at hv'; simpa using hv'
        | succ j => have := hc j u (by simpa using hu); rwa [show i + 1 + j = i + (j + 1) by omega] at this

theorem loadCells_rel (P : Program) (hr : Rep w0 m own w) (ho : OutOK w0 out) {a : Addr} {n : Nat} {l : List Value} (h : cellsA out own a 0 n = some l) :
    ∃ l', LRel m l l' ∧ l.length = n ∧ (loadCells (m.addr a) n).run P w = .ok l'.toArray w := by
  obtain ⟨hl, l', hlr, hc⟩ := cellsA_rel hr ho a n 0 l h
  refine ⟨l', hlr, hl, ?_⟩
  have := run_loadCells_list (P := P) w (m.addr a) l' (fun j v hv => by simpa using hc j v hv)
  rwa [show l'.length = n from hlr.1.symm.trans hl] at this

/-! New blocks. -/
def M.push (m : M) (b o es tot : Nat) : M :=
  ⟨fun k => if k = m.n then (b, o) else m.f k, m.n + 1, fun k => if k = m.n then es else m.es k, fun k => if k = m.n then tot else m.tot k⟩
theorem Ext.push (m : M) (b o es tot : Nat) : Ext m (m.push b o es tot) := by
  refine ⟨by simp [M.push], fun k hk => ?_⟩
  have : k ≠ m.n := by omega
  simp [M.push, this]
theorem push_last (m : M) (b o es tot : Nat) : (m.push b o es tot).f m.n = (b, o) := by simp [M.push]

/-- The address of the next own block. -/
def nextAddr (own : List Blk) : Addr := ⟨2 * own.length + 1, 0, none⟩
theorem next_odd (n : Nat) : (2 * n + 1) % 2 = 1 := by omega
theorem next_half (n : Nat) : (2 * n + 1) / 2 = n := by omega
theorem nextAddr_ok (hr : Rep w0 m own w) (b o es tot : Nat) : okAddr (m.push b o es tot) (nextAddr own) :=
  ⟨rfl, fun _ => by simp [nextAddr, next_half, M.push, hr.len]⟩
theorem nextAddr_addr (hr : Rep w0 m own w) (b o es tot : Nat) : (m.push b o es tot).addr (nextAddr own) = ⟨b, o, none⟩ := by
  simp [M.addr, nextAddr, next_half, M.push, hr.len, next_odd]

/-- A block more, in the world and in abstract memory. -/
theorem new_rel (hr : Rep w0 m own w) {w' : World} {B : Blk} {c : Array Value} {fr : Nat × Nat} (tot : Nat) (hh : w'.heap = w.heap.push (.cells c B.elem fr))
    (ho : w'.os = w.os) (ht : w'.tape = w.tape) (hu : w'.output = w.output) (hfix : B.fix = true → c.size = B.cells.length) (htot : B.fix = false → tot ≤ c.size)
    (hc : ∀ (i : Nat) (v : Value), B.cells[i]? = some v → ∃ v', c[i]? = some v' ∧ VRel m v v') (hfr : fr.1 = fr.2 ∨ c.size ≤ fr.1) :
    Rep w0 (m.push w.heap.size 0 B.es tot) (own ++ [B]) w' ∧ Step m own w (m.push w.heap.size 0 B.es tot) (own ++ [B]) w' := by
  have hold : ∀ b, b < w.heap.size → w'.heap[b]? = w.heap[b]? := fun b hb => by rw [hh, Array.getElem?_push, if_neg (by omega)]
  have hnew : w'.heap[w.heap.size]? = some (.cells c B.elem fr) := by rw [hh]; simp
  have hsz : w.heap.size ≤ w'.heap.size := by rw [hh]; simp
  have hlt : ∀ k B, own[k]? = some B → B.dead = false → (m.f k).1 < w.heap.size := fun k A hk hd => by
    obtain ⟨_, c, fr, h1, _⟩ := hr.blk k A hk hd
    by_cases hlt : (m.f k).1 < w.heap.size
    · exact hlt
    · rw [Array.getElem?_eq_none (by omega)] at h1; cases h1
  have hget : ∀ k A, (own ++ [B])[k]? = some A → (k < m.n ∧ own[k]? = some A) ∨ (k = m.n ∧ A = B) := fun k A hk => by
    have hk' := lt_of_get hk
    simp at hk'
    by_cases hlt : k < own.length
    · rw [List.getElem?_append_left hlt] at hk; exact .inl ⟨by rw [hr.len]; exact hlt, hk⟩
    · have e : k = own.length := by omega
      subst e
      simp at hk
      exact .inr ⟨hr.len.symm, hk.symm⟩
  refine ⟨⟨by simp [M.push, hr.len], Nat.le_trans hr.size hsz, fun b hb => ?_, ho.trans hr.os, ht.trans hr.tape, hu.trans hr.output, fun k A hk hd => ?_, fun j k A A' hj hk hd hd' e => ?_⟩,
    ⟨Ext.push _ _ _ _ _, hsz, fun b hb _ => hold b hb, fun k A hk hd => ?_⟩⟩
  · rw [hold b (Nat.lt_of_lt_of_le hb hr.size), hr.outer b hb]
  · rcases hget k A hk with ⟨hlt', hk'⟩ | ⟨rfl, rfl⟩
    · exact (hr.blk k A hk' hd).mono (Ext.push _ _ _ _ _) hlt' (hold _ (hlt k A hk' hd))
    · refine ⟨by rw [push_last]; exact hr.size, c, fr, by rw [push_last]; exact hnew, fun hf => ⟨by rw [push_last], hfix hf⟩, fun hf => ⟨by simp [M.push], by rw [push_last]; simpa [M.push] using htot hf⟩, fun i v hv => ?_, fun i h1 h2 h3 => ?_, fun _ => hfr⟩
      · obtain ⟨v', h1, h2⟩ := hc i v hv
        exact ⟨v', by rw [push_last]; simpa using h1, h2.mono (Ext.push _ _ _ _ _)⟩
      · rw [push_last] at h3 ⊢
        rcases hfr with hfr | hfr
        · omega
        · rw [push_last] at h2; simp at h2 h3; omega
  · rcases hget j A hj with ⟨h1, hj'⟩ | ⟨rfl, rfl⟩ <;> rcases hget k A' hk with ⟨h2, hk'⟩ | ⟨rfl, rfl⟩
    · rw [((Ext.push m _ _ _ _).2 _ h1).1, ((Ext.push m _ _ _ _).2 _ h2).1] at e
      exact hr.inj j k A A' hj' hk' hd hd' e
    · rw [((Ext.push m _ _ _ _).2 _ h1).1, push_last] at e
      have := hlt j A hj' hd; simp at e; omega
    · rw [push_last, ((Ext.push m _ _ _ _).2 _ h2).1] at e
      have := hlt k A' hk' hd'; simp at e; omega
    · rfl
  · rcases hget k A hk with ⟨h1, hk'⟩ | ⟨rfl, rfl⟩
    · exact .inr ⟨k, A, hk', hd, by rw [((Ext.push m _ _ _ _).2 _ h1).1]⟩
    · exact .inl (by rw [push_last]; exact Nat.le_refl _)

theorem set_get {α : Type} {l : List α} {k i : Nat} {A B : α} (h : (l.set k A)[i]? = some B) : (i = k ∧ B = A ∧ k < l.length) ∨ (i ≠ k ∧ l[i]? = some B) := by
  have hlt := lt_of_get h
  simp at hlt
  by_cases e : i = k
  · subst e; rw [List.getElem?_set_self hlt] at h; cases h; exact .inl ⟨rfl, rfl, hlt⟩
  · rw [List.getElem?_set_ne (Ne.symm e)] at h; exact .inr ⟨e, h⟩

/-- An own block is let go of. -/
theorem kill_rel (hr : Rep w0 m own w) (k : Nat) (B : Blk) :
    Rep w0 m (own.set k { B with dead := true }) w ∧ Step m own w m (own.set k { B with dead := true }) w := by
  have hget : ∀ i A, (own.set k { B with dead := true })[i]? = some A → A.dead = false → i ≠ k ∧ own[i]? = some A := fun i A hi hd => by
    rcases set_get hi with ⟨_, rfl, _⟩ | h
    · simp at hd
    · exact h
  exact ⟨⟨by simp [hr.len], hr.size, hr.outer, hr.os, hr.tape, hr.output, fun i A hi hd => hr.blk i A (hget i A hi hd).2 hd,
    fun i j A A' hi hj hd hd' e => hr.inj i j A A' (hget i A hi hd).2 (hget j A' hj hd').2 hd hd' e⟩,
    ⟨Ext.refl m, Nat.le_refl _, fun _ _ _ => rfl, fun i A hi hd => .inr ⟨i, A, (hget i A hi hd).2, hd, rfl⟩⟩⟩

/-- An own block has turned, in the world and in abstract memory. -/
theorem upd_rel (hr : Rep w0 m own w) {k : Nat} {B B' : Blk} (hk : own[k]? = some B) (hd : B.dead = false) {w' : World}
    (hs : w'.heap.size = w.heap.size) (hb : ∀ b, b ≠ (m.f k).1 → w'.heap[b]? = w.heap[b]?) (ho : w'.os = w.os) (ht : w'.tape = w.tape) (hu : w'.output = w.output)
    (hB : BlkRel w0 m k B' w') : Rep w0 m (own.set k B') w' ∧ Step m own w m (own.set k B') w' := by
  have hbase := (hr.blk k B hk hd).base
  refine ⟨⟨by simp [hr.len], by rw [hs]; exact hr.size, fun b hlt => ?_, ho.trans hr.os, ht.trans hr.tape, hu.trans hr.output, fun i A hi hdA => ?_, fun i j A A' hi hj hdA hdA' e => ?_⟩,
    ⟨Ext.refl m, by omega, fun b _ hn => hb b (fun e => hn k B hk hd e.symm), fun i A hi hdA => ?_⟩⟩
  · rw [hb b (by omega), hr.outer b hlt]
  · rcases set_get hi with ⟨rfl, rfl, _⟩ | ⟨hne, hi'⟩
    · exact hB
    · have hne' : (m.f i).1 ≠ (m.f k).1 := fun e => hne (hr.inj i k A B hi' hk hdA hd e)
      have := hr.blk i A hi' hdA
      exact this.mono (Ext.refl m) (by rw [hr.len]; exact lt_of_get hi') (hb _ hne')
  · rcases set_get hi with ⟨rfl, rfl, _⟩ | ⟨hne, hi'⟩ <;> rcases set_get hj with ⟨rfl, rfl, _⟩ | ⟨hne', hj'⟩
    · rfl
    · exact absurd (hr.inj _ _ _ _ hk hj' hd hdA' e).symm hne'
    · exact absurd (hr.inj _ _ _ _ hi' hk hdA hd e) hne
    · exact hr.inj i j A A' hi' hj' hdA hdA' e
  · rcases set_get hi with ⟨rfl, rfl, _⟩ | ⟨hne, hi'⟩
    · exact .inr ⟨i, B, hk, hd, rfl⟩
    · exact .inr ⟨i, A, hi', hdA, rfl⟩

/-! Writing. -/
def storeA (own : List Blk) (a : Addr) (v : Value) : Option (List Blk) :=
  if a.block % 2 = 0 then none else
  match own[a.block / 2]? with
  | some B => if B.dead || !(B.fz ≤ a.off && a.off < B.cells.length) || !v.oneCell' then none else some (own.set (a.block / 2) { B with cells := B.cells.set a.off v })
  | none => none
def storesA (own : List Blk) (a : Addr) (i : Nat) : List Value → Option (List Blk)
  | [] => some own
  | v :: r => match storeA own (a.add i) v with
    | none => none
    | some own' => storesA own' a (i + 1) r

theorem heap_setCell_at (w : World) (b o : Nat) (v : Value) {c : Array Value} {e : TypeId} {fr : Nat × Nat} (h : w.heap[b]? = some (.cells c e fr)) :
    (w.setCell ⟨b, o, none⟩ v).heap[b]? = some (.cells (c.setIfInBounds o v) e fr) := by
  simp [World.setCell, Array.getElem?_modify, h]
theorem heap_setCell_ne (w : World) (a : Addr) (v : Value) {b : Nat} (h : b ≠ a.block) : (w.setCell a v).heap[b]? = w.heap[b]? := by
  simp only [World.setCell, Array.getElem?_modify]; rw [if_neg (by omega)]

theorem storeA_rel (P : Program) (hr : Rep w0 m own w) {a : Addr} {v v' : Value} (hv : VRel m v v') {own' : List Blk} (h : storeA own a v = some own') :
    ∃ w', (store (m.addr a) v').run P w = .ok () w' ∧ Rep w0 m own' w' ∧ Step m own w m own' w' := by
  unfold storeA at h
  by_cases e : a.block % 2 = 0
  · simp [e] at h
  · simp only [e, if_false] at h
    cases hk : own[a.block / 2]? with
    | none => rw [hk] at h; cases h
    | some B =>
      rw [hk] at h
      simp only at h
      split at h
      · cases h
      · rename_i hn
        simp at hn
        obtain ⟨⟨hd, hfz⟩, h1⟩ := hn
        obtain ⟨hfz1, hfz2⟩ := hfz
        simp only [Option.some.injEq] at h
        subst h
        obtain ⟨hb, c, fr, g1, g2, g2', g3, g4, g5⟩ := hr.blk _ _ hk hd
        obtain ⟨u, hu, _⟩ := g3 a.off _ (List.getElem?_eq_getElem hfz2)
        have ea : m.addr a = ⟨(m.f (a.block / 2)).1, (m.f (a.block / 2)).2 + a.off, none⟩ := by simp [M.addr, e]
        have hcell : w.cell? (m.addr a) = some u := by rw [ea, cell_of_block g1]; exact hu
        have hfrz : w.frozen? (m.addr a) = false := by
          rw [ea]
          simp only [World.frozen?, g1]
          have := g4 a.off hfz1 (by
            by_cases hlt : (m.f (a.block / 2)).2 + a.off < c.size
            · exact hlt
            · rw [Array.getElem?_eq_none (by omega)] at hu; cases hu)
          simp
          intro hle
          exact this hle
        have hone : v'.oneCell' = true := by rw [hv.oneCell]; exact h1
        refine ⟨w.setCell (m.addr a) v', ?_, ?_⟩
        · rw [run_store P w _ _ _ hone, hcell]; simp [hfrz]
        · refine upd_rel hr hk hd (by simp [World.setCell]) (fun b hne => ?_) rfl rfl rfl ⟨hb, ?_⟩
          · rw [heap_setCell_ne]; rw [ea]; exact hne
          · refine ⟨c.setIfInBounds ((m.f (a.block / 2)).2 + a.off) v', fr, by rw [ea]; exact heap_setCell_at w _ _ _ g1, fun hf => by simpa using g2 hf, fun hf => by simpa using g2' hf, fun i x hx => ?_, fun i hi1 hi2 hi3 => g4 i hi1 (by simpa using hi2) hi3, fun h0 => by simpa using g5 h0⟩
            rcases set_get hx with ⟨rfl, rfl, _⟩ | ⟨hne, hx'⟩
            · have hlt : (m.f (a.block / 2)).2 + a.off < c.size := by
                by_cases hlt : (m.f (a.block / 2)).2 + a.off < c.size
                · exact hlt
                · rw [Array.getElem?_eq_none (by omega)] at hu; cases hu
              exact ⟨v', by simp [hlt], hv⟩
            · obtain ⟨x', hx1, hx2⟩ := g3 i x hx'
              exact ⟨x', by rw [Array.getElem?_setIfInBounds_ne (by omega)]; exact hx1, hx2⟩

theorem storesA_rel (P : Program) : ∀ (l l' : List Value) (own own' : List Blk) (w : World) (i : Nat) (a : Addr), Rep w0 m own w → LRel m l l' → storesA own a i l = some own' →
    ∃ w', (storeCells (m.addr a) l' i).run P w = .ok () w' ∧ Rep w0 m own' w' ∧ Step m own w m own' w'
  | [], l', own, own', w, i, a, hr, hl, h => by
    simp only [storesA, Option.some.injEq] at h
    subst h
    rw [hl.eq_nil]
    exact ⟨w, by simp [storeCells], hr, Step.refl _ _ _⟩
  | v :: l, l', own, own', w, i, a, hr, hl, h => by
    obtain ⟨v', r', rfl, hv, hlr⟩ := hl.eq_cons
    simp only [storesA] at h
    split at h
    · cases h
    · rename_i own1 h1
      obtain ⟨w1, hrun, hr1, hs1⟩ := storeA_rel P hr hv h1
      obtain ⟨w2, hrun2, hr2, hs2⟩ := storesA_rel P l r' own1 own' w1 (i + 1) a hr1 hlr h
      refine ⟨w2, ?_, hr2, hs1.trans hs2⟩
      rw [addr_add] at hrun
      simp [storeCells, hrun, hrun2]

end
end Go.Sim
