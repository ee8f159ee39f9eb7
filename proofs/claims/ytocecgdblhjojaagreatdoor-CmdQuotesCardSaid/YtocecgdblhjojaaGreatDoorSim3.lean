/-
  A calculus of abstract runs, part 3: append, and what turns strings into bytes and back.
-/
import Derived.Test.YtocecgdblhjojaaGreatDoorSim2
namespace Go.Sim

section
variable {w0 : World} {out : Nat → Nat → Option Value} {m : M} {own : List Blk} {w : World}

/-- Storing a list of cells behind one another, whatever is there. -/
theorem run_storeCells_any (P : Program) (e : TypeId) (fr : Nat × Nat) (b : Nat) : ∀ (l : List Value) (w : World) (o i : Nat) (c : Array Value),
    w.heap[b]? = some (.cells c e fr) → o + i + l.length ≤ c.size → (∀ v ∈ l, v.oneCell' = true) → (∀ j, o + i ≤ j → j < o + i + l.length → fr.1 ≤ j → fr.2 ≤ j) →
    ∃ w' c', (storeCells ⟨b, o, none⟩ l i).run P w = .ok () w' ∧ w'.heap[b]? = some (.cells c' e fr) ∧ c'.size = c.size ∧ w'.heap.size = w.heap.size ∧
      (∀ b', b' ≠ b → w'.heap[b']? = w.heap[b']?) ∧ w'.os = w.os ∧ w'.tape = w.tape ∧ w'.output = w.output ∧
      (∀ j : Nat, j < o + i → c'[j]? = c[j]?) ∧ (∀ (j : Nat) (v : Value), l[j]? = some v → c'[o + i + j]? = some v)
  | [], w, o, i, c, hb, hl, h1, hf => ⟨w, c, by simp [storeCells], hb, rfl, rfl, fun _ _ => rfl, rfl, rfl, rfl, fun _ _ => rfl, by simp⟩
  | v :: l, w, o, i, c, hb, hl, h1, hf => by
    have hlt : o + i < c.size := by simp at hl; omega
    have ha : Addr.add ⟨b, o, none⟩ i = ⟨b, o + i, none⟩ := Addr.add_lit b o i
    have hcell : w.cell? ⟨b, o + i, none⟩ = some c[o + i] := by rw [cell_of_block hb]; exact Array.getElem?_eq_getElem hlt
    have hfrz : w.frozen? ⟨b, o + i, none⟩ = false := by
      simp only [World.frozen?, hb]
      have := hf (o + i) (Nat.le_refl _) (by simp)
      simp; exact this
    have hrun : (store ⟨b, o + i, none⟩ v).run P w = .ok () (w.setCell ⟨b, o + i, none⟩ v) := by
      rw [run_store P w _ _ _ (h1 v (by simp)), hcell]; simp [hfrz]
    obtain ⟨w', c', g1, g2, g3, g4, g5, g6, g7, g8, g9, g10⟩ := run_storeCells_any P e fr b l (w.setCell ⟨b, o + i, none⟩ v) o (i + 1) (c.setIfInBounds (o + i) v)
      (heap_setCell_at w b (o + i) v hb) (by simp at hl ⊢; omega) (fun x hx => h1 x (by simp [hx])) (fun j a b => hf j (by omega) (by simp at b ⊢; omega))
    refine ⟨w', c', by simp [storeCells, ha, hrun, g1], g2, by simpa using g3, by rw [g4]; simp [World.setCell], fun b' hne => by rw [g5 b' hne]; exact heap_setCell_ne _ _ _ hne,
      g6, g7, g8, fun j hj => ?_, fun j x hx => ?_⟩
    · rw [g9 j (by omega), Array.getElem?_setIfInBounds_ne (by omega)]
    · cases j with
      | zero =>
        simp at hx; subst hx
        rw [g9 (o + i + 0) (by omega)]
        simp [hlt]
      | succ j => have := g10 j x (by simpa using hx); rwa [show o + (i + 1) + j = o + i + (j + 1) by omega] at this

theorem LRel.all_oneCell {l l' : List Value} (h : LRel m l l') (ha : l.all Value.oneCell' = true) : ∀ v ∈ l', v.oneCell' = true := by
  intro v hv
  obtain ⟨i, hi⟩ := List.mem_iff_getElem?.1 hv
  have hlt := lt_of_get hi
  have hlt' : i < l.length := by rw [h.1]; exact hlt
  have := h.2 i _ v (List.getElem?_eq_getElem hlt') hi
  rw [this.oneCell]
  exact List.all_eq_true.1 ha _ (by simp)

/-- An own block is let go of, and what lies in it from a place on begins anew as a block, longer by some cells: in the same block of the world. -/
theorem grow_in_place (P : Program) (hr : Rep w0 m own w) {k : Nat} {B : Blk} (hk : own[k]? = some B) (hd : B.dead = false) (hf : B.fix = false) {o sn : Nat} {olds news news' : List Value}
    (hol : olds.length = sn) (holds : ∀ i v, olds[i]? = some v → B.cells[o + i]? = some v)
    (hnews : LRel m news news') (hone : news.all Value.oneCell' = true) (hroom : o + sn + news.length ≤ m.tot k) (hfz : B.fz ≤ o + sn) :
    ∃ w', (storeCells ⟨(m.f k).1, (m.f k).2 + o + sn, none⟩ news').run P w = .ok () w' ∧
      let m' := m.push (m.f k).1 ((m.f k).2 + o) B.es (m.tot k - o)
      let own' := own.set k { B with dead := true } ++ [{ cells := olds ++ news, elem := B.elem, fix := false, es := B.es, fz := if B.fz = 0 then 0 else max 1 (B.fz - o) }]
      Rep w0 m' own' w' ∧ Step m own w m' own' w' := by
  obtain ⟨hb, c, fr, g1, g2, g2', g3, g4, g5⟩ := hr.blk k B hk hd
  obtain ⟨hes, htot⟩ := g2' hf
  have hlen' : news'.length = news.length := hnews.1.symm
  obtain ⟨w', c', r1, r2, r3, r4, r5, r6, r7, r8, r9, r10⟩ := run_storeCells_any P B.elem fr (m.f k).1 news' w ((m.f k).2 + o + sn) 0 c g1 (by omega) (hnews.all_oneCell hone)
    (fun j h1 h2 h3 => by have := g4 (j - (m.f k).2) (by omega) (by omega) (by omega); omega)
  refine ⟨w', r1, ?_⟩
  have hkn : k < own.length := lt_of_get hk
  have hmn : m.n = own.length := hr.len
  have hset : (own.set k { B with dead := true }).length = own.length := by simp
  -- what is alive behind it
  have hget : ∀ i A, (own.set k { B with dead := true } ++ [{ cells := olds ++ news, elem := B.elem, fix := false, es := B.es, fz := if B.fz = 0 then 0 else max 1 (B.fz - o) }])[i]? = some A → A.dead = false →
      (i < m.n ∧ i ≠ k ∧ own[i]? = some A) ∨ (i = m.n ∧ A = { cells := olds ++ news, elem := B.elem, fix := false, es := B.es, fz := if B.fz = 0 then 0 else max 1 (B.fz - o) }) := by
    intro i A hi hdA
    by_cases hlt : i < own.length
    · rw [List.getElem?_append_left (by rw [hset]; exact hlt)] at hi
      rcases set_get hi with ⟨rfl, rfl, _⟩ | ⟨hne, hi'⟩
      · simp at hdA
      · exact .inl ⟨by omega, hne, hi'⟩
    · have hi2 := lt_of_get hi
      simp at hi2
      have e : i = own.length := by omega
      subst e
      rw [List.getElem?_append_right (by simp)] at hi
      simp at hi
      exact .inr ⟨hmn.symm, hi.symm⟩
  have hother : ∀ i A, own[i]? = some A → A.dead = false → i ≠ k → (m.f i).1 ≠ (m.f k).1 := fun i A hi hdA hne e => hne (hr.inj i k A B hi hk hdA hd e)
  have hpe := Ext.push m (m.f k).1 ((m.f k).2 + o) B.es (m.tot k - o)
  refine ⟨⟨by simp [M.push, hmn], by rw [r4]; exact hr.size, fun b hlt => ?_, r6.trans hr.os, r7.trans hr.tape, r8.trans hr.output, fun i A hi hdA => ?_, fun i j A A' hi hj hdA hdA' e => ?_⟩,
    ⟨hpe, by omega, fun b _ hn => r5 b (fun e => hn k B hk hd e.symm), fun i A hi hdA => ?_⟩⟩
  · rw [r5 b (by omega), hr.outer b hlt]
  · rcases hget i A hi hdA with ⟨h1, h2, h3⟩ | ⟨rfl, rfl⟩
    · exact (hr.blk i A h3 hdA).mono hpe h1 (r5 _ (hother i A h3 hdA h2))
    · refine ⟨by rw [push_last]; exact hb, c', fr, by rw [push_last]; exact r2, fun h => by simp at h, fun _ => ⟨by simp [M.push], by rw [push_last]; simp [M.push]; omega⟩, fun j v hv => ?_, fun j h1 h2 h3 => ?_, fun h0 => ?_⟩
      · rw [push_last]
        simp only at hv ⊢
        by_cases hj : j < olds.length
        · rw [List.getElem?_append_left hj] at hv
          have hB := holds j v hv
          obtain ⟨v', hv1, hv2⟩ := g3 _ _ hB
          exact ⟨v', by rw [r9 _ (by omega), ← hv1, Nat.add_assoc], hv2.mono hpe⟩
        · rw [List.getElem?_append_right (by omega)] at hv
          obtain ⟨v', hv1, hv2⟩ := hnews.get hv
          have := r10 _ _ hv1
          exact ⟨v', by rw [← this]; congr 1; omega, hv2.mono hpe⟩
      · rw [push_last] at h2 h3 ⊢
        simp only at h1 h2 h3 ⊢
        have := g4 (o + j) (by split at h1 <;> omega) (by omega) (by omega)
        omega
      · simp only at h0
        have hz : B.fz = 0 := by
          by_cases hz : B.fz = 0
          · exact hz
          · rw [if_neg hz] at h0; omega
        rw [r3]; exact g5 hz
  · rcases hget i A hi hdA with ⟨h1, h2, h3⟩ | ⟨rfl, rfl⟩ <;> rcases hget j A' hj hdA' with ⟨k1, k2, k3⟩ | ⟨rfl, rfl⟩
    · rw [(hpe.2 _ h1).1, (hpe.2 _ k1).1] at e
      exact hr.inj i j A A' h3 k3 hdA hdA' e
    · rw [(hpe.2 _ h1).1, push_last] at e
      exact absurd e (hother i A h3 hdA h2)
    · rw [push_last, (hpe.2 _ k1).1] at e
      exact absurd e.symm (hother j A' k3 hdA' k2)
    · rfl
  · rcases hget i A hi hdA with ⟨h1, h2, h3⟩ | ⟨rfl, rfl⟩
    · exact .inr ⟨i, A, h3, hdA, by rw [(hpe.2 _ h1).1]⟩
    · exact .inr ⟨k, B, hk, hd, by rw [push_last]⟩

/-- What is appended: how many elements, and their cells. -/
def srcA (out : Nat → Nat → Option Value) (own : List Blk) (size : Nat) : Value → Option (Nat × List Value)
  | .slice none 0 0 => some (0, [])
  | .slice (some b) n _ => match cellsA out own b 0 (n * size) with
    | some l => some (n, l)
    | none => none
  | .string s => some (s.size, s.data.toList.map fun b => .int .u8 b.toNat)
  | _ => none

theorem srcA_rel (P : Program) (hr : Rep w0 m own w) (ho : OutOK w0 out) {size : Nat} {x x' : Value} (hx : VRel m x x') {n : Nat} {l : List Value} (h : srcA out own size x = some (n, l)) :
    ∃ l', LRel m l l' ∧ (∀ w', w'.heap = w.heap → (Builtin.firstCells size n x').run P w' = .ok l'.toArray w') ∧ (∀ w', (Builtin.lenOf x').run P w' = .ok n w') ∧ (l.length = n * size ∨ ∃ s, x = .string s) := by
  have hload : ∀ (a : Addr) (n : Nat) (w' : World) (l' : List Value), w'.heap = w.heap → (loadCells a n).run P w = .ok l'.toArray w → True := fun _ _ _ _ _ _ => trivial
  cases hx with
  | sliceNil =>
    simp [srcA] at h
    obtain ⟨rfl, rfl⟩ := h
    exact ⟨[], LRel.nil m, fun w' _ => by simp [Builtin.firstCells], fun w' => by simp [Builtin.lenOf], .inl (by simp)⟩
  | slice a n' c c' h1 h2 h3 h4 =>
    simp only [srcA] at h
    split at h
    · rename_i l0 hl0
      simp at h
      obtain ⟨rfl, rfl⟩ := h
      obtain ⟨hlen, l', hlr, hc⟩ := cellsA_rel hr ho a _ 0 _ hl0
      refine ⟨l', hlr, fun w' hw' => ?_, fun w' => by simp [Builtin.lenOf], .inl hlen⟩
      have := run_loadCells_list (P := P) w' (m.addr a) l' (fun j v hv => by
        have := hc j v hv
        simp only [Nat.zero_add] at this
        unfold World.cell? at this ⊢
        rw [hw']; exact this)
      simp only [Builtin.firstCells]
      rwa [show l'.length = n' * size from hlr.1.symm.trans hlen] at this
    · cases h
  | sliceEmpty a a' c hc =>
    simp [srcA, cellsA] at h
    obtain ⟨rfl, rfl⟩ := h
    exact ⟨[], LRel.nil m, fun w' _ => by simp [Builtin.firstCells, loadCells, loadCellsFrom], fun w' => by simp [Builtin.lenOf], .inl (by simp)⟩
  | string s =>
    simp [srcA] at h
    obtain ⟨rfl, rfl⟩ := h
    refine ⟨s.data.toList.map fun b => .int .u8 b.toNat, ⟨rfl, fun i v v' hv hv' => ?_⟩, fun w' _ => ?_, fun w' => by simp [Builtin.lenOf], .inr ⟨s, rfl⟩⟩
    · rw [hv] at hv'; cases hv'
      simp at hv
      obtain ⟨b, _, rfl⟩ := hv
      exact .int _ _
    · simp only [Builtin.firstCells, Sem.run_pure]
      congr 1
      apply Array.ext'
      have : (s.extract 0 s.size).data = s.data := by
        rw [ByteArray.data_extract]; exact Array.extract_size
      rw [this]
      simp
  | _ => simp [srcA] at h

theorem bytes_str_len (s : ByteArray) : (s.data.toList.map fun b => Value.int .u8 b.toNat).length = s.size := by rw [List.length_map]; rfl

def srcOk (P : Program) (xt : TypeId) : Bool :=
  match P.underlying xt with
  | some (.slice _) => true
  | some .string => true
  | _ => false
theorem srcOk_eq {P : Program} {xt : TypeId} (h : srcOk P xt = true) : (∃ e, P.underlying xt = some (.slice e)) ∨ P.underlying xt = some .string := by
  unfold srcOk at h
  split at h
  · rename_i e he; exact .inl ⟨e, he⟩
  · rename_i he; exact .inr he
  · cases h

/-- append: the new slice, and memory behind it. -/
def appendA (P : Program) (out : Nat → Nat → Option Value) (own : List Blk) (st xt : TypeId) (s x : Value) : Option (Value × List Blk) :=
  match P.underlying st with
  | some (.slice elem) =>
    if !srcOk P xt then none else
    match P.info? elem with
    | some i => match i.zero with
      | none => none
      | some z =>
        match srcA out own i.size x with
        | none => none
        | some (n, news) =>
          if !(z.cells.size = i.size && news.length = n * i.size && news.all Value.oneCell' && 0 < i.bytes) then none else
          match s with
          | .slice none 0 0 =>
            if n = 0 then some (s, own) else
            if n * i.bytes > 140737488355328 then none else
            some (.slice (some (nextAddr own)) n 0, own ++ [{ cells := news, elem, fix := false, es := i.size }])
          | .slice (some a) sl c =>
            if n = 0 then some (s, own) else
            if (sl + n) * i.bytes > 140737488355328 then none else
            match cellsA out own a 0 (sl * i.size) with
            | none => none
            | some olds =>
              if c = 0 then
                if a.block % 2 = 0 then none else
                match own[a.block / 2]? with
                | none => none
                | some B => if B.dead || B.fix || !(B.es = i.size) || !(B.elem = elem) || !(B.fz ≤ a.off + sl * i.size) then none else
                  some (.slice (some (nextAddr own)) (sl + n) 0, own.set (a.block / 2) { B with dead := true } ++ [{ cells := olds ++ news, elem, fix := false, es := i.size, fz := if B.fz = 0 then 0 else max 1 (B.fz - a.off) }])
              else if sl + n ≤ c - 1 then
                match storesA own (a.add (sl * i.size)) 0 news with
                | none => none
                | some own' => some (.slice (some a) (sl + n) c, own')
              else some (.slice (some (nextAddr own)) (sl + n) 0, own ++ [{ cells := olds ++ news, elem, fix := false, es := i.size }])
          | _ => none
    | none => none
  | _ => none

theorem zeroCells_size (z : Array Value) (n : Nat) : (Builtin.zeroCells z n).size = n * z.size := by simp [Builtin.zeroCells]

theorem cut_ge (need old : Nat) (e : TypeId) (t : Nat) : need ≤ (Question.appendCap need old e).cut t := by simp [Question.cut]

theorem cellsA_get (a : Addr) : ∀ (n i : Nat) (l : List Value), cellsA out own a i n = some l → ∀ j v, l[j]? = some v → cellA out own (a.add (i + j)) = some v
  | 0, i, l, h => by simp only [cellsA, Option.some.injEq] at h; subst h; simp
  | n + 1, i, l, h => by
    simp only [cellsA] at h
    split at h
    · cases h
    rename_i v hv
    split at h
    · cases h
    rename_i r hr
    simp only [Option.some.injEq] at h
    subst h
    intro j u hu
    cases j with
    | zero => simp at hu; subst hu; simpa using hv
    | succ j => have := cellsA_get a n (i + 1) r hr j u (by simpa using hu); rwa [show i + 1 + j = i + (j + 1) by omega] at this

/-- Of a block less may be known to be unfrozen. -/
theorem fz_any {m m' : M} {own : List Blk} {o0 : List Blk} {w wz : World} {B : Blk} (hr : Rep w0 m' (own ++ [B]) w) (hs : Step m o0 wz m' (own ++ [B]) w) (n : Nat) (hB : B.fz = 0 := by rfl) :
    Rep w0 m' (own ++ [{ B with fz := n }]) w ∧ Step m o0 wz m' (own ++ [{ B with fz := n }]) w := by
  have hget : ∀ k A, (own ++ [{ B with fz := n }])[k]? = some A → (k < own.length ∧ (own ++ [B])[k]? = some A) ∨ (k = own.length ∧ A = { B with fz := n }) := fun k A hk => by
    by_cases hlt : k < own.length
    · rw [List.getElem?_append_left hlt] at hk ⊢; exact .inl ⟨hlt, hk⟩
    · have h2 := lt_of_get hk
      simp at h2
      have e : k = own.length := by omega
      subst e
      simp at hk
      exact .inr ⟨rfl, hk.symm⟩
  have hlast : (own ++ [B])[own.length]? = some B := by simp
  refine ⟨⟨by rw [hr.len]; simp, hr.size, hr.outer, hr.os, hr.tape, hr.output, fun k A hk hd => ?_, fun j k A A' hj hk hd hd' e => ?_⟩, ⟨hs.ext, hs.size, hs.frame, fun k A hk hd => ?_⟩⟩
  · rcases hget k A hk with ⟨_, hk'⟩ | ⟨rfl, rfl⟩
    · exact hr.blk k A hk' hd
    · obtain ⟨hb, c, fr, h1, h2, h2', h3, h4, h5⟩ := hr.blk _ _ hlast hd
      exact ⟨hb, c, fr, h1, h2, h2', h3, fun i hi => h4 i (by omega), fun _ => h5 hB⟩
  · rcases hget j A hj with ⟨_, hj'⟩ | ⟨rfl, rfl⟩ <;> rcases hget k A' hk with ⟨_, hk'⟩ | ⟨rfl, rfl⟩
    · exact hr.inj j k A A' hj' hk' hd hd' e
    · exact hr.inj j _ A B hj' hlast hd hd' e
    · exact hr.inj _ k B A' hlast hk' hd hd' e
    · rfl
  · rcases hget k A hk with ⟨_, hk'⟩ | ⟨rfl, rfl⟩
    · exact hs.sub k A hk' hd
    · exact hs.sub _ B hlast hd

/-- append where there is room. -/
theorem run_append_fits (P : Program) (w w' : World) {argTypes : Array TypeId} {ty st xt elem : TypeId} {i : TypeInfo} (h0 : argTypes[0]? = some st) (h1 : argTypes[1]? = some xt)
    (hs : P.underlying st = some (.slice elem)) (hx : (∃ e, P.underlying xt = some (.slice e)) ∨ P.underlying xt = some .string) (hi : P.info? elem = some i)
    {a : Addr} {sl cap n : Nat} {x' : Value} {l' : List Value} (hn : (Builtin.lenOf x').run P w = .ok n w) (hc : (Builtin.firstCells i.size n x').run P w = .ok l'.toArray w)
    (hfit : sl + n ≤ cap) (hst : (storeCells (a.add (sl * i.size)) l').run P w = .ok () w') :
    (Builtin.append_ argTypes ty #[.slice (some a) sl cap, x']).run P w = .ok (.slice (some a) (sl + n) cap) w' := by
  rcases hx with ⟨e, hx⟩ | hx <;>
    simp [Builtin.append_, h0, h1, run_underlying hs, run_underlying hx, sizeOf, typeInfo, hi, hn, hc, hfit, hst]

theorem run_append_grows (P : Program) (w : World) {argTypes : Array TypeId} {ty st xt elem : TypeId} {i : TypeInfo} {z : Value} (h0 : argTypes[0]? = some st) (h1 : argTypes[1]? = some xt)
    (hs : P.underlying st = some (.slice elem)) (hx : (∃ e, P.underlying xt = some (.slice e)) ∨ P.underlying xt = some .string) (hi : P.info? elem = some i) (hz : i.zero = some z) (hb : 0 < i.bytes)
    {a : Option Addr} {sl cap n : Nat} {x' : Value} {o' l' : List Value} (hn : (Builtin.lenOf x').run P w = .ok n w) (hc : ∀ w', w'.heap = w.heap → (Builtin.firstCells i.size n x').run P w' = .ok l'.toArray w')
    (hol : ∀ w', w'.heap = w.heap → (Builtin.firstCells i.size sl (.slice a sl cap)).run P w' = .ok o'.toArray w') (hfit : cap < sl + n) (hroom : (sl + n) * i.bytes ≤ 140737488355328) :
    (Builtin.append_ argTypes ty #[.slice a sl cap, x']).run P w =
      .ok (.slice (some ⟨w.heap.size, 0, none⟩) (sl + n) (grownCap w (sl + n) cap elem)) (w.drew.alloc (.cells (o'.toArray ++ l'.toArray ++ Builtin.zeroCells z.cells (grownCap w (sl + n) cap elem - (sl + n))) elem)) := by
  have hnf : ¬ (sl + n ≤ cap) := by omega
  have hb0 : i.bytes ≠ 0 := by omega
  have h48 : ¬ (281474976710656 < Builtin.nextslicecap (sl + n) cap * i.bytes) := by
    have := growslice_fits (bytes := i.bytes) hfit (by omega); omega
  have hc' := hc w.drew rfl
  have hol' := hol w.drew rfl
  rcases hx with ⟨e, hx⟩ | hx <;>
    (simp [Builtin.append_, h0, h1, run_underlying hs, run_underlying hx, sizeOf, typeInfo, zeroValue, hi, hz, hn, hnf, h48, hb0, Question.forced, hc', hol', newRow, grownCap]
     congr 2
     apply Array.ext'
     simp [List.append_assoc])

/-- The new block that append makes. -/
theorem appended_new (hr : Rep w0 m own w) {elem : TypeId} {olds news olds' news' : List Value} {z : Array Value} {size need cap : Nat} (ho : LRel m olds olds') (hn : LRel m news news')
    (hz : z.size = size) (hl : olds.length + news.length = need * size) (hc : need ≤ cap) :
    let m' := m.push w.heap.size 0 size (cap * size)
    let own' := own ++ [{ cells := olds ++ news, elem, fix := false, es := size }]
    let w' := w.drew.alloc (.cells (olds'.toArray ++ news'.toArray ++ Builtin.zeroCells z (cap - need)) elem)
    VRel m' (.slice (some (nextAddr own)) need 0) (.slice (some ⟨w.heap.size, 0, none⟩) need cap) ∧ Rep w0 m' own' w' ∧ Step m own w m' own' w' := by
  intro m' own' w'
  have hr' := hr.drew
  have hsz : (olds'.toArray ++ news'.toArray ++ Builtin.zeroCells z (cap - need)).size = cap * size := by
    simp [zeroCells_size, hz, ← ho.1, ← hn.1]
    rw [hl, ← Nat.add_mul]; congr 1; omega
  have := new_rel hr' (w' := w') (B := { cells := olds ++ news, elem, fix := false, es := size }) (c := olds'.toArray ++ news'.toArray ++ Builtin.zeroCells z (cap - need)) (fr := (0, 0)) (cap * size)
    rfl rfl rfl rfl (fun h => by simp at h) (fun _ => by rw [hsz]; exact Nat.le_refl _) (fun i v hv => ?_) (.inl rfl)
  · refine ⟨?_, this.1, this.2.of_drew⟩
    have e := nextAddr_addr hr w.heap.size 0 size (cap * size)
    rw [← e]
    refine .slice _ _ _ _ (nextAddr_ok hr _ _ _ _) hc (.inl rfl) (fun _ _ => ?_)
    show (nextAddr own).off + cap * m'.es ((nextAddr own).block / 2) ≤ m'.tot ((nextAddr own).block / 2)
    simp [nextAddr, next_half, m', M.push, hr.len]
  · obtain ⟨v', h1, h2⟩ := (ho.append hn).get hv
    refine ⟨v', ?_, h2⟩
    have hlt := lt_of_get h1
    rw [Array.getElem?_append_left (by simpa using hlt)]
    simpa using h1

theorem appendA_rel (P : Program) (hr : Rep w0 m own w) (ho : OutOK w0 out) {argTypes : Array TypeId} {ty st xt : TypeId} (h0 : argTypes[0]? = some st) (h1 : argTypes[1]? = some xt) {s s' x x' : Value}
    (hs : VRel m s s') (hx : VRel m x x') {v : Value} {own' : List Blk} (h : appendA P out own st xt s x = some (v, own')) :
    ∃ v' w' m', (Builtin.append_ argTypes ty #[s', x']).run P w = .ok v' w' ∧ VRel m' v v' ∧ Rep w0 m' own' w' ∧ Step m own w m' own' w' := by
  unfold appendA at h
  split at h
  case h_2 => cases h
  · rename_i elem hus
    split at h
    · cases h
    rename_i hsok
    have hxt := srcOk_eq (by simpa using hsok)
    split at h
    case h_2 => cases h
    rename_i i hi
    split at h
    · cases h
    rename_i z hz
    split at h
    · cases h
    rename_i n news hsrc
    split at h
    · cases h
    rename_i hg
    simp at hg
    obtain ⟨⟨⟨hzs, hnl⟩, hone'⟩, hbytes'⟩ := hg
    have hbytes : 0 < i.bytes := by omega
    have hone : news.all Value.oneCell' = true := by simpa using hone'
    obtain ⟨news', hnr, hfc, hlen, _⟩ := srcA_rel P hr ho hx hsrc
    split at h
    · -- nil
      cases hs with
      | sliceNil =>
        split at h
        · rename_i hn0
          subst hn0
          simp at h
          obtain ⟨rfl, rfl⟩ := h
          have hn0 : news' = [] := List.eq_nil_of_length_eq_zero (by rw [← hnr.1, hnl]; simp)
          refine ⟨_, w, m, ?_, .sliceNil, hr, Step.refl _ _ _⟩
          have h2 := hfc w rfl
          rw [hn0] at h2
          rcases hxt with ⟨e, hxt⟩ | hxt <;>
            simp [Builtin.append_, h0, h1, run_underlying hus, run_underlying hxt, sizeOf, typeInfo, hi, hlen w, h2]
        · rename_i hn0
          split at h
          · cases h
          rename_i hroom
          simp at h
          obtain ⟨rfl, rfl⟩ := h
          have hrun := run_append_grows P w (ty := ty) h0 h1 hus hxt hi hz hbytes (a := none) (sl := 0) (cap := 0) (hlen w) hfc (o' := []) (fun w' _ => by simp [Builtin.firstCells]) (by omega) (by simp; omega)
          simp only [Nat.zero_add] at hrun
          obtain ⟨g1, g2, g3⟩ := appended_new hr (elem := elem) (olds := []) (olds' := []) (z := z.cells) (size := i.size) (need := n) (cap := grownCap w n 0 elem) (LRel.nil m) hnr hzs (by simpa using hnl) (cut_ge _ _ _ _)
          exact ⟨_, _, _, hrun, g1, g2, g3⟩
    · -- some
      rename_i a sl c
      split at h
      · rename_i hn0
        subst hn0
        simp at h
        obtain ⟨rfl, rfl⟩ := h
        have hn0 : news' = [] := List.eq_nil_of_length_eq_zero (by rw [← hnr.1, hnl]; simp)
        have h2 := hfc w rfl
        rw [hn0] at h2
        refine ⟨s', w, m, ?_, hs, hr, Step.refl _ _ _⟩
        cases hs with
        | slice _ _ _ c' g1 g2 g3 g4 =>
          exact run_append_fits P w w h0 h1 hus hxt hi (hlen w) h2 (by omega) (by simp [storeCells])
        | sliceEmpty _ a' _ hc =>
          exact run_append_fits P w w h0 h1 hus hxt hi (hlen w) h2 (by omega) (by simp [storeCells])
      · rename_i hn0
        split at h
        · cases h
        rename_i hroom
        split at h
        · cases h
        rename_i olds hold
        obtain ⟨holn, olds', horl, hoc⟩ := cellsA_rel hr ho a _ 0 _ hold
        -- the slice as the world has it, and its cells
        have hcells : ∀ sl' cap' (a' : Addr), s' = .slice (some a') sl' cap' → sl' = sl ∧ ∀ w', w'.heap = w.heap → (Builtin.firstCells i.size sl (.slice (some a') sl' cap')).run P w' = .ok olds'.toArray w' := by
          intro sl' cap' a' e
          cases hs with
          | slice _ _ _ c' g1 g2 g3 g4 =>
            cases e
            refine ⟨rfl, fun w' hw' => ?_⟩
            have := run_loadCells_list (P := P) w' (m.addr a) olds' (fun j v hv => by
              have := hoc j v hv
              simp only [Nat.zero_add] at this
              unfold World.cell? at this ⊢
              rw [hw']; exact this)
            simp only [Builtin.firstCells]
            rwa [show olds'.length = sl * i.size from horl.1.symm.trans holn] at this
          | sliceEmpty _ a'' _ hc =>
            cases e
            refine ⟨rfl, fun w' hw' => ?_⟩
            have : olds' = [] := List.eq_nil_of_length_eq_zero (by rw [← horl.1, holn]; simp)
            simp [Builtin.firstCells, this, loadCells, loadCellsFrom]
        have grows : ∀ cap' (a' : Addr), s' = .slice (some a') sl cap' → cap' < sl + n → ∃ v' w', (Builtin.append_ argTypes ty #[s', x']).run P w = .ok v' w' ∧
            VRel (m.push w.heap.size 0 i.size (grownCap w (sl + n) cap' elem * i.size)) (.slice (some (nextAddr own)) (sl + n) 0) v' ∧
            Rep w0 (m.push w.heap.size 0 i.size (grownCap w (sl + n) cap' elem * i.size)) (own ++ [{ cells := olds ++ news, elem, fix := false, es := i.size }]) w' ∧
            Step m own w (m.push w.heap.size 0 i.size (grownCap w (sl + n) cap' elem * i.size)) (own ++ [{ cells := olds ++ news, elem, fix := false, es := i.size }]) w' := by
          intro cap' a' e hlt
          obtain ⟨_, hco⟩ := hcells sl cap' a' e
          subst e
          have hrun := run_append_grows P w (ty := ty) h0 h1 hus hxt hi hz hbytes (a := some a') (sl := sl) (cap := cap') (hlen w) hfc (o' := olds') hco hlt (by omega)
          obtain ⟨g1, g2, g3⟩ := appended_new hr (elem := elem) (olds := olds) (olds' := olds') (z := z.cells) (size := i.size) (need := sl + n) (cap := grownCap w (sl + n) cap' elem) horl hnr hzs (by rw [holn, hnl, Nat.add_mul]) (cut_ge _ _ _ _)
          exact ⟨_, _, hrun, g1, g2, g3⟩
        split at h
        · -- the capacity isn't known
          rename_i hc0
          subst hc0
          split at h
          · cases h
          rename_i hodd
          split at h
          · cases h
          rename_i B hB
          split at h
          · cases h
          rename_i hB'
          simp at hB'
          obtain ⟨⟨⟨⟨hBd, hBf⟩, hBe⟩, hBt⟩, hBz⟩ := hB'
          simp at h
          obtain ⟨rfl, rfl⟩ := h
          -- behind a new block: the old one is let go of
          have new : ∀ cap' (a' : Addr), s' = .slice (some a') sl cap' → cap' < sl + n → ∃ v' w' m', (Builtin.append_ argTypes ty #[s', x']).run P w = .ok v' w' ∧
              VRel m' (.slice (some (nextAddr own)) (sl + n) 0) v' ∧
              Rep w0 m' (own.set (a.block / 2) { B with dead := true } ++ [{ cells := olds ++ news, elem, fix := false, es := i.size, fz := if B.fz = 0 then 0 else max 1 (B.fz - a.off) }]) w' ∧
              Step m own w m' (own.set (a.block / 2) { B with dead := true } ++ [{ cells := olds ++ news, elem, fix := false, es := i.size, fz := if B.fz = 0 then 0 else max 1 (B.fz - a.off) }]) w' := by
            intro cap' a' e hlt
            obtain ⟨_, hco⟩ := hcells sl cap' a' e
            subst e
            have hrun := run_append_grows P w (ty := ty) h0 h1 hus hxt hi hz hbytes (a := some a') (sl := sl) (cap := cap') (hlen w) hfc (o' := olds') hco hlt (by omega)
            obtain ⟨k1, k2⟩ := kill_rel hr (a.block / 2) B
            obtain ⟨g1, g2, g3⟩ := appended_new k1 (elem := elem) (olds := olds) (olds' := olds') (z := z.cells) (size := i.size) (need := sl + n) (cap := grownCap w (sl + n) cap' elem) horl hnr hzs (by rw [holn, hnl, Nat.add_mul]) (cut_ge _ _ _ _)
            have e1 : nextAddr (own.set (a.block / 2) { B with dead := true }) = nextAddr own := by simp [nextAddr]
            rw [e1] at g1
            obtain ⟨f1, f2⟩ := fz_any g2 (k2.trans g3) (if B.fz = 0 then 0 else max 1 (B.fz - a.off))
            exact ⟨_, _, _, hrun, g1, f1, f2⟩
          cases hs with
          | slice _ _ _ c' g1 g2 g3 g4 =>
            by_cases hfit : sl + n ≤ c'
            · have hk : a.block / 2 < m.n := g1.2 (by omega)
              have htot := g4 rfl (by omega)
              obtain ⟨hes, htt⟩ := ((hr.blk _ _ hB hBd).obj.choose_spec.choose_spec.2.2.1) hBf
              have hmul : (sl + n) * i.size ≤ c' * i.size := Nat.mul_le_mul_right _ hfit
              rw [hes, hBe] at htot
              rw [Nat.add_mul] at hmul
              obtain ⟨w', r1, r2, r3⟩ := grow_in_place P hr hB hBd hBf (o := a.off) (sn := sl * i.size) (olds := olds) (news := news) (news' := news') holn (fun j v hv => by
                have hj := lt_of_get hv
                have := cellsA_get a (sl * i.size) 0 olds hold j v hv
                unfold cellA at this
                rw [Nat.zero_add] at this
                have e2 : (a.add j).block = a.block := by unfold Addr.add; split <;> rfl
                have e3 : (a.add j).off = a.off + j := by unfold Addr.add; split <;> simp_all
                rw [e2, e3, if_neg hodd, hB] at this
                simpa [hBd] using this) hnr hone (by rw [hnl]; omega) hBz
              have ea : (m.addr a).add (sl * i.size) = ⟨(m.f (a.block / 2)).1, (m.f (a.block / 2)).2 + a.off + sl * i.size, none⟩ := by
                unfold M.addr; rw [if_neg hodd, Addr.add_lit]
              refine ⟨_, w', m.push (m.f (a.block / 2)).1 ((m.f (a.block / 2)).2 + a.off) B.es (m.tot (a.block / 2) - a.off),
                run_append_fits P w w' h0 h1 hus hxt hi (hlen w) (hfc w rfl) hfit (by rw [ea]; exact r1), ?_, ?_, ?_⟩
              · have e := nextAddr_addr hr (m.f (a.block / 2)).1 ((m.f (a.block / 2)).2 + a.off) B.es (m.tot (a.block / 2) - a.off)
                have ea2 : m.addr a = ⟨(m.f (a.block / 2)).1, (m.f (a.block / 2)).2 + a.off, none⟩ := by unfold M.addr; rw [if_neg hodd]
                rw [ea2, ← e]
                refine .slice _ _ _ _ (nextAddr_ok hr _ _ _ _) hfit (.inl rfl) (fun _ _ => ?_)
                simp [nextAddr, next_half, M.push, hr.len]
                rw [hBe]; omega
              · rw [← hBe, ← hBt]; exact r2
              · rw [← hBe, ← hBt]; exact r3
            · exact new c' _ rfl (by omega)
          | sliceEmpty _ a' _ hc => exact new 0 a' rfl (by omega)
        · rename_i hc0
          split at h
          · -- there is room
            rename_i hfit
            split at h
            · cases h
            rename_i own1 hst
            simp at h
            obtain ⟨rfl, rfl⟩ := h
            obtain ⟨w', r1, r2, r3⟩ := storesA_rel P news news' own own1 w 0 (a.add (sl * i.size)) hr hnr hst
            rw [addr_add] at r1
            cases hs with
            | slice _ _ _ c' g1 g2 g3 g4 =>
              refine ⟨_, w', m, run_append_fits P w w' h0 h1 hus hxt hi (hlen w) (hfc w rfl) (by omega) r1, .slice _ _ _ _ g1 (by omega) g3 g4, r2, r3⟩
            | sliceEmpty _ a' _ hc => omega
          · rename_i hfit
            simp at h
            obtain ⟨rfl, rfl⟩ := h
            cases hs with
            | slice _ _ _ c' g1 g2 g3 g4 =>
              obtain ⟨v', w', r⟩ := grows c' _ rfl (by omega)
              exact ⟨v', w', _, r⟩
            | sliceEmpty _ a' _ hc =>
              obtain ⟨v', w', r⟩ := grows 0 a' rfl (by omega)
              exact ⟨v', w', _, r⟩
    · cases h

end
end Go.Sim
