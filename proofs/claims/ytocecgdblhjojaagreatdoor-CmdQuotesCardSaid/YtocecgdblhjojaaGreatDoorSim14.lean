/-
  A calculus of abstract runs, part 14: a region that draws its order: in whatever order.
-/
import Derived.Test.YtocecgdblhjojaaGreatDoorSim13
namespace Go.Sim

section
variable {P : Program} {w0 : World} {out : Nat → Nat → Option Value} {ops : Array Oper} {m0 : M} {own0 : List Blk} {w00 : World} {Q : AExit → AA → List Blk → Prop} {qf zf : List Nat}

inductive Nx where
  | fin
  | stage (e : Nat) (rest : List Stage)
def Nx.items (qf zf : List Nat) : Nx → List (Nat × PK)
  | .fin => []
  | .stage e rest => (e, .e) :: flatS qf zf rest
def Nx.kont (P : Program) (w0 : World) (out : Nat → Nat → Option Value) (ops : Array Oper) (Q : AExit → AA → List Blk → Prop) (qf zf : List Nat) (lc : List Nat) : Nx → AA → List Blk → Prop
  | .fin => fun s own => Q .normal s own
  | .stage e rest => fun s own => eWp P w0 out ops Q e s own fun s3 own3 => planWp P w0 out ops Q qf zf (lc.filter fun i => !isAnc ops e i) rest s3 own3

theorem plan_start {flat : List (Nat × PK)} {L : Nat → Bool} {lc : List Nat} {s : AA} {own : List Blk} {m : M} {w : World} {a : Act} {β : Nat → Option Nat} (F : Facts P ops flat) (stages : List Stage)
    (j : J P w0 ops flat m0 own0 w00 L (flatS qf zf stages) lc s own m w a β) (h : planWp P w0 out ops Q qf zf lc stages s own) :
    ∃ (zs : List Nat) (nx : Nx) (lc' : List Nat) (s1 : AA), (∀ i ∈ lc', RR P out ops i s1 own) ∧ zsWp P out ops zs s1 own (nx.kont P w0 out ops Q qf zf lc') ∧ J P w0 ops flat m0 own0 w00 L (tz zs ++ nx.items qf zf) lc' s1 own m w a β := by
  cases stages with
  | nil =>
    simp only [planWp] at h
    simp only [flatS] at j
    obtain ⟨s1, ⟨h1, h2⟩, j1⟩ := consume F qf lc s j h
    exact ⟨zf, .fin, lc ++ qf, s1, h1, h2, by simpa [Nx.items] using j1⟩
  | cons st rest =>
    obtain ⟨qs, zs, e⟩ := st
    simp only [planWp] at h
    simp only [flatS] at j
    obtain ⟨s1, ⟨h1, h2⟩, j1⟩ := consume F qs lc s j h
    exact ⟨zs, .stage e rest, lc ++ qs, s1, h1, h2, by simpa [Nx.items] using j1⟩

theorem countP_one {f g : Nat → Bool} : ∀ (n i : Nat), i < n → f i = true → g i = false → (∀ j, j ≠ i → g j = f j) → (List.range n).countP g + 1 = (List.range n).countP f
  | 0, i, h, _, _, _ => by omega
  | n + 1, i, h, hf, hg, hj => by
    rw [List.range_succ, List.countP_append, List.countP_append]
    by_cases e : i = n
    · subst e
      have : (List.range i).countP g = (List.range i).countP f := by
        apply List.countP_congr
        intro x hx
        have : x ≠ i := by have := List.mem_range.1 hx; omega
        rw [hj x this]
      simp [this, hf, hg]
    · have := countP_one n i (by omega) hf hg hj
      have hn : g n = f n := hj n (Ne.symm e)
      simp only [List.countP_singleton, hn]
      omega

theorem getD_set {l : Array Bool} {i : Nat} (h : i < l.size) : (fun x => (l.setIfInBounds i true).getD x false) = fun x => if x = i then true else l.getD x false := by
  funext x
  simp only [Array.getD_eq_getD_getElem?]
  by_cases e : x = i
  · subst e; rw [Array.getElem?_setIfInBounds_self_of_lt h]; simp
  · rw [Array.getElem?_setIfInBounds_ne (Ne.symm e)]; simp [e]

theorem first_unlisted {flat : List (Nat × PK)} (F : Facts P ops flat) {L : Nat → Bool} : ∀ (post pre : List (Nat × PK)), flat = pre ++ post → (∀ x ∈ pre, L x.1 = true) → (∃ x ∈ post, L x.1 = false) →
    ∃ x ∈ flat, L x.1 = false ∧ ∀ o, ops[x.1]? = some o → ∀ ed ∈ o.after.toList, Region.binds .any ed = true → L ed.on = true
  | [], pre, e, h, ⟨x, hx, _⟩ => by cases hx
  | y :: post, pre, e, h, hx => by
    have hyf : y ∈ flat := by rw [e]; simp
    cases hy : L y.1 with
    | true =>
      refine first_unlisted F post (pre ++ [y]) (by rw [e]; simp) (fun z hz => ?_) ?_
      · rcases List.mem_append.1 hz with h' | h'
        · exact h z h'
        · rw [List.mem_singleton.1 h']; exact hy
      · obtain ⟨x, hx1, hx2⟩ := hx
        rcases List.mem_cons.1 hx1 with rfl | hx1
        · rw [hy] at hx2; cases hx2
        · exact ⟨x, hx1, hx2⟩
    | false =>
      refine ⟨y, hyf, hy, fun o ho ed hed hb => ?_⟩
      have hlt := F.edge _ o ho ed hed hb
      have hanc := F.dir _ o ho ed hed hb
      obtain ⟨k, hk⟩ := F.all ed.on hlt
      have hk' := hk
      rw [e] at hk'
      rcases List.mem_append.1 hk' with h' | h'
      · exact h _ h'
      · rcases List.mem_cons.1 h' with h' | h'
        · have : ed.on = y.1 := by rw [← h']
          have hs := F.self ed.on hlt
          rw [← this] at hanc
          rw [hs] at hanc; cases hanc
        · have hp := F.pair (bef_split (pre := pre ++ [y]) (rem := post) (by rw [e]; simp) (x := y) (by simp) h')
          simp only [pairOk, Bool.and_eq_true] at hp
          have := hp.1.1.1.2
          simp [hanc] at this

theorem ready_iff {listed : Array Bool} {i : Nat} : i ∈ Region.ready .any ops listed ↔ i < ops.size ∧ listed.getD i true = false ∧ ∀ o, ops[i]? = some o → ∀ ed ∈ o.after.toList, Region.binds .any ed = true → listed.getD ed.on false = true := by
  unfold Region.ready
  simp only [List.mem_filter, List.mem_range, Bool.and_eq_true, Bool.not_eq_true']
  constructor
  · rintro ⟨h1, h2, h3⟩
    refine ⟨h1, h2, fun o ho ed hed hb => ?_⟩
    rw [ho] at h3
    simp only [Option.map_some, Option.getD_some] at h3
    have := (Array.all_eq_true'.1 h3) ed (by simpa using hed)
    simpa [hb] using this
  · rintro ⟨h1, h2, h3⟩
    refine ⟨h1, h2, ?_⟩
    have ho : ops[i]? = some ops[i] := Array.getElem?_eq_getElem h1
    rw [ho]
    simp only [Option.map_some, Option.getD_some]
    refine Array.all_eq_true'.2 fun ed hed => ?_
    cases hb : Region.binds .any ed with
    | false => simp
    | true => simpa using h3 _ ho ed (by simpa using hed) hb

theorem draw_main {flat : List (Nat × PK)} (ho : OutOK w0 out) (F : Facts P ops flat) : ∀ (fuel : Nat) (listed : Array Bool) (zs : List Nat) (nx : Nx) (lc : List Nat) (s : AA) (own : List Blk) (m : M) (w : World) (a : Act) (β : Nat → Option Nat),
    J P w0 ops flat m0 own0 w00 (fun i => listed.getD i false) (tz zs ++ nx.items qf zf) lc s own m w a β → listed.size = ops.size → (List.range ops.size).countP (fun i => !listed.getD i false) = fuel →
    (∀ i ∈ lc, RR P out ops i s own) → zsWp P out ops zs s own (nx.kont P w0 out ops Q qf zf lc) → wpAny P .any ops (Post w0 m0 own0 w00 Q) fuel listed a w := by
  -- all is done
  have fin : ∀ (listed : Array Bool) (zs : List Nat) (nx : Nx) (lc : List Nat) (s : AA) (own : List Blk) (m : M) (w : World) (a : Act) (β : Nat → Option Nat),
      J P w0 ops flat m0 own0 w00 (fun i => listed.getD i false) (tz zs ++ nx.items qf zf) lc s own m w a β → (∀ i, i < ops.size → listed.getD i false = true) →
      zsWp P out ops zs s own (nx.kont P w0 out ops Q qf zf lc) → Post w0 m0 own0 w00 Q .normal a w := by
    intro listed zs nx lc s own m w a β j hall hz
    have hlt : ∀ {x : Nat × PK}, x ∈ flat → x.1 < ops.size := fun {x} hx => by
      obtain ⟨o, ho, _⟩ := flat_lt F hx
      by_cases h : x.1 < ops.size
      · exact h
      · rw [Array.getElem?_eq_none (by omega)] at ho; cases ho
    cases nx with
    | stage e rest =>
      have hr : (e, PK.e) ∈ tz zs ++ Nx.items qf zf (.stage e rest) := by simp [Nx.items]
      have := (j.early e .e hr (hall e (hlt (mem_flat j hr)))).1
      cases this
    | fin =>
      obtain ⟨s1, own1, m1, hq, j1⟩ := adopt F zs s own m (fun i hi => hall i (hlt (mem_flat j (show (i, PK.z) ∈ _ by simp [tz, hi])))) j hz
      refine ⟨.normal, s1, own1, m1, hq, trivial, ⟨⟨by have := j1.len; simpa using this, fun d v v' h1 h2 => ?_⟩, j1.ds⟩, j1.rep, j1.step⟩
      refine j1.tm d v v' h1 (by simpa using h2) fun jj kk hjk _ => ?_
      simp [Nx.items, hall jj (hlt hjk)]
  intro fuel
  induction fuel with
  | zero =>
    intro listed zs nx lc s own m w a β j hsz hc hrr hz
    have hall : ∀ i, i < ops.size → listed.getD i false = true := fun i hi => by
      have := (List.countP_eq_zero.1 hc) i (List.mem_range.2 hi)
      simpa using this
    refine ⟨?_, fin listed zs nx lc s own m w a β j hall hz⟩
    apply List.eq_nil_iff_forall_not_mem.2
    intro i hi
    obtain ⟨h1, h2, _⟩ := ready_iff.1 hi
    have h3 := hall i h1
    simp only [Array.getD_eq_getD_getElem?, Array.getElem?_eq_getElem (show i < listed.size by omega), Option.getD_some] at h2 h3
    rw [h2] at h3; cases h3
  | succ fuel ih =>
    intro listed zs nx lc s own m w a β j hsz hc hrr hz
    refine ⟨fun hnil => ?_, fun i hi => ?_⟩
    · by_cases hall : ∀ i, i < ops.size → listed.getD i false = true
      · exact fin listed zs nx lc s own m w a β j hall hz
      · exfalso
        have : ∃ i, i < ops.size ∧ listed.getD i false = false := by
          apply Classical.byContradiction
          intro hn
          apply hall
          intro i hi
          cases h : listed.getD i false with
          | true => rfl
          | false => exact absurd ⟨i, hi, h⟩ hn
        obtain ⟨i, hi, hL⟩ := this
        obtain ⟨k, hk⟩ := F.all i hi
        obtain ⟨x, hx, hxL, hpre⟩ := first_unlisted F (L := fun i => listed.getD i false) flat [] rfl (by simp) ⟨(i, k), hk, hL⟩
        have hxlt : x.1 < ops.size := by
          obtain ⟨o, ho, _⟩ := flat_lt F hx
          by_cases h : x.1 < ops.size
          · exact h
          · rw [Array.getElem?_eq_none (by omega)] at ho; cases ho
        have : x.1 ∈ Region.ready .any ops listed := by
          refine ready_iff.2 ⟨hxlt, ?_, hpre⟩
          simp only [Array.getD_eq_getD_getElem?, Array.getElem?_eq_getElem (show x.1 < listed.size by omega), Option.getD_some] at hxL ⊢
          exact hxL
        rw [hnil] at this
        cases this
    · obtain ⟨hlt, hun, hpre⟩ := ready_iff.1 hi
      have hls : i < listed.size := by omega
      have hL : listed.getD i false = false := by
        simp only [Array.getD_eq_getD_getElem?, Array.getElem?_eq_getElem hls, Option.getD_some] at hun ⊢
        exact hun
      obtain ⟨k, hk⟩ := F.all i hlt
      have hrdy : ∀ kk, isAnc ops i kk = true → listed.getD kk false = true := fun kk hkk => by
        obtain ⟨o, p, ho', ⟨ed, hed, hb, hp⟩, hor⟩ := F.anc i kk hkk
        have hlp := hpre o ho' ed hed hb
        rw [hp] at hlp
        rcases hor with rfl | hor
        · exact hlp
        · exact j.down p hlp kk hor
      have hcnt : (List.range ops.size).countP (fun x => !(listed.setIfInBounds i true).getD x false) = fuel := by
        have := countP_one (f := fun x => !listed.getD x false) (g := fun x => !(listed.setIfInBounds i true).getD x false) ops.size i hlt (by simp only [hL]; rfl)
          (by have := congrFun (getD_set hls) i; simp only [this]; simp) (fun x hx => by have := congrFun (getD_set hls) x; simp only [this, if_neg hx])
        omega
      have hsz' : (listed.setIfInBounds i true).size = ops.size := by simpa using hsz
      have hcv : ∀ {rem lc s own m w a β}, J P w0 ops flat m0 own0 w00 (fun x => if x = i then true else listed.getD x false) rem lc s own m w a β →
          J P w0 ops flat m0 own0 w00 (fun x => (listed.setIfInBounds i true).getD x false) rem lc s own m w a β := fun {rem lc s own m w a β} hj => by rw [getD_set hls]; exact hj
      by_cases hr : (i, k) ∈ tz zs ++ nx.items qf zf
      · -- what is still ahead in the plan
        have notE : ∀ e' rest, nx = .stage e' rest → listed.getD e' false = false := fun e' rest en => by
          cases h : listed.getD e' false with
          | false => rfl
          | true =>
            have := (j.early e' .e (by rw [en]; simp [Nx.items]) h).1
            cases this
        cases k with
        | z => exact early_step F j hr hL hrdy fun w' a' β' hj => ih _ zs nx lc s own m w' a' β' (hcv hj) hsz' hcnt hrr hz
        | q =>
          exfalso
          rcases List.mem_append.1 hr with h | h
          · simp [tz] at h
          · cases nx with
            | fin => simp [Nx.items] at h
            | stage e' rest =>
              simp only [Nx.items] at h
              rcases List.mem_cons.1 h with h | h
              · cases h
              · obtain ⟨pre, e⟩ := j.suf
                have hb := F.pair (bef_split (pre := pre ++ tz zs ++ [(e', PK.e)]) (rem := flatS qf zf rest) (by rw [e]; simp [Nx.items]) (x := (e', PK.e)) (by simp) h)
                simp only [pairOk, Bool.and_eq_true] at hb
                have := hrdy e' hb.1.1.2
                rw [notE e' rest rfl] at this; cases this
        | e =>
          rcases List.mem_append.1 hr with h | h
          · simp [tz] at h
          · cases nx with
            | fin => simp [Nx.items] at h
            | stage e' rest =>
              obtain ⟨pre, e⟩ := j.suf
              simp only [Nx.items] at h
              have hie : i = e' := by
                rcases List.mem_cons.1 h with h | h
                · injection h
                · have hb := F.pair (bef_split (pre := pre ++ tz zs ++ [(e', PK.e)]) (rem := flatS qf zf rest) (by rw [e]; simp [Nx.items]) (x := (e', PK.e)) (by simp) h)
                  simp only [pairOk, Bool.and_eq_true] at hb
                  have := hrdy e' hb.1.1.2
                  rw [notE e' rest rfl] at this; cases this
              subst hie
              have hzs : ∀ z ∈ zs, listed.getD z false = true := fun z hz' => by
                have hb := F.pair (bef_split (pre := pre ++ tz zs) (rem := (i, PK.e) :: flatS qf zf rest) (by rw [e]; simp [Nx.items]) (x := (z, PK.z)) (by simp [tz, hz']) (y := (i, PK.e)) (by simp))
                simp only [pairOk, Bool.and_eq_true] at hb
                exact hrdy z hb.1.1.2
              obtain ⟨s1, own1, m1, hk1, j1⟩ := adopt F zs s own m hzs j hz
              simp only [Nx.kont] at hk1
              simp only [Nx.items] at j1
              refine e_step ho F j1 hL hrdy hk1 fun s3 own3 m' w' a' hpl hj => ?_
              obtain ⟨zs', nx', lc', s4, h1, h2, j4⟩ := plan_start F rest (hcv hj) hpl
              exact ih _ zs' nx' lc' s4 own3 m' w' a' β j4 hsz' hcnt h1 h2
      · obtain ⟨hkq, hlc⟩ := j.late i k hk hr hL
        subst hkq
        exact late_step ho F j hk hr hL hrdy (hrr i hlc) fun m' w' a' hj => ih _ zs nx lc s own m' w' a' β (hcv hj) hsz' hcnt hrr hz

/-- A REGION THAT DRAWS ITS ORDER, BY ITS PLAN. -/
theorem awp_draw (hm : P.follows .mixedOrders = true) (ho : OutOK w0 out) {id : Nat} {stages : List Stage} (hp : planOk P ops (flatS qf zf stages) = true) {s : AA} {own : List Blk}
    (h : planWp P w0 out ops Q qf zf [] stages s own) : AWp P w0 (.region id ops true) Q s own := by
  intro m w a hr ha
  have F := facts_of hp
  refine wp_region_any hm ?_
  have hdr : Rep w0 m own { w with drawn := w.drawn + 1 } := hr.drew
  have hst : Step m own w m own { w with drawn := w.drawn + 1 } := (Step.refl m own w).drew
  have hL : (fun i => (Array.replicate ops.size false).getD i false) = fun _ => false := by
    funext i
    simp only [Array.getD_eq_getD_getElem?, Array.getElem?_replicate]
    split <;> rfl
  have j0 : J P w0 ops (flatS qf zf stages) m own w (fun i => (Array.replicate ops.size false).getD i false) (flatS qf zf stages) [] s own m { w with drawn := w.drawn + 1 } a (fun _ => none) := by
    rw [hL]
    refine ⟨hdr, hr.size, hst, by have := ha.t.1; simpa using this, ha.ds, fun i h => (by cases h), ⟨[], rfl⟩, fun i k h1 h2 _ => absurd h1 h2, fun i k _ h => (by cases h), fun i j b h => (by cases h), fun i b h => (by cases h), fun d v v' h1 h2 _ => ha.t.2 d v v' h1 (by simpa using h2)⟩
  obtain ⟨zs, nx, lc, s1, h1, h2, j1⟩ := plan_start F stages j0 h
  refine draw_main ho F ops.size _ zs nx lc s1 own m _ a _ j1 (by simp) ?_ h1 h2
  have : (List.range ops.size).countP (fun i => !(Array.replicate ops.size false).getD i false) = (List.range ops.size).countP (fun _ => true) := by
    apply List.countP_congr
    intro x _
    have := congrFun hL x
    simp only [this]
    simp
  rw [this, List.countP_true, List.length_range]

end
end Go.Sim
