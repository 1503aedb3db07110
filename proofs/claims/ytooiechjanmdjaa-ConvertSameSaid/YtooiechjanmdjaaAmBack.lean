/- The mirror machine: what a call leaves, in the caller's names. -/
import Derived.Test.YtooiechjanmdjaaAmCall
namespace Go.Proofs.Ytooiechjanmdjaa
namespace Am
set_option linter.unusedVariables false
set_option linter.unusedSimpArgs false

/-- the callee's name of a caller's name -/
def srcN (L : List Nat) (base nx : Nat) (x : Nat) : Option Nat :=
  match placeN x L with
  | some i => some i
  | none => if base ≤ x ∧ x < base + (nx - L.length) then some (L.length + (x - base)) else none

def pickN {α : Type} (o : Option Nat) (f : Nat → α) (d : α) : α :=
  match o with
  | some y => f y
  | none => d

def Gh.back (g gc : Gh) (L : List Nat) (base nx : Nat) : Gh where
  S := g.S
  s0 := g.s0
  lo := g.lo
  used := fun x => g.used x ∨ (base ≤ x ∧ x < base + (nx - L.length) ∧ gc.used (L.length + (x - base)))
  bk := fun x => pickN (srcN L base nx x) gc.bk (g.bk x)
  own := fun b => match gc.own b with
    | some y => backN L base y
    | none => match g.own b with
      | some x => match placeN x L with
        | some _ => none
        | none => some x
      | none => none
  fill := fun b => match gc.own b with
    | some _ => gc.fill b
    | none => g.fill b
  grow := fun x => pickN (srcN L base nx x) gc.grow (g.grow x)
  ver := fun x => pickN (srcN L base nx x) gc.ver (g.ver x)
  cnt := fun x => pickN (srcN L base nx x) gc.cnt (g.cnt x)
  sz := fun x => pickN (srcN L base nx x) gc.sz (g.sz x)

section back
variable {g gc : Gh} {w w' : World} {L : List Nat} {base nx : Nat}

/-- what the merge needs -/
structure Merge (g : Gh) (w : World) (gc : Gh) (w' : World) (L : List Nat) (base nx : Nat) : Prop where
  inv : Inv g w
  uniq : Uniq L
  used : ∀ x, x ∈ L → g.used x
  fresh : ∀ x, base ≤ x → x < base + (nx - L.length) → ¬ g.used x
  step : Step (g.hand w L) w gc w'
  invc : Inv gc w'
  usedc : ∀ y, gc.used y → y < L.length ∨ (L.length ≤ y ∧ y < nx)

theorem backN_lt {y x : Nat} (h : L[y]? = some x) : backN L base y = some x := by simp [backN, h]
theorem backN_ge {y : Nat} (h : L.length ≤ y) : backN L base y = some (base + (y - L.length)) := by simp [backN, List.getElem?_eq_none h]

theorem backN_some (y : Nat) : ∃ x, backN L base y = some x := by
  unfold backN; split <;> exact ⟨_, rfl⟩

/-- the two names are of one thing -/
theorem Merge.src (M : Merge g w gc w' L base nx) {y x : Nat} (hu : gc.used y) (h : backN L base y = some x) : srcN L base nx x = some y := by
  rcases M.usedc y hu with hy | ⟨hy, hn⟩
  · have hx : L[y]? = some x := by
      rw [List.getElem?_eq_getElem hy]
      rw [backN_lt (List.getElem?_eq_getElem hy)] at h
      exact h
    simp only [srcN, M.uniq y x hx]
  · rw [backN_ge hy] at h
    simp at h
    subst h
    have hnot : placeN (base + (y - L.length)) L = none := placeN_none.2 fun hm => M.fresh _ (by omega) (by omega) (M.used _ hm)
    simp only [srcN, hnot]
    rw [if_pos (by omega)]
    simp; omega

theorem Merge.used_back (M : Merge g w gc w' L base nx) {y x : Nat} (hu : gc.used y) (h : backN L base y = some x) : (g.back gc L base nx).used x := by
  rcases M.usedc y hu with hy | ⟨hy, hn⟩
  · rw [backN_lt (List.getElem?_eq_getElem hy)] at h
    simp at h
    exact .inl (M.used x (h ▸ List.getElem_mem hy))
  · rw [backN_ge hy] at h
    simp at h
    subst h
    exact .inr ⟨by omega, by omega, by rw [show L.length + (base + (y - L.length) - base) = y by omega]; exact hu⟩

theorem src_old (M : Merge g w gc w' L base nx) {x : Nat} (hu : g.used x) (hx : x ∉ L) : srcN L base nx x = none := by
  simp only [srcN, placeN_none.2 hx]
  rw [if_neg]
  intro ⟨h1, h2⟩
  exact M.fresh x h1 h2 hu

theorem src_old' {x i : Nat} (h : placeN x L = some i) : srcN L base nx x = some i := by simp only [srcN, h]

theorem own_back (M : Merge g w gc w' L base nx) {b y x : Nat} (h : gc.own b = some y) (hx : backN L base y = some x) : (g.back gc L base nx).own b = some x := by
  simp only [Gh.back, h, hx]
theorem fill_back {b y : Nat} (h : gc.own b = some y) : (g.back gc L base nx).fill b = gc.fill b := by
  simp only [Gh.back, h]
theorem pick_back {α : Type} {o : Option Nat} {y : Nat} (h : o = some y) (f : Nat → α) (d : α) : pickN o f d = f y := by rw [h]; rfl

theorem hand_none {b : Nat} (h : g.own b = none) : (g.hand w L).own b = none := by simp [Gh.hand, h]
theorem hand_none' {b x : Nat} (h : g.own b = some x) (hx : x ∉ L) : (g.hand w L).own b = none := by simp [Gh.hand, h, placeN_none.2 hx]

theorem own_old (M : Merge g w gc w' L base nx) {b x : Nat} (hb : b < w.heap.size) (h : g.own b = some x) (hx : x ∉ L) :
    gc.own b = none ∧ w'.heap[b]? = w.heap[b]? ∧ (g.back gc L base nx).own b = some x ∧ (g.back gc L base nx).fill b = g.fill b := by
  obtain ⟨h1, h2⟩ := M.step.free b hb (hand_none' h hx)
  exact ⟨h1, h2, by simp only [Gh.back, h1, h, placeN_none.2 hx], by simp only [Gh.back, h1]⟩

theorem own_none (M : Merge g w gc w' L base nx) {b : Nat} (hb : b < w.heap.size) (h : g.own b = none) :
    gc.own b = none ∧ w'.heap[b]? = w.heap[b]? ∧ (g.back gc L base nx).own b = none := by
  obtain ⟨h1, h2⟩ := M.step.free b hb (hand_none h)
  exact ⟨h1, h2, by simp only [Gh.back, h1, h]⟩

theorem lt_of_own (hi : Inv g w) {b x : Nat} (h : g.own b = some x) : b < w.heap.size := by
  rcases Nat.lt_or_ge b w.heap.size with hlt | hge
  · exact hlt
  · rw [hi.fresh b hge] at h; cases h

theorem back_safe (M : Merge g w gc w' L base nx) {b i : Nat} (h : Safe gc w' b i) : Safe (g.back gc L base nx) w' b i := by
  refine ⟨h.1, ?_⟩
  rcases h.2 with ⟨ho, hs⟩ | ⟨y, ho, hg, hi⟩
  · rw [M.step.S, M.step.s0] at hs
    rcases hs with hs | hs
    · -- safe in the caller
      have hs : Safe g w b i := hs
      rcases hs.2 with ⟨h0, h1⟩ | ⟨x, h0, h1, h2⟩
      · exact .inl ⟨(own_none M hs.1 h0).2.2, h1⟩
      · by_cases hx : x ∈ L
        · exfalso
          cases hp : placeN x L with
          | none => exact placeN_none.1 hp hx
          | some j =>
            have := (M.step.rows b j (hand_own h0 hp) (placeN_lt hp) (by simp only [Gh.hand]; rw [hand_getD hp]; exact h1)).1
            rw [ho] at this; cases this
        · obtain ⟨q1, q2, q3, q4⟩ := own_old M hs.1 h0 hx
          refine .inr ⟨x, q3, ?_, by rw [q4]; exact h2⟩
          simp only [Gh.back, src_old M (M.inv.owner b x h0) hx]
          exact h1
    · have hs : w.heap.size ≤ b := hs
      have h0 := M.inv.fresh b hs
      refine .inl ⟨by simp only [Gh.back, ho, h0], .inr ?_⟩
      exact Nat.le_trans M.inv.s0 hs
  · obtain ⟨x, hx⟩ := backN_some (L := L) (base := base) y
    have hu := M.invc.owner b y ho
    refine .inr ⟨x, own_back M ho hx, ?_, by rw [fill_back ho]; exact hi⟩
    simp only [Gh.back, M.src hu hx]
    exact hg

theorem back_relP (M : Merge g w gc w' L base nx) {v : AV} {V : Value} (h : RelP (Safe gc w') w' v V) : RelP (Safe (g.back gc L base nx) w') w' v V :=
  h.mono fun _ _ hs => ⟨back_safe M hs, rfl⟩

theorem back_ptrR (M : Merge g w gc w' L base nx) {v : AV} {V : Value} (h : PtrR gc w' v V) : PtrR (g.back gc L base nx) w' (renP (backN L base) v) V := by
  cases v <;> first | exact h.elim | skip
  case ptr x off s =>
    obtain ⟨z, hz⟩ := backN_some (L := L) (base := base) x
    obtain ⟨h1, h2, h3, h4⟩ := h
    have hs := M.src h1 hz
    simp only [renP, hz, PtrR]
    refine ⟨M.used_back h1 hz, ?_, ?_, ?_⟩
    · simp only [Gh.back, hs]; exact h2
    · simp only [Gh.back, hs]; exact h3
    · simp only [Gh.back, hs]; exact h4
theorem back_rel0 (M : Merge g w gc w' L base nx) {v : AV} {V : Value} (h : Rel0 gc w' v V) : Rel0 (g.back gc L base nx) w' (ren0 (backN L base) v) V := by
  cases v <;> simp only [ren0] <;> first
    | trivial
    | exact back_relP M h
    | skip
  case ptr x off s =>
    obtain ⟨z, hz⟩ := backN_some (L := L) (base := base) x
    obtain ⟨h1, h2, h3, h4⟩ := h
    have hs := M.src h1 hz
    simp only [hz, Rel0]
    refine ⟨M.used_back h1 hz, ?_, ?_, ?_⟩
    · simp only [Gh.back, hs]; exact h2
    · simp only [Gh.back, hs]; exact h3
    · simp only [Gh.back, hs]; exact h4
  case sl x sz off n =>
    obtain ⟨z, hz⟩ := backN_some (L := L) (base := base) x
    obtain ⟨h1, h2, h3, h4⟩ := h
    have hs := M.src h1 hz
    simp only [hz, Rel0]
    refine ⟨M.used_back h1 hz, ?_, ?_, ?_⟩
    · simp only [Gh.back, hs]; exact h2
    · simp only [Gh.back, hs]; exact h3
    · simp only [Gh.back, hs]; exact h4
  case gsl x ver =>
    obtain ⟨z, hz⟩ := backN_some (L := L) (base := base) x
    obtain ⟨h1, h2, h3, h4, h5⟩ := h
    have hs := M.src h1 hz
    simp only [hz, Rel0]
    have e0 : (g.back gc L base nx).ver z = gc.ver x := by simp only [Gh.back, hs]; rfl
    have e1 : (g.back gc L base nx).cnt z = gc.cnt x := by simp only [Gh.back, hs]; rfl
    have e2 : (g.back gc L base nx).sz z = gc.sz x := by simp only [Gh.back, hs]; rfl
    rw [e0, e1, e2]
    refine ⟨M.used_back h1 hz, ?_, h3, h4, fun hv => ?_⟩
    · simp only [Gh.back, hs]; exact h2
    · obtain ⟨a, cap, r1, r2, r3⟩ := h5 hv
      refine ⟨a, cap, r1, r2, fun hc => ?_⟩
      obtain ⟨B, C, e, q1, q2, q3, q4, q5⟩ := r3 hc
      exact ⟨B, C, e, q1, own_back M q2 hz, by rw [fill_back q2]; exact q3, q4, q5⟩
  case ri k l i =>
    obtain ⟨h1, b, o, h2, h3⟩ := h
    exact ⟨h1, b, o, h2, fun j hj => ⟨back_safe M (h3 j hj).1, (h3 j hj).2⟩⟩
  case rc l i s =>
    obtain ⟨h1, b, o, us, h2, h3, h4⟩ := h
    exact ⟨h1, b, o, us, h2, h3, fun j hj => ⟨back_safe M (h4 j hj).1, (h4 j hj).2.1, back_relP M (h4 j hj).2.2⟩⟩
  case rr k rs i =>
    obtain ⟨h1, b, o, us, h2, h4⟩ := h
    exact ⟨h1, b, o, us, h2, fun j hj => ⟨back_safe M (h4 j hj).1, (h4 j hj).2.1, back_relP M (h4 j hj).2.2⟩⟩
  case func f a b =>
    cases hk : (a ++ b).all (okP (backN L base)) with
    | false => trivial
    | true =>
      obtain ⟨A, B, rfl, ha, hb⟩ := h
      exact ⟨A, B, rfl, ha.mapL fun _ _ => back_ptrR M, hb.mapL fun _ _ => back_ptrR M⟩
  all_goals exact h

theorem back_rel1 (M : Merge g w gc w' L base nx) {v : AV} {V : Value} (h : Rel1 gc w' v V) : Rel1 (g.back gc L base nx) w' (ren1 (backN L base) v) V := by
  cases v
  case agg vs => obtain ⟨us, rfl, ha⟩ := h; exact ⟨us, rfl, ha.mapL fun _ _ => back_rel0 M⟩
  case func f a b => obtain ⟨A, B, rfl, ha, hb⟩ := h; exact ⟨A, B, rfl, ha.mapL fun _ _ => back_rel0 M, hb.mapL fun _ _ => back_rel0 M⟩
  all_goals
    simp only [Rel1] at h
    have h0 := back_rel0 M h
    simp only [ren1]
    exact h0.to1

theorem Rel1.to2' {g : Gh} {w : World} {v : AV} {V : Value} (h : Rel1 g w v V) : Rel2 g w v V := by
  cases v <;> first | exact h | exact h.elim

theorem back_rel2 (M : Merge g w gc w' L base nx) {v : AV} {V : Value} (h : Rel2 gc w' v V) : Rel2 (g.back gc L base nx) w' (renV (backN L base) v) V := by
  cases v
  case tuple vs => obtain ⟨us, rfl, ha⟩ := h; exact ⟨us, rfl, ha.mapL fun _ _ => back_rel1 M⟩
  all_goals
    simp only [Rel2] at h
    have h0 := back_rel1 M h
    simp only [renV]
    exact h0.to2'

theorem back_relB (M : Merge g w gc w' L base nx) {y x : Nat} {b : Box} (h : RelB gc w' y b) (hx : backN L base y = some x) : RelB (g.back gc L base nx) w' x (renB (backN L base) b) := by
  have row : ∀ bb c, RowR gc w' bb c → RowR (g.back gc L base nx) w' bb (renC (backN L base) c) := by
    intro bb c ⟨C, e, h1, h2, h3⟩
    exact ⟨C, e, h1, by rw [renC_size]; exact h2, fun j hj => by rw [renC_get]; rw [renC_size] at hj; exact back_rel0 M (h3 j hj)⟩
  have hu : gc.used y := by cases b <;> exact h.1
  have hs := M.src hu hx
  have hbk : (g.back gc L base nx).bk x = gc.bk y := by simp only [Gh.back, hs]; rfl
  have hgr : (g.back gc L base nx).grow x = gc.grow y := by simp only [Gh.back, hs]; rfl
  have e0 : (g.back gc L base nx).ver x = gc.ver y := by simp only [Gh.back, hs]; rfl
  have e1 : (g.back gc L base nx).cnt x = gc.cnt y := by simp only [Gh.back, hs]; rfl
  have e2 : (g.back gc L base nx).sz x = gc.sz y := by simp only [Gh.back, hs]; rfl
  have hub := M.used_back hu hx
  cases b with
  | fix c =>
    obtain ⟨h1, h2, h3, h4⟩ := h
    exact ⟨hub, hgr.trans h2, by rw [hbk]; exact own_back M h3 hx, by rw [hbk]; exact row _ c h4⟩
  | ro c =>
    obtain ⟨h1, h2, h3, h5⟩ := h
    refine ⟨hub, hgr.trans h2, fun j hj => ?_, ?_⟩
    · rw [hbk]; rw [renC_size] at hj; exact back_safe M (h3 j hj)
    · rw [hbk]; exact row _ c h5
  | grow sz ver c =>
    obtain ⟨h1, h2, h3, h4, h5, h6, h7, h8⟩ := h
    refine ⟨hub, hgr.trans h2, e0.trans h3, e2.trans h4, by rw [e1, renC_count]; exact h5, by rw [renC_size, renC_count]; exact h6, h7, fun bb hbb => ?_⟩
    -- its blocks are the callee's
    have hown : gc.own bb = some y := by
      simp only [Gh.back] at hbb
      cases hoc : gc.own bb with
      | some y' =>
        rw [hoc] at hbb
        have h1' := M.src (M.invc.owner bb y' hoc) hbb
        rw [hs] at h1'
        exact h1'.symm ▸ rfl
      | none =>
        exfalso
        rw [hoc] at hbb
        cases ho : g.own bb with
        | none => simp [ho] at hbb
        | some z =>
          rw [ho] at hbb
          cases hp : placeN z L with
          | some j => simp [hp] at hbb
          | none =>
            simp [hp] at hbb
            subst hbb
            have := src_old M (M.inv.owner bb z ho) (placeN_none.1 hp)
            rw [this] at hs
            cases hs
    obtain ⟨C, e, q1, q2, q3, q4⟩ := h8 bb hown
    rw [fill_back hown]
    refine ⟨C, e, q1, by rw [renC_size]; exact q2, q3, fun j hj => ?_⟩
    have := q4 j hj
    rw [renC_get, ren0_plain this]
    exact back_relP M this


theorem back_inv (M : Merge g w gc w' L base nx) : Inv (g.back gc L base nx) w' where
  s0 := Nat.le_trans M.inv.s0 M.step.size
  fresh := fun b hb => by
    have h1 := M.invc.fresh b hb
    have h2 := M.inv.fresh b (Nat.le_trans M.step.size hb)
    simp only [Gh.back, h1, h2]
  owner := fun b x h => by
    simp only [Gh.back] at h
    cases hoc : gc.own b with
    | some y => rw [hoc] at h; exact M.used_back (M.invc.owner b y hoc) h
    | none =>
      rw [hoc] at h
      cases ho : g.own b with
      | none => simp [ho] at h
      | some z =>
        rw [ho] at h
        cases hp : placeN z L with
        | some j => simp [hp] at h
        | none => simp [hp] at h; subst h; exact .inl (M.inv.owner b z ho)
  loc := fun b x h hx => by
    simp only [Gh.back] at h
    rcases Nat.lt_or_ge b w.heap.size with hlt | hge
    · cases hoc : gc.own b with
      | some y =>
        rw [hoc] at h
        have h : backN L base y = some x := h
        cases hog : g.own b with
        | none => rw [(own_none M hlt hog).1] at hoc; cases hoc
        | some z =>
          by_cases hz : z ∈ L
          · cases hpz : placeN z L with
            | none => exact absurd hz (placeN_none.1 hpz)
            | some j =>
              rcases M.step.own b j hlt (hand_own hog hpz) (placeN_lt hpz) with h' | h'
              · rw [hoc] at h'
                simp at h'
                subst h'
                rw [backN_lt (placeN_some hpz)] at h
                simp at h
                subst h
                exact M.inv.loc b z hog hx
              · rw [hoc] at h'; cases h'
          · rw [(own_old M hlt hog hz).1] at hoc; cases hoc
      | none =>
        rw [hoc] at h
        cases hog : g.own b with
        | none => simp [hog] at h
        | some z =>
          rw [hog] at h
          cases hpz : placeN z L with
          | some j => simp [hpz] at h
          | none => simp [hpz] at h; subst h; exact M.inv.loc b z hog hx
    · exact Nat.le_trans M.inv.s0 hge

theorem back_step (M : Merge g w gc w' L base nx) : Step g w (g.back gc L base nx) w' where
  S := rfl
  s0 := rfl
  lo := rfl
  size := M.step.size
  os := M.step.os
  out := M.step.out
  shape := M.step.shape
  free := fun b hb h => ⟨(own_none M hb h).2.2, (own_none M hb h).2.1⟩
  keep := fun b x i hb ho hg hi => by
    by_cases hx : x ∈ L
    · cases hp : placeN x L with
      | none => exact absurd hx (placeN_none.1 hp)
      | some j =>
        have hgj : (g.hand w L).grow j = true := by simp only [Gh.hand]; rw [hand_getD hp]; exact hg
        obtain ⟨k1, k2⟩ := M.step.keep b j i hb (hand_own ho hp) hgj hi
        have hrow := (M.step.rows b j (hand_own ho hp) (placeN_lt hp) hgj).1
        refine ⟨k1, .inr ?_⟩
        rcases k2 with ⟨k2, _⟩ | ⟨y, k2, k3, k4⟩
        · rw [k2] at hrow; cases hrow
        · rw [k2] at hrow
          simp at hrow
          subst hrow
          have hb' : backN L base y = some x := backN_lt (placeN_some hp)
          refine ⟨x, own_back M k2 hb', ?_, by rw [fill_back k2]; exact k4⟩
          simp only [Gh.back, src_old' hp]; exact k3
    · obtain ⟨q1, q2, q3, q4⟩ := own_old M hb ho hx
      refine ⟨by simp only [World.cell?, q2], .inr ⟨x, q3, ?_, by rw [q4]; exact hi⟩⟩
      simp only [Gh.back, src_old M (M.inv.owner b x ho) hx]; exact hg
  names := fun x hu => by
    by_cases hx : x ∈ L
    · cases hp : placeN x L with
      | none => exact absurd hx (placeN_none.1 hp)
      | some j =>
        obtain ⟨n1, n2, n3, n4, n5, n6⟩ := M.step.names j (placeN_lt hp)
        simp only [Gh.hand, hand_getD hp] at n2 n3 n4 n5 n6
        simp only [Gh.back, src_old' hp, pickN]
        exact ⟨.inl hu, n2, n3, n4, n5, n6⟩
    · simp only [Gh.back, src_old M hu hx, pickN]
      exact ⟨.inl hu, trivial, trivial, trivial, Nat.le_refl _, fun _ => trivial⟩
  rows := fun b x ho hu hg => by
    have hb := lt_of_own M.inv ho
    by_cases hx : x ∈ L
    · cases hp : placeN x L with
      | none => exact absurd hx (placeN_none.1 hp)
      | some j =>
        have hgj : (g.hand w L).grow j = true := by simp only [Gh.hand]; rw [hand_getD hp]; exact hg
        obtain ⟨r1, r2⟩ := M.step.rows b j (hand_own ho hp) (placeN_lt hp) hgj
        have hb' : backN L base j = some x := backN_lt (placeN_some hp)
        refine ⟨own_back M r1 hb', fun hv => ?_⟩
        rw [fill_back r1]
        simp only [Gh.back, src_old' hp, pickN] at hv
        exact r2 (by simp only [Gh.hand]; rw [hand_getD hp]; exact hv)
    · obtain ⟨q1, q2, q3, q4⟩ := own_old M hb ho hx
      exact ⟨q3, fun _ => q4⟩
  own := fun b x hb ho hu => by
    by_cases hx : x ∈ L
    · cases hp : placeN x L with
      | none => exact absurd hx (placeN_none.1 hp)
      | some j =>
        rcases M.step.own b j hb (hand_own ho hp) (placeN_lt hp) with h | h
        · exact .inl (own_back M h (backN_lt (placeN_some hp)))
        · exact .inr (by simp only [Gh.back, h, ho, hp])
    · exact .inl (own_old M hb ho hx).2.2.1

theorem lookB_mem {x : Nat} {b : Box} : ∀ {u : Upd}, lookB x u = some b → x ∈ u.map (·.1)
  | [], h => by simp [lookB] at h
  | (y, c) :: u, h => by
    simp only [lookB] at h
    cases hb : Nat.beq y x with
    | true => obtain rfl := Nat.beq_true hb; simp
    | false => simp only [hb, cond_false] at h; simp only [List.map_cons, List.mem_cons]; exact .inr (lookB_mem h)

theorem mem_lookB {x : Nat} : ∀ {u : Upd}, x ∈ u.map (·.1) → ∃ b, lookB x u = some b
  | [], h => by simp at h
  | (y, c) :: u, h => by
    simp only [List.map_cons, List.mem_cons] at h
    simp only [lookB]
    cases hb : Nat.beq y x with
    | true => exact ⟨c, rfl⟩
    | false =>
      rcases h with h | h
      · subst h; simp at hb
      · exact mem_lookB h

theorem lookB_renU {ρ : Nat → Option Nat} : ∀ {u : Upd}, (∀ y y' x, y ∈ u.map (·.1) → y' ∈ u.map (·.1) → ρ y = some x → ρ y' = some x → y = y') → ∀ {x : Nat} {b : Box}, lookB x (renU ρ u) = some b →
    ∃ y b', lookB y u = some b' ∧ ρ y = some x ∧ b = renB ρ b'
  | [], _, x, b, h => by simp [renU, lookB] at h
  | (y, b0) :: u, hinj, x, b, h => by
    have hinj' : ∀ y y' x, y ∈ u.map (·.1) → y' ∈ u.map (·.1) → ρ y = some x → ρ y' = some x → y = y' := fun a b c h1 h2 => hinj a b c (by simp only [List.map_cons, List.mem_cons]; exact .inr h1) (by simp only [List.map_cons, List.mem_cons]; exact .inr h2)
    unfold renU at h
    cases hy : ρ y with
    | none =>
      simp only [hy] at h
      obtain ⟨y', b', h1, h2, h3⟩ := lookB_renU hinj' h
      refine ⟨y', b', ?_, h2, h3⟩
      have hne : Nat.beq y y' = false := by
        cases hb : Nat.beq y y' with
        | false => rfl
        | true => obtain rfl := Nat.beq_true hb; rw [hy] at h2; cases h2
      simp [lookB, hne, h1]
    | some z =>
      simp only [hy, lookB] at h
      cases hb : Nat.beq z x with
      | true =>
        obtain rfl := Nat.beq_true hb
        simp [hb] at h
        exact ⟨y, b0, by simp [lookB, Nat.beq_refl y], hy, h.symm⟩
      | false =>
        simp only [hb, cond_false] at h
        obtain ⟨y', b', h1, h2, h3⟩ := lookB_renU hinj' h
        refine ⟨y', b', ?_, h2, h3⟩
        have hne : Nat.beq y y' = false := by
          cases hbb : Nat.beq y y' with
          | false => rfl
          | true => obtain rfl := Nat.beq_true hbb; rw [hy] at h2; simp at h2; subst h2; simp at hb
        simp [lookB, hne, h1]

theorem mem_renU {ρ : Nat → Option Nat} {y x : Nat} (hy : ρ y = some x) : ∀ {u : Upd}, y ∈ u.map (·.1) → x ∈ (renU ρ u).map (·.1)
  | [], h => by simp at h
  | (z, b) :: u, h => by
    simp only [List.map_cons, List.mem_cons] at h
    unfold renU
    rcases h with h | h
    · subst h; simp [hy]
    · have := mem_renU hy h
      cases hz : ρ z with
      | none => simpa using this
      | some q => simp only [List.map_cons, List.mem_cons]; exact .inr this


theorem back_post {v : AV} {u : Upd} {V : Value} (hinv : Inv g w) (hun : Uniq L) (hused : ∀ x, x ∈ L → g.used x) (hfresh : ∀ x, base ≤ x → x < base + (nx - L.length) → ¬ g.used x)
    (hp : Post L.length nx (g.hand w L) w v u V gc w') :
    Post base (base + (nx - L.length)) g w (renV (backN L base) v) (renU (backN L base) u) V (g.back gc L base nx) w' := by
  have M : Merge g w gc w' L base nx := ⟨hinv, hun, hused, hfresh, hp.step, hp.inv, hp.used⟩
  refine ⟨back_step M, ⟨fun b x ho hx => ?_, fun b x ho hu hx => ?_, fun x hu hx => ?_⟩, back_inv M, back_rel2 M hp.val, fun x b h => ?_, fun x h => ?_⟩
  · have hb := lt_of_own hinv ho
    by_cases hL : x ∈ L
    · cases hpl : placeN x L with
      | none => exact absurd hL (placeN_none.1 hpl)
      | some j =>
        have hb' : backN L base j = some x := backN_lt (placeN_some hpl)
        have hj : j ∉ u.map (·.1) := fun hm => hx (mem_renU hb' hm)
        obtain ⟨o1, o2, o3⟩ := hp.only.blocks b j (hand_own ho hpl) hj
        exact ⟨own_back M o1 hb', o2, by rw [fill_back o1]; exact o3⟩
    · obtain ⟨q1, q2, q3, q4⟩ := own_old M hb ho hL
      exact ⟨q3, q2, q4⟩
  · simp only [Gh.back] at ho
    cases hoc : gc.own b with
    | some y =>
      rw [hoc] at ho
      have hyu := hp.inv.owner b y hoc
      have ho : backN L base y = some x := ho
      have hs := M.src hyu ho
      rcases hp.used y hyu with hy | ⟨hy, hn⟩
      · have hb' : backN L base y = some x := ho
        have hyu' : y ∉ u.map (·.1) := fun hm => hx (mem_renU hb' hm)
        have := hp.only.owners b y hoc hy hyu'
        obtain ⟨z, hz, hpz⟩ := hand_own_inv this
        have h1 := placeN_some hpz
        rw [backN_lt h1] at hb'
        simp at hb'
        subst hb'
        exact hz
      · rw [backN_ge hy] at ho
        simp at ho
        subst ho
        exact absurd hu (hfresh _ (by omega) (by omega))
    | none =>
      rw [hoc] at ho
      cases hog : g.own b with
      | none => simp [hog] at ho
      | some z =>
        rw [hog] at ho
        cases hpz : placeN z L with
        | some j => simp [hpz] at ho
        | none => simp [hpz] at ho; rw [ho]
  · by_cases hL : x ∈ L
    · cases hpl : placeN x L with
      | none => exact absurd hL (placeN_none.1 hpl)
      | some j =>
        have hb' : backN L base j = some x := backN_lt (placeN_some hpl)
        have hj : j ∉ u.map (·.1) := fun hm => hx (mem_renU hb' hm)
        obtain ⟨v1, v2⟩ := hp.only.vers j (placeN_lt hpl) hj
        simp only [Gh.hand, hand_getD hpl] at v1 v2
        simp only [Gh.back, src_old' hpl, pickN]
        exact ⟨v1, v2⟩
    · simp only [Gh.back, src_old M hu hL, pickN]
      exact ⟨trivial, trivial⟩
  · obtain ⟨y, b', h1, h2, rfl⟩ := lookB_renU (fun y y' x hy hy' h h' => by
      obtain ⟨b1, hb1⟩ := mem_lookB hy
      obtain ⟨b2, hb2⟩ := mem_lookB hy'
      have u1 : gc.used y := by have := hp.boxes y b1 hb1; cases b1 <;> exact this.1
      have u2 : gc.used y' := by have := hp.boxes y' b2 hb2; cases b2 <;> exact this.1
      have e1 := M.src u1 h
      have e2 := M.src u2 h'
      rw [e1] at e2
      simpa using e2) h
    exact back_relB M (hp.boxes y b' h1) h2
  · rcases h with h | ⟨h1, h2, h3⟩
    · exact .inl h
    · exact .inr ⟨h1, h2⟩

end back

/-! ### what is reached -/
theorem memN_iff {x : Nat} : ∀ {L : List Nat}, memN x L = true ↔ x ∈ L
  | [] => by simp [memN]
  | y :: l => by
    unfold memN
    cases hb : Nat.beq x y with
    | true => obtain rfl := Nat.beq_true hb; simp
    | false =>
      have hne : x ≠ y := fun h => by subst h; simp at hb
      simp only [cond_false, List.mem_cons, hne, false_or]
      exact memN_iff

theorem reach_spec (s : Sto) : ∀ (n : Nat) (todo acc : List Nat), Uniq acc → (∀ x, x ∈ acc → ∃ b, lookB x s = some b) →
    Uniq (reach s n todo acc) ∧ (∀ x, x ∈ reach s n todo acc → ∃ b, lookB x s = some b)
  | 0, _, acc, h1, h2 => ⟨h1, h2⟩
  | n + 1, [], acc, h1, h2 => ⟨h1, h2⟩
  | n + 1, x :: todo, acc, h1, h2 => by
    unfold reach
    cases hm : memN x acc with
    | true => exact reach_spec s n todo acc h1 h2
    | false =>
      simp only [cond_false]
      cases hl : lookB x s with
      | none => exact reach_spec s n todo acc h1 h2
      | some b =>
        have hx : x ∉ acc := fun h => by rw [memN_iff.2 h] at hm; cases hm
        exact reach_spec s n _ (x :: acc) (h1.cons hx) (fun y hy => by
          simp only [List.mem_cons] at hy
          rcases hy with rfl | hy
          · exact ⟨b, hl⟩
          · exact h2 y hy)

theorem reached_uniq (s : Sto) (vs : List AV) : Uniq (reached s vs) := (reach_spec s _ _ [] Uniq.nil (fun x h => by simp at h)).1
theorem reached_found {s : Sto} {vs : List AV} {x : Nat} (h : x ∈ reached s vs) : ∃ b, lookB x s = some b := (reach_spec s _ _ [] Uniq.nil (fun x h => by simp at h)).2 x h

theorem handed_spec {s : Sto} {ρ : Nat → Option Nat} : ∀ (L : List Nat) (k : Nat), (∀ x, x ∈ L → ∃ b, lookB x s = some b) → ∀ i b, lookB i (handed s ρ k L) = some b →
    ∃ x b', L[i - k]? = some x ∧ k ≤ i ∧ lookB x s = some b' ∧ b = renB ρ b'
  | [], k, _, i, b, h => by simp [handed, lookB] at h
  | x :: L, k, hf, i, b, h => by
    obtain ⟨b0, hb0⟩ := hf x (by simp)
    unfold handed at h
    simp only [hb0, lookB] at h
    cases hb : Nat.beq k i with
    | true =>
      obtain rfl := Nat.beq_true hb
      simp [hb] at h
      exact ⟨x, b0, by simp, Nat.le_refl _, hb0, h.symm⟩
    | false =>
      simp only [hb, cond_false] at h
      obtain ⟨y, b', h1, h2, h3, h4⟩ := handed_spec L (k + 1) (fun z hz => hf z (by simp [hz])) i b h
      refine ⟨y, b', ?_, by omega, h3, h4⟩
      rw [show i - k = (i - (k + 1)) + 1 by omega]
      simpa using h1

/-- what a function that is called by its boxes must keep to -/
def RawOK (P : Program) (f : Nat) (as : List AV) (s : Sto) (m : Nat) (v : AV) (u : Upd) (nx : Nat) : Prop :=
  ∀ (g : Gh) (w : World) (AS : List Value), AllR (Rel2 g w) as AS → (∀ x b, lookB x s = some b → RelB g w x b) → Inv g w → (∀ x, g.used x ↔ x < m) → g.lo = m →
    Calls P f AS.toArray w fun e w' => ∃ V g', e = .returned V ∧ Post m nx g w v u V g' w'

theorem raw_ok {P : Program} {f : Nat} {as : List AV} {s : Sto} {base nx : Nat} {v : AV} {u : Upd} {g : Gh} {w : World} {AS : List Value}
    (h : RawOK P f (as.map (renV fun x => placeN x (reached s as))) (handed s (fun x => placeN x (reached s as)) 0 (reached s as)) (reached s as).length v u nx)
    (ha : AllR (Rel2 g w) as AS) (hb : ∀ x, x ∈ reached s as → ∀ b, lookB x s = some b → RelB g w x b) (hi : Inv g w)
    (hfresh : ∀ x, base ≤ x → x < base + (nx - (reached s as).length) → ¬ g.used x) :
    Calls P f AS.toArray w fun e w' => ∃ V g', e = .returned V ∧
      Post base (base + (nx - (reached s as).length)) g w (renV (backN (reached s as) base) v) (renU (backN (reached s as) base) u) V g' w' := by
  have hused : ∀ x, x ∈ reached s as → g.used x := fun x hx => by
    obtain ⟨b, hbx⟩ := reached_found hx
    have := hb x hx b hbx
    cases b <;> exact this.1
  refine (h (g.hand w (reached s as)) w AS (ha.mapL fun _ _ => hand_rel2) (fun i b hib => ?_) (hand_inv hi) (fun x => Iff.rfl) rfl).mono ?_
  · obtain ⟨x, b', h1, h2, h3, rfl⟩ := handed_spec (reached s as) 0 (fun x hx => reached_found hx) i b hib
    have hx : x ∈ reached s as := List.mem_of_getElem? h1
    exact hand_relB (hb x hx b' h3) (reached_uniq s as i x (by simpa using h1))
  · rintro e w' ⟨V, gc, rfl, hp⟩
    exact ⟨V, _, rfl, back_post hi (reached_uniq s as) hused hfresh hp⟩

end Am
end Go.Proofs.Ytooiechjanmdjaa
