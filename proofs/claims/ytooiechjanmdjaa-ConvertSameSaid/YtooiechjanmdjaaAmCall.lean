/- The mirror machine: the names of a caller and those of a call. -/
import Derived.Test.YtooiechjanmdjaaAmGrow
namespace Go.Proofs.Ytooiechjanmdjaa
namespace Am
set_option linter.unusedVariables false
set_option linter.unusedSimpArgs false

theorem placeN_some {x : Nat} : ∀ {L : List Nat} {i : Nat}, placeN x L = some i → L[i]? = some x
  | [], i, h => by simp [placeN] at h
  | y :: l, i, h => by
    unfold placeN at h
    cases hb : Nat.beq x y with
    | true => obtain rfl := Nat.beq_true hb; simp [hb] at h; subst h; simp
    | false =>
      simp only [hb, cond_false] at h
      cases hp : placeN x l with
      | none => simp [hp] at h
      | some j => simp [hp] at h; subst h; simpa using placeN_some hp

theorem placeN_lt {x : Nat} {L : List Nat} {i : Nat} (h : placeN x L = some i) : i < L.length := by
  have := placeN_some h
  rcases Nat.lt_or_ge i L.length with h' | h'
  · exact h'
  · simp [List.getElem?_eq_none h'] at this

theorem placeN_none {x : Nat} : ∀ {L : List Nat}, placeN x L = none ↔ x ∉ L
  | [] => by simp [placeN]
  | y :: l => by
    unfold placeN
    cases hb : Nat.beq x y with
    | true => obtain rfl := Nat.beq_true hb; simp
    | false =>
      have hne : x ≠ y := fun h => by subst h; simp at hb
      simp only [cond_false, Option.map_eq_none_iff, List.mem_cons, hne, false_or]
      exact placeN_none

/-- no name stands twice -/
def Uniq (L : List Nat) : Prop := ∀ i x, L[i]? = some x → placeN x L = some i

theorem Uniq.nil : Uniq [] := by intro i x h; simp at h
theorem Uniq.cons {x : Nat} {L : List Nat} (h : Uniq L) (hx : x ∉ L) : Uniq (x :: L) := by
  intro i y hy
  cases i with
  | zero => simp at hy; subst hy; simp [placeN]
  | succ i =>
    simp at hy
    have hne : y ≠ x := fun he => by subst he; exact hx (List.mem_of_getElem? hy)
    have hb : Nat.beq y x = false := by
      cases hb : Nat.beq y x with
      | false => rfl
      | true => exact absurd (Nat.beq_true hb) hne
    simp [placeN, hb, h i y hy]

/-- the names of a call: those of the caller that it is handed, told by their places -/
def Gh.hand (g : Gh) (w : World) (L : List Nat) : Gh where
  S := Safe g w
  s0 := w.heap.size
  lo := L.length
  used := fun i => i < L.length
  bk := fun i => g.bk (L.getD i 0)
  own := fun b => (g.own b).bind fun x => placeN x L
  fill := g.fill
  grow := fun i => g.grow (L.getD i 0)
  ver := fun i => g.ver (L.getD i 0)
  cnt := fun i => g.cnt (L.getD i 0)
  sz := fun i => g.sz (L.getD i 0)

section hand
variable {g : Gh} {w : World} {L : List Nat}

theorem hand_getD {x i : Nat} (h : placeN x L = some i) : L.getD i 0 = x := by
  rw [List.getD_eq_getElem?_getD, placeN_some h]; rfl

theorem hand_own {b x i : Nat} (ho : g.own b = some x) (hp : placeN x L = some i) : (g.hand w L).own b = some i := by
  simp [Gh.hand, ho, hp]

theorem hand_own_inv {b i : Nat} (h : (g.hand w L).own b = some i) : ∃ x, g.own b = some x ∧ placeN x L = some i := by
  simp only [Gh.hand] at h
  cases ho : g.own b with
  | none => simp [ho] at h
  | some x => simp [ho] at h; exact ⟨x, rfl, h⟩

theorem hand_safe {b i : Nat} (h : Safe g w b i) : Safe (g.hand w L) w b i := by
  refine ⟨h.1, ?_⟩
  cases ho : (g.hand w L).own b with
  | none => exact .inl ⟨rfl, .inl h⟩
  | some j =>
    obtain ⟨x, hx, hp⟩ := hand_own_inv ho
    rcases h.2 with ⟨h0, _⟩ | ⟨y, hy, hg, hi⟩
    · rw [h0] at hx; cases hx
    · rw [hy] at hx
      simp at hx
      subst hx
      exact .inr ⟨j, rfl, by simp only [Gh.hand]; rw [hand_getD hp]; exact hg, hi⟩

theorem hand_relP {v : AV} {V : Value} (h : RelP (Safe g w) w v V) : RelP (Safe (g.hand w L) w) w v V := h.mono fun _ _ hs => ⟨hand_safe hs, rfl⟩

theorem hand_ptrR {v : AV} {V : Value} (hk : okP (fun x => placeN x L) v = true) (h : PtrR g w v V) : PtrR (g.hand w L) w (renP (fun x => placeN x L) v) V := by
  cases v <;> first | exact h.elim | skip
  case ptr x off s =>
    cases hp : placeN x L with
    | none => simp [okP, hp] at hk
    | some i =>
      obtain ⟨h1, h2, h3, h4⟩ := h
      simp only [renP, hp, PtrR]
      refine ⟨placeN_lt hp, ?_, ?_, ?_⟩
      · simp only [Gh.hand]; rw [hand_getD hp]; exact h2
      · simp only [Gh.hand]; rw [hand_getD hp]; exact h3
      · simp only [Gh.hand]; rw [hand_getD hp]; exact h4
theorem AllR.mapP {r r' : AV → Value → Prop} {f : AV → AV} {l : List AV} {V : List Value} (h : AllR r l V) (hf : ∀ v V, v ∈ l → r v V → r' (f v) V) : AllR r' (l.map f) V := by
  induction h with
  | nil => exact .nil
  | cons a _ ih => exact .cons (hf _ _ (by simp) a) (ih fun v V hm => hf v V (by simp [hm]))
theorem hand_rel0 {v : AV} {V : Value} (h : Rel0 g w v V) : Rel0 (g.hand w L) w (ren0 (fun x => placeN x L) v) V := by
  cases v <;> simp only [ren0] <;> first
    | trivial
    | exact hand_relP h
    | skip
  case ptr x off s =>
    cases hp : placeN x L with
    | none => trivial
    | some i =>
      obtain ⟨h1, h2, h3, h4⟩ := h
      simp only [Rel0]
      refine ⟨placeN_lt hp, ?_, ?_, ?_⟩
      · simp only [Gh.hand]; rw [hand_getD hp]; exact h2
      · simp only [Gh.hand]; rw [hand_getD hp]; exact h3
      · simp only [Gh.hand]; rw [hand_getD hp]; exact h4
  case sl x sz off n =>
    cases hp : placeN x L with
    | none => trivial
    | some i =>
      obtain ⟨h1, h2, h3, h4⟩ := h
      simp only [Rel0]
      refine ⟨placeN_lt hp, ?_, ?_, ?_⟩
      · simp only [Gh.hand]; rw [hand_getD hp]; exact h2
      · simp only [Gh.hand]; rw [hand_getD hp]; exact h3
      · simp only [Gh.hand]; rw [hand_getD hp]; exact h4
  case gsl x ver =>
    cases hp : placeN x L with
    | none => trivial
    | some i =>
      obtain ⟨h1, h2, h3, h4, h5⟩ := h
      simp only [Rel0]
      refine ⟨placeN_lt hp, ?_, ?_, h4, ?_⟩
      · simp only [Gh.hand]; rw [hand_getD hp]; exact h2
      · simp only [Gh.hand]; rw [hand_getD hp]; exact h3
      · intro hv
        have hv' : g.ver x = ver := by simp only [Gh.hand] at hv; rwa [hand_getD hp] at hv
        obtain ⟨a, cap, r1, r2, r3⟩ := h5 hv'
        have e1 : (g.hand w L).cnt i = g.cnt x := by simp only [Gh.hand]; rw [hand_getD hp]
        have e2 : (g.hand w L).sz i = g.sz x := by simp only [Gh.hand]; rw [hand_getD hp]
        rw [e1, e2]
        refine ⟨a, cap, r1, r2, fun hc => ?_⟩
        obtain ⟨B, C, e, q1, q2, q3, q4, q5⟩ := r3 hc
        exact ⟨B, C, e, q1, hand_own q2 hp, q3, q4, q5⟩
  case ri k l i =>
    obtain ⟨h1, b, o, h2, h3⟩ := h
    exact ⟨h1, b, o, h2, fun j hj => ⟨hand_safe (h3 j hj).1, (h3 j hj).2⟩⟩
  case rc l i s =>
    obtain ⟨h1, b, o, us, h2, h3, h4⟩ := h
    exact ⟨h1, b, o, us, h2, h3, fun j hj => ⟨hand_safe (h4 j hj).1, (h4 j hj).2.1, hand_relP (h4 j hj).2.2⟩⟩
  case rr k rs i =>
    obtain ⟨h1, b, o, us, h2, h4⟩ := h
    exact ⟨h1, b, o, us, h2, fun j hj => ⟨hand_safe (h4 j hj).1, (h4 j hj).2.1, hand_relP (h4 j hj).2.2⟩⟩
  case func f a b =>
    cases hk : (a ++ b).all (okP fun x => placeN x L) with
    | false => trivial
    | true =>
      obtain ⟨A, B, rfl, ha, hb⟩ := h
      have hall := List.all_eq_true.1 hk
      exact ⟨A, B, rfl, ha.mapP fun v V hm hv => hand_ptrR (hall v (by simp [hm])) hv, hb.mapP fun v V hm hv => hand_ptrR (hall v (by simp [hm])) hv⟩
  all_goals exact h

theorem AllR.mapL {r r' : AV → Value → Prop} {f : AV → AV} {l : List AV} {V : List Value} (h : AllR r l V) (hf : ∀ v V, r v V → r' (f v) V) : AllR r' (l.map f) V := by
  induction h with
  | nil => exact .nil
  | cons a _ ih => exact .cons (hf _ _ a) ih

theorem hand_rel1 {v : AV} {V : Value} (h : Rel1 g w v V) : Rel1 (g.hand w L) w (ren1 (fun x => placeN x L) v) V := by
  cases v
  case agg vs => obtain ⟨us, rfl, ha⟩ := h; exact ⟨us, rfl, ha.mapL fun _ _ => hand_rel0⟩
  case func f a b => obtain ⟨A, B, rfl, ha, hb⟩ := h; exact ⟨A, B, rfl, ha.mapL fun _ _ => hand_rel0, hb.mapL fun _ _ => hand_rel0⟩
  all_goals
    simp only [Rel1] at h
    have h0 := hand_rel0 (w := w) (L := L) h
    simp only [ren1, ren0] at h0 ⊢
    first
      | exact h0
      | (split <;> simp_all [Rel1])

theorem Rel0.to1 {v : AV} {V : Value} (h : Rel0 g w v V) : Rel1 g w v V := by
  cases v
  case func f a b =>
    obtain ⟨A, B, hV, ha, hb⟩ := h
    exact ⟨A, B, hV, ha.mono fun _ _ h => h.rel0, hb.mono fun _ _ h => h.rel0⟩
  all_goals first | exact h | exact h.elim

theorem hand_rel2 {v : AV} {V : Value} (h : Rel2 g w v V) : Rel2 (g.hand w L) w (renV (fun x => placeN x L) v) V := by
  cases v
  case tuple vs => obtain ⟨us, rfl, ha⟩ := h; exact ⟨us, rfl, ha.mapL fun _ _ => hand_rel1⟩
  all_goals
    simp only [Rel2] at h
    have h0 := hand_rel1 (w := w) (L := L) h
    simp only [renV] at h0 ⊢
    exact h0.to2

theorem hand_inv (hi : Inv g w) : Inv (g.hand w L) w where
  s0 := Nat.le_refl _
  fresh := fun b hb => by simp [Gh.hand, hi.fresh b hb]
  owner := fun b i h => by obtain ⟨x, _, hp⟩ := hand_own_inv h; exact placeN_lt hp
  loc := fun b i h hi => by
    obtain ⟨x, _, hp⟩ := hand_own_inv h
    have h1 : L.length ≤ i := hi
    have := placeN_lt hp
    omega

theorem renC_size (ρ : Nat → Option Nat) (c : Ct) : (renC ρ c).size = c.size := by
  cases c with
  | tab x n k => cases h : ρ x <;> simp [renC, h, Ct.size]
  | _ => simp [renC, Ct.size]
theorem renC_count (ρ : Nat → Option Nat) (c : Ct) (z : Nat) : (renC ρ c).count z = c.count z := by
  cases c with
  | tab x n k => cases h : ρ x <;> simp [renC, h, Ct.count]
  | _ => simp [renC, Ct.count]
theorem renC_get (ρ : Nat → Option Nat) (c : Ct) (i : Nat) : (renC ρ c).get i = ren0 ρ (c.get i) := by
  cases c with
  | ints k l => rfl
  | cells l =>
    simp only [renC, Ct.get, List.getD_eq_getElem?_getD, List.getElem?_map]
    cases l[i]? <;> rfl
  | blks k P =>
    simp only [renC, Ct.get]
    rcases recB_is k P (i / 2) (i % 2) with ⟨n, e⟩ | ⟨l, e⟩ | e <;> rw [e] <;> rfl
  | tab x n k =>
    cases h : ρ x with
    | some y => simp [renC, h, Ct.get, ren0]
    | none =>
      simp only [renC, h, Ct.get, ren0, List.getD_eq_getElem?_getD, List.getElem?_replicate]
      split <;> rfl

theorem ren0_plain {ρ : Nat → Option Nat} {S : Nat → Nat → Prop} {v : AV} {V : Value} (h : RelP S w v V) : ren0 ρ v = v := by cases h <;> rfl

theorem hand_relB {x i : Nat} {b : Box} (h : RelB g w x b) (hp : placeN x L = some i) : RelB (g.hand w L) w i (renB (fun x => placeN x L) b) := by
  have row : ∀ c, RowR g w (g.bk x) c → RowR (g.hand w L) w (g.bk x) (renC (fun x => placeN x L) c) := by
    intro c ⟨C, e, h1, h2, h3⟩
    exact ⟨C, e, h1, by rw [renC_size]; exact h2, fun j hj => by rw [renC_get]; rw [renC_size] at hj; exact hand_rel0 (h3 j hj)⟩
  have hbk : (g.hand w L).bk i = g.bk x := by simp only [Gh.hand]; rw [hand_getD hp]
  have hgr : (g.hand w L).grow i = g.grow x := by simp only [Gh.hand]; rw [hand_getD hp]
  cases b with
  | fix c =>
    obtain ⟨h1, h2, h3, h4⟩ := h
    exact ⟨placeN_lt hp, hgr.trans h2, by rw [hbk]; exact hand_own h3 hp, by rw [hbk]; exact row c h4⟩
  | ro c =>
    obtain ⟨h1, h2, h3, h5⟩ := h
    refine ⟨placeN_lt hp, hgr.trans h2, fun j hj => ?_, ?_⟩
    · rw [hbk]; rw [renC_size] at hj; exact hand_safe (h3 j hj)
    · rw [hbk]; exact row c h5
  | grow sz ver c =>
    obtain ⟨h1, h2, h3, h4, h5, h6, h7, h8⟩ := h
    refine ⟨placeN_lt hp, hgr.trans h2, ?_, ?_, ?_, ?_, h7, fun b hb => ?_⟩
    · simp only [Gh.hand]; rw [hand_getD hp]; exact h3
    · simp only [Gh.hand]; rw [hand_getD hp]; exact h4
    · simp only [Gh.hand]; rw [hand_getD hp, renC_count]; exact h5
    · rw [renC_size, renC_count]; exact h6
    · obtain ⟨y, hy, hpy⟩ := hand_own_inv hb
      have : y = x := by rw [← hand_getD hp, ← hand_getD hpy]
      subst this
      obtain ⟨C, e, q1, q2, q3, q4⟩ := h8 b hy
      refine ⟨C, e, q1, by rw [renC_size]; exact q2, q3, fun j hj => ?_⟩
      have := q4 j hj
      rw [renC_get, ren0_plain this]
      exact hand_relP this
end hand

end Am
end Go.Proofs.Ytooiechjanmdjaa
