/- The mirror machine: a function's whole code. -/
import Derived.Test.YtooiechjanmdjaaAmOrder
import Derived.LoopN
namespace Go.Proofs.Ytooiechjanmdjaa
namespace Am
set_option linter.unusedVariables false
set_option linter.unusedSimpArgs false

/-- of the names from lo on only some are kept; their rows are counted anew -/
def Gh.keep (g : Gh) (lo : Nat) (names : List Nat) : Gh :=
  { g with
    used := fun x => g.used x ∧ (x < lo ∨ x ∈ names)
    own := fun b => match g.own b with
      | some x => bif !Nat.ble lo x || memN x names then some x else none
      | none => none
    ver := fun x => bif Nat.ble lo x then 0 else g.ver x }

theorem kept_iff {lo x : Nat} {names : List Nat} : (!Nat.ble lo x || memN x names) = true ↔ x < lo ∨ x ∈ names := by
  rw [Bool.or_eq_true, memN_iff, Bool.not_eq_true']
  constructor
  · rintro (h | h)
    · refine .inl ?_
      rcases Nat.lt_or_ge x lo with h' | h'
      · exact h'
      · rw [Nat.ble_eq_true_of_le h'] at h; cases h
    · exact .inr h
  · rintro (h | h)
    · refine .inl ?_
      cases hb : Nat.ble lo x with
      | false => rfl
      | true => have := Nat.le_of_ble_eq_true hb; omega
    · exact .inr h

theorem ble_false {lo x : Nat} (h : x < lo) : Nat.ble lo x = false := by
  cases hb : Nat.ble lo x with
  | false => rfl
  | true => have := Nat.le_of_ble_eq_true hb; omega
theorem ble_false_iff {lo x : Nat} : Nat.ble lo x = false ↔ x < lo := by
  refine ⟨fun h => ?_, ble_false⟩
  rcases Nat.lt_or_ge x lo with h' | h'
  · exact h'
  · rw [Nat.ble_eq_true_of_le h'] at h; cases h

section keep
variable {g : Gh} {w : World} {lo : Nat} {names : List Nat} {s : Sto}

theorem keep_own {b x : Nat} (h : g.own b = some x) (hk : x < lo ∨ x ∈ names) : (g.keep lo names).own b = some x := by
  simp only [Gh.keep, h, kept_iff.2 hk, cond_true]
theorem keep_own_inv {b x : Nat} (h : (g.keep lo names).own b = some x) : g.own b = some x ∧ (x < lo ∨ x ∈ names) := by
  simp only [Gh.keep] at h
  split at h
  · rename_i y hy
    cases hk : (!Nat.ble lo y || memN y names) with
    | false => simp [hk] at h
    | true => simp only [hk, cond_true, Option.some.injEq] at h; subst h; exact ⟨hy, kept_iff.1 hk⟩
  · cases h
theorem keep_own_none {b : Nat} (h : g.own b = none) : (g.keep lo names).own b = none := by simp only [Gh.keep, h]

theorem keep_ext (hi : Inv g w) (hlo : g.lo = lo) (hN : ∀ x, x < lo → g.used x) : Ext (fun x => x < lo) g w (g.keep lo names) w where
  S := rfl
  s0 := rfl
  lo := rfl
  size := Nat.le_refl _
  os := rfl
  out := rfl
  shape := fun b C e fr h => ⟨C, h, rfl⟩
  free := fun b _ h => ⟨keep_own_none h, rfl⟩
  keep := fun b x i _ h1 h2 h3 => ⟨rfl, by
    by_cases hk : x < lo ∨ x ∈ names
    · exact .inr ⟨x, keep_own h1 hk, h2, h3⟩
    · refine .inl ⟨?_, .inr (hi.loc b x h1 (by omega))⟩
      have : (!Nat.ble lo x || memN x names) = false := by
        cases hb : (!Nat.ble lo x || memN x names) with
        | false => rfl
        | true => exact absurd (kept_iff.1 hb) hk
      simp only [Gh.keep, h1, this, cond_false]⟩
  names := fun x hx => ⟨⟨hN x hx, .inl hx⟩, rfl, rfl, rfl, by simp [Gh.keep, ble_false hx], fun _ => rfl⟩
  rows := fun b x h hx _ => ⟨keep_own h (.inl hx), fun _ => rfl⟩
  own := fun b x _ h hx => .inl (keep_own h (.inl hx))

theorem keep_inv (hi : Inv g w) : Inv (g.keep lo names) w where
  s0 := hi.s0
  fresh := fun b h => keep_own_none (hi.fresh b h)
  owner := fun b x h => by obtain ⟨h1, h2⟩ := keep_own_inv h; exact ⟨hi.owner b x h1, h2⟩
  loc := fun b x h h' => hi.loc b x (keep_own_inv h).1 h'

variable (hi : Inv g w) (hlo : g.lo = lo) (hN : ∀ x, x < lo → g.used x) (hs : ∀ x b, lookB x s = some b → RelB g w x b)
include hi hlo hN hs

theorem keep_rel0 {v : AV} {V : Value} (hv : Rel0 g w v V) (hr : ∀ x, x ∈ (norm0 s lo v).refs0 → x < lo ∨ x ∈ names) : Rel0 (g.keep lo names) w (norm0 s lo v) V := by
  have hE := keep_ext (names := names) hi hlo hN
  cases v
  case gsl x ver =>
    simp only [norm0] at hr ⊢
    cases hle : Nat.ble lo x with
    | false =>
      simp only [hle, cond_false] at hr ⊢
      exact hE.rel0 (fun y hy => by simp [AV.refs0] at hy; subst hy; exact ble_false_iff.1 hle) hv
    | true =>
      simp only [hle, cond_true] at hr ⊢
      split at hr
      · rename_i sz v c hx
        cases hv' : Nat.beq v ver with
        | false => simp; trivial
        | true =>
          obtain rfl := Nat.beq_true hv'
          simp only [hv', cond_true] at hr ⊢
          obtain ⟨_, _, hver, _⟩ := hs x _ hx
          obtain ⟨h1, h2, h3, h4, h5⟩ := hv
          obtain ⟨A, cap, hV, hcap, hA⟩ := h5 hver
          have hxn := hr x (by simp [AV.refs0])
          refine ⟨⟨h1, hxn⟩, h2, Nat.zero_le _, h4, fun _ => ⟨A, cap, hV, hcap, fun hp => ?_⟩⟩
          obtain ⟨B, C, e', hA', ho, hf, hb, hsz⟩ := hA hp
          exact ⟨B, C, e', hA', keep_own ho hxn, hf, hb, hsz⟩
      · trivial
  case ptr x off n =>
    obtain ⟨h1, h2, h3, h4⟩ := hv
    exact ⟨⟨h1, hr x (by simp [norm0, AV.refs0])⟩, h2, h3, h4⟩
  case sl x sz off n =>
    obtain ⟨h1, h2, h3, h4⟩ := hv
    exact ⟨⟨h1, hr x (by simp [norm0, AV.refs0])⟩, h2, h3, h4⟩
  case func f a b =>
    obtain ⟨A, B, rfl, ha, hb⟩ := hv
    have hp : ∀ v V, v ∈ a ++ b → PtrR g w v V → PtrR (g.keep lo names) w v V := fun v V hm h => by
      cases v <;> first | exact h.elim | skip
      case ptr x off n =>
        obtain ⟨h1, h2, h3, h4⟩ := h
        exact ⟨⟨h1, hr x (by simp only [norm0, AV.refs0, List.mem_flatMap]; exact ⟨_, hm, by simp [AV.refsP]⟩)⟩, h2, h3, h4⟩
    exact ⟨A, B, rfl, ha.mono' fun v V hm => hp v V (by simp [hm]), hb.mono' fun v V hm => hp v V (by simp [hm])⟩
  all_goals (simp only [norm0]; exact hE.rel0 (fun y hy => by simp [AV.refs0] at hy) hv)

theorem keep_allR0 {l : List AV} {L : List Value} (hv : AllR (Rel0 g w) l L) (hr : ∀ x, x ∈ (l.map (norm0 s lo)).flatMap AV.refs0 → x < lo ∨ x ∈ names) : AllR (Rel0 (g.keep lo names) w) (l.map (norm0 s lo)) L := by
  induction hv with
  | nil => exact .nil
  | cons h _ ih =>
    refine .cons (keep_rel0 hi hlo hN hs h fun x hx => hr x ?_) (ih fun x hx => hr x ?_)
    · simp only [List.map_cons, List.flatMap_cons, List.mem_append]; exact .inl hx
    · simp only [List.map_cons, List.flatMap_cons, List.mem_append]; exact .inr hx

theorem keep_rel1 {v : AV} {V : Value} (hv : Rel1 g w v V) (hr : ∀ x, x ∈ (norm1 s lo v).refs1 → x < lo ∨ x ∈ names) : Rel1 (g.keep lo names) w (norm1 s lo v) V := by
  have refs1_of0 : ∀ v : AV, (∃ vs, v = .agg vs) ∨ (∃ f a b, v = .func f a b) ∨ (norm1 s lo v = norm0 s lo v ∧ (norm0 s lo v).refs1 = (norm0 s lo v).refs0 ∧ (Rel1 g w v V → Rel0 g w v V)) := by
    intro v
    cases v
    case agg vs => exact .inl ⟨_, rfl⟩
    case func f a b => exact .inr (.inl ⟨_, _, _, rfl⟩)
    case gsl x ver =>
      refine .inr (.inr ⟨rfl, ?_, fun h => h⟩)
      simp only [norm0]
      cases Nat.ble lo x with
      | false => rfl
      | true =>
        simp only [cond_true]
        split
        · rename_i sz v c _
          cases Nat.beq v ver <;> rfl
        · rfl
    all_goals exact .inr (.inr ⟨rfl, rfl, fun h => h⟩)
  rcases refs1_of0 v with ⟨vs, rfl⟩ | ⟨f, a, b, rfl⟩ | ⟨h1, h2, h3⟩
  · obtain ⟨us, rfl, ha⟩ := hv
    exact ⟨us, rfl, keep_allR0 hi hlo hN hs ha hr⟩
  · obtain ⟨A, B, rfl, ha, hb⟩ := hv
    refine ⟨A, B, rfl, keep_allR0 hi hlo hN hs ha fun x hx => hr x ?_, keep_allR0 hi hlo hN hs hb fun x hx => hr x ?_⟩
    · simp only [norm1, AV.refs1, List.flatMap_append, List.mem_append]; exact .inl hx
    · simp only [norm1, AV.refs1, List.flatMap_append, List.mem_append]; exact .inr hx
  · rw [h1] at hr ⊢
    rw [h2] at hr
    have := keep_rel0 (names := names) hi hlo hN hs (h3 hv) hr
    exact this.to1

theorem keep_allR1 {l : List AV} {L : List Value} (hv : AllR (Rel1 g w) l L) (hr : ∀ x, x ∈ (l.map (norm1 s lo)).flatMap AV.refs1 → x < lo ∨ x ∈ names) : AllR (Rel1 (g.keep lo names) w) (l.map (norm1 s lo)) L := by
  induction hv with
  | nil => exact .nil
  | cons h _ ih =>
    refine .cons (keep_rel1 hi hlo hN hs h fun x hx => hr x ?_) (ih fun x hx => hr x ?_)
    · simp only [List.map_cons, List.flatMap_cons, List.mem_append]; exact .inl hx
    · simp only [List.map_cons, List.flatMap_cons, List.mem_append]; exact .inr hx

omit hi hlo hN hs in
theorem norm1_tup {v : AV} (h : v.isTup = false) : normV s lo v = norm1 s lo v ∧ (norm1 s lo v).refs = (norm1 s lo v).refs1 ∧ (norm1 s lo v).isTup = false := by
  cases v
  case tuple vs => cases h
  case gsl x ver =>
    refine ⟨rfl, ?_⟩
    simp only [norm1, norm0]
    cases Nat.ble lo x with
    | false => exact ⟨rfl, rfl⟩
    | true =>
      simp only [cond_true]
      split
      · rename_i sz v c _
        cases Nat.beq v ver <;> exact ⟨rfl, rfl⟩
      · exact ⟨rfl, rfl⟩
  all_goals exact ⟨rfl, rfl, rfl⟩

omit hi hlo hN hs in
theorem Rel1.to2t {v : AV} {V : Value} (h : Rel1 g w v V) : Rel2 g w v V := h.to2
omit hi hlo hN hs in
theorem Rel2.to1 {v : AV} {V : Value} (h : Rel2 g w v V) (ht : v.isTup = false) : Rel1 g w v V := by
  cases v <;> first
    | exact h
    | cases ht

theorem keep_rel2 {v : AV} {V : Value} (hv : Rel2 g w v V) (hr : ∀ x, x ∈ (normV s lo v).refs → x < lo ∨ x ∈ names) : Rel2 (g.keep lo names) w (normV s lo v) V := by
  cases ht : v.isTup with
  | true =>
    cases v <;> try cases ht
    rename_i vs
    obtain ⟨us, rfl, ha⟩ := hv
    exact ⟨us, rfl, keep_allR1 hi hlo hN hs ha hr⟩
  | false =>
    obtain ⟨h1, h2, h3⟩ := norm1_tup (s := s) (lo := lo) ht
    rw [h1] at hr ⊢
    rw [h2] at hr
    exact (keep_rel1 hi hlo hN hs (hv.to1 ht) hr).to2

omit hi hlo hN hs in
theorem normC_size {c : Ct} : (normC s lo c).size = c.size := by
  cases c <;> simp [normC, Ct.size]
omit hi hlo hN hs in
theorem normC_get {c : Ct} {i : Nat} : (normC s lo c).get i = norm0 s lo (c.get i) := by
  cases c with
  | ints k l => rfl
  | tab x n k => rfl
  | blks k P => simp only [normC, Ct.get]; rcases recB_is k P (i / 2) (i % 2) with ⟨n, e⟩ | ⟨l, e⟩ | e <;> rw [e] <;> rfl
  | cells l =>
    simp only [normC, Ct.get, List.getD_eq_getElem?_getD, List.getElem?_map]
    cases l[i]? <;> rfl

theorem keep_row {b : Nat} {c : Ct} (h : RowR g w b c) (hr : ∀ x, x ∈ (Box.fix (normC s lo c)).refs → x < lo ∨ x ∈ names) : RowR (g.keep lo names) w b (normC s lo c) := by
  obtain ⟨C, e, hC, hsz, hc⟩ := h
  refine ⟨C, e, hC, by rw [normC_size]; exact hsz, fun i hi' => ?_⟩
  rw [normC_size] at hi'
  rw [normC_get]
  refine keep_rel0 hi hlo hN hs (hc i hi') fun x hx => hr x ?_
  cases c with
  | ints k l => simp [Ct.get, norm0, AV.refs0] at hx
  | tab x n k => simpa [Ct.get, norm0, normC, AV.refs0, Box.refs, Ct.refs] using hx
  | blks k P => simp only [Ct.get] at hx; rcases recB_is k P (i / 2) (i % 2) with ⟨n, e⟩ | ⟨l, e⟩ | e <;> rw [e] at hx <;> simp [norm0, AV.refs0] at hx
  | cells l =>
    simp only [normC, Box.refs, Ct.refs, List.mem_flatMap]
    simp only [Ct.size] at hi'
    exact ⟨_, List.mem_map_of_mem (List.getElem_mem hi'), by simpa [Ct.get, hi'] using hx⟩

theorem keep_box {x : Nat} {b : Box} (h : RelB g w x b) (hx : x < lo ∨ x ∈ names) (hr : ∀ y, y ∈ (normB s lo x b).refs → y < lo ∨ y ∈ names) : RelB (g.keep lo names) w x (normB s lo x b) := by
  have hE := keep_ext (names := names) hi hlo hN
  cases b with
  | fix c =>
    obtain ⟨h1, h2, h3, h4⟩ := h
    exact ⟨⟨h1, hx⟩, h2, keep_own h3 hx, keep_row hi hlo hN hs h4 hr⟩
  | ro c =>
    obtain ⟨h1, h2, h3, h4⟩ := h
    refine ⟨⟨h1, hx⟩, h2, fun i hi' => (hE.safe (h3 i (by rw [normC_size] at hi'; exact hi'))).1, keep_row hi hlo hN hs h4 fun y hy => hr y ?_⟩
    cases c <;> exact hy
  | grow sz v c =>
    obtain ⟨h1, h2, h3, h4, h5, h6, h7, h8⟩ := h
    refine ⟨⟨h1, hx⟩, h2, ?_, h4, h5, h6, h7, fun b hb => ?_⟩
    · simp only [Gh.keep]
      cases Nat.ble lo x with
      | true => rfl
      | false => exact h3
    · obtain ⟨hb1, hb2⟩ := keep_own_inv hb
      obtain ⟨C, e, a1, a2, a3, a4⟩ := h8 b hb1
      exact ⟨C, e, a1, a2, a3, fun i hi' => hE.relP (a4 i hi')⟩

end keep

theorem lookB_pair {x : Nat} {b : Box} : ∀ {s : Sto}, lookB x s = some b → (x, b) ∈ s
  | [], h => by simp [lookB] at h
  | (y, c) :: s, h => by
    unfold lookB at h
    cases hb : Nat.beq y x with
    | true => obtain rfl := Nat.beq_true hb; simp [hb] at h; subst h; simp
    | false => simp only [hb, cond_false] at h; exact List.mem_cons_of_mem _ (lookB_pair h)

theorem lookB_keepSto {s0 : Sto} {lo x : Nat} {b : Box} : ∀ {s : Sto}, lookB x (keepSto s0 lo s) = some b → ∃ b', lookB x s = some b' ∧ b = normB s0 lo x b'
  | [], h => by simp [keepSto, lookB] at h
  | (y, c) :: s, h => by
    simp only [keepSto, List.map_cons, lookB] at h ⊢
    cases hb : Nat.beq y x with
    | true => obtain rfl := Nat.beq_true hb; simp [hb] at h; exact ⟨c, rfl, h.symm⟩
    | false => simp only [hb, cond_false] at h ⊢; exact lookB_keepSto h

theorem look_pair {d : Nat} : ∀ {e : Env}, look d e = .undef ∨ (d, look d e) ∈ e
  | [] => .inl rfl
  | (k, v) :: e => by
    unfold look
    cases hb : Nat.beq k d with
    | true => obtain rfl := Nat.beq_true hb; simp
    | false =>
      simp only [cond_false]
      rcases look_pair (d := d) (e := e) with h | h
      · exact .inl h
      · exact .inr (List.mem_cons_of_mem _ h)

theorem look_keepEnv {s : Sto} {lo d : Nat} {e : Env} : ∀ {ks : List Nat}, look d (keepEnv s lo e ks) = .undef ∨ look d (keepEnv s lo e ks) = normV s lo (look d e)
  | [] => .inl rfl
  | k :: ks => by
    simp only [keepEnv, look_cons]
    cases hb : Nat.beq k d with
    | true => obtain rfl := Nat.beq_true hb; exact .inr rfl
    | false => simp only [cond_false]; exact look_keepEnv

theorem le_maxN {x : Nat} : ∀ {l : List Nat}, x ∈ l → x ≤ maxN l
  | y :: l, h => by
    simp only [List.mem_cons] at h
    unfold maxN
    cases hb : Nat.ble (maxN l) y with
    | true =>
      have := Nat.le_of_ble_eq_true hb
      simp only [cond_true]
      rcases h with rfl | h
      · exact Nat.le_refl _
      · have := le_maxN h; omega
    | false =>
      simp only [cond_false]
      have := ble_false_iff.1 hb
      rcases h with rfl | h
      · omega
      · exact le_maxN h

theorem restrict_ok {nt lo : Nat} {kp : Option (List Nat)} {st st1 : St} {g : Gh} {a : Act} {w : World} (h : restrict lo kp st = some st1) (hg : Good nt lo st g a w) (hN : ∀ x, x < lo → g.used x) :
    ∃ g1, Good nt lo st1 g1 a w ∧ Ext (fun x => x < lo) g w g1 w := by
  unfold restrict at h
  split at h
  · simp at h; subst h; exact ⟨g, hg, Ext.refl _ _ _ hN⟩
  · rename_i ks
    simp only at h
    generalize hnm : reach st.sto 4096 ((keepEnv st.sto lo st.env ks).flatMap (fun p => p.2.refs) ++ ((st.sto.map (·.1)).filter fun x => !Nat.ble lo x)) [] = names at h
    cases hok : (((keepEnv st.sto lo st.env ks).all fun p => p.2.refs.all fun x => !Nat.ble lo x || memN x names) && ((keepSto st.sto lo (subSto st.sto names)).all fun p => p.2.refs.all fun x => !Nat.ble lo x || memN x names)) with
    | false => rw [hok] at h; simp at h
    | true =>
      rw [hok] at h
      simp only [cond_true, Option.some.injEq] at h
      subst h
      rw [Bool.and_eq_true, List.all_eq_true, List.all_eq_true] at hok
      obtain ⟨he, hs⟩ := hok
      refine ⟨g.keep lo names, ⟨fun d => ?_, fun x b hx => ?_, keep_inv hg.inv, hg.lo, hg.size, hg.defers, fun x hx => ?_⟩, keep_ext hg.inv hg.lo hN⟩
      · simp only
        rcases look_keepEnv (s := st.sto) (lo := lo) (d := d) (e := st.env) (ks := ks) with h0 | h0
        · rw [h0]; exact rel2_undef _
        · rcases look_pair (d := d) (e := keepEnv st.sto lo st.env ks) with h1 | h1
          · rw [h1]; exact rel2_undef _
          · have := he _ h1
            simp only [List.all_eq_true] at this
            rw [h0] at this ⊢
            exact keep_rel2 hg.inv hg.lo hN hg.sto (hg.tmps d) fun x hx => kept_iff.1 (this x hx)
      · simp only at hx
        have hpr := hs _ (lookB_pair hx)
        simp only [List.all_eq_true] at hpr
        obtain ⟨b', hb', rfl⟩ := lookB_keepSto hx
        obtain ⟨h1, h2⟩ := subSto_spec hb'
        exact keep_box hg.inv hg.lo hN hg.sto (hg.sto x b' h2) (.inr h1) fun y hy => kept_iff.1 (hpr y hy)
      · simp only
        rcases hx.2 with h | h
        · exact Nat.lt_of_lt_of_le h (le_maxN (by simp))
        · exact Nat.lt_of_lt_of_le (Nat.lt_succ_self x) (le_maxN (by simp only [List.mem_cons, List.mem_map]; exact .inr ⟨x, h, rfl⟩))

section exec
variable {C : Cfg} {call : CallF} (hC : CfgOK C) (hcall : CallOK C.P call) {f lo nt m : Nat}
include hC hcall

omit hC hcall in
theorem loopsOf_block {id : Nat} {x : Code} {p : Nat × Code} (h : p ∈ loopsOf x) : p ∈ loopsOf (.block id x) := by
  cases x <;> first
    | exact h
    | (simp only [loopsOf, List.mem_cons] at h ⊢; exact .inr h)

omit hC hcall in
theorem knowns_ok {bk : Option Nat} {st : St} {alts : List (Bool × Ex × St)} (h : knowns C f lo bk st = some alts) : ∃ id, bk = some id ∧ C.LL f id lo st = some alts := by
  unfold knowns at h
  split at h
  · cases h
  · rename_i id
    exact ⟨id, rfl, h⟩

omit hC hcall in
theorem known_ok {bk : Option Nat} {st st' : St} {c : Bool} {ex : Ex} (h : known C f lo bk st = some (c, ex, st')) :
    ∃ id, bk = some id ∧ C.L f id lo st = some (c, ex, st') := by
  unfold known at h
  split at h
  · cases h
  · rename_i id
    exact ⟨id, rfl, h⟩

omit hC hcall in
theorem loopK_ok {R : Type} {x : Code} (hx : ∀ (st : St) (K : Kont R) (r : R), execK C f lo nt call m none x st K = some r →
    ∀ (g : Gh) (a : Act) (w : World), Good nt lo st g a w → (∀ x, x < lo → g.used x) → ∀ (Q : Exit → Act → World → Prop),
    (∀ ex st' g' a' w', K ex st' = some r → Good nt lo st' g' a' w' → Ext (fun x => x < lo) g w g' w' → Q ex.to a' w') → x.wp C.P Q a w) (kp : Option (List Nat)) (n : Nat) (st : St) (K : Kont R) (r : R)
    (h : loopK lo kp (execK C f lo nt call m none x) n st K = some r) (g : Gh) (a : Act) (w : World) (hg : Good nt lo st g a w) (hN : ∀ x, x < lo → g.used x) (Q : Exit → Act → World → Prop)
    (hQ : ∀ ex st' g' a' w', K ex st' = some r → Good nt lo st' g' a' w' → Ext (fun x => x < lo) g w g' w' → Q ex.to a' w') : (Code.loop x).wp C.P Q a w := by
  refine wp_loop_rounds n ?_
  have key : ∀ (n : Nat) (st : St), loopK lo kp (execK C f lo nt call m none x) n st K = some r → ∀ (g' : Gh) (a : Act) (w' : World), Good nt lo st g' a w' → Ext (fun x => x < lo) g w g' w' →
      Code.rounds C.P x Q n a w' := by
    intro n
    induction n with
    | zero => intro st h; simp [loopK] at h
    | succ n ihn =>
      intro st h g' a w' hg' he
      unfold loopK at h
      rw [rounds_succ]
      refine hx _ _ _ h g' a w' hg' (fun z hz => (he.names z hz).1) _ fun ex st2 g2 a2 w2 hK hg2 he2 => ?_
      unfold kRes at hK
      split at hK
      · rename_i st1 hres
        obtain ⟨g1, hg1, he1⟩ := restrict_ok hres hg2 fun z hz => (he2.names z hz).1
        have he3 := (he.trans he2).trans he1
        cases ex with
        | normal => exact ihn _ hK g1 a2 w2 hg1 he3
        | exit i => exact hQ (.exit i) _ _ _ _ hK hg1 he3
        | ret => exact hQ .ret _ _ _ _ hK hg1 he3
      · cases hK
  exact key n st h g a w hg (Ext.refl _ _ _ hN)

theorem execK_ok {R : Type} : ∀ (c : Code) (bk : Option Nat) (st : St) (K : Kont R) (r : R), execK C f lo nt call m bk c st K = some r →
    (∀ id body st1 ex st', (((id, body) ∈ loopsOf c) ∨ (bk = some id ∧ c = .loop body)) → KnownIs C f id lo st1 ex st' → LoopOK C.P lo nt body st1 ex st') →
    ∀ (g : Gh) (a : Act) (w : World), Good nt lo st g a w → (∀ x, x < lo → g.used x) → ∀ (Q : Exit → Act → World → Prop),
    (∀ ex st' g' a' w', K ex st' = some r → Good nt lo st' g' a' w' → Ext (fun x => x < lo) g w g' w' → Q ex.to a' w') → c.wp C.P Q a w := by
  intro c
  induction c with
  | skip => intro bk st K r h hL g a w hg hN Q hQ; exact wp_skip (hQ .normal st g a w h hg (Ext.refl _ _ _ hN))
  | region id ops draw =>
    intro bk st K r h hL g a w hg hN Q hQ
    exact region_ok (K := K) hC hcall h hg hN fun st' g' a' w' hK hg' he => hQ .normal st' g' a' w' hK hg' he
  | seq x y ihx ihy =>
    intro bk st K r h hL g a w hg hN Q hQ
    unfold execK at h
    refine wp_seq (ihx _ _ _ _ h (fun id b st1 ex st' hm => hL id b st1 ex st' (.inl ?_)) g a w hg hN _ fun ex st' g' a' w' hK hg' he => ?_)
    · simp only [loopsOf, List.mem_append]
      rcases hm with hm | hm
      · exact .inl hm
      · cases hm.1
    · cases ex with
      | normal =>
        refine ihy _ _ _ _ hK (fun id b st1 ex st' hm => hL id b st1 ex st' (.inl ?_)) g' a' w' hg' (fun z hz => (he.names z hz).1) Q fun ex st2 g2 a2 w2 hK2 hg2 he2 => hQ ex st2 g2 a2 w2 hK2 hg2 (he.trans he2)
        simp only [loopsOf, List.mem_append]
        rcases hm with hm | hm
        · exact .inr hm
        · cases hm.1
      | exit i => exact hQ (.exit i) _ _ _ _ hK hg' he
      | ret => exact hQ .ret _ _ _ _ hK hg' he
  | cond c x y ihx ihy =>
    intro bk st K r h hL g a w hg hN Q hQ
    unfold execK at h
    split at h
    · rename_i t
      split at h
      · rename_i b hb
        have hr := hg.tmps t
        rw [hb] at hr
        have hv := rel_bool hr
        have hgood : Good nt lo ⟨(t, .bool b) :: st.env, st.sto, st.nxt⟩ g a w := { hg with tmps := fun d => by simp only [look_same hb]; exact hg.tmps d }
        refine wp_cond (t := b) (by simpa [Act.eval] using hv) ?_
        cases b with
        | true =>
          refine ihx _ _ _ _ h (fun id b st1 ex st' hm => hL id b st1 ex st' (.inl ?_)) g a w hgood hN Q hQ
          simp only [loopsOf, List.mem_append]
          rcases hm with hm | hm
          · exact .inl hm
          · cases hm.1
        | false =>
          refine ihy _ _ _ _ h (fun id b st1 ex st' hm => hL id b st1 ex st' (.inl ?_)) g a w hgood hN Q hQ
          simp only [loopsOf, List.mem_append]
          rcases hm with hm | hm
          · exact .inr hm
          · cases hm.1
      · cases h
    · cases h
  | block id x ih =>
    intro bk st K r h hL g a w hg hN Q hQ
    unfold execK at h
    refine wp_block (ih _ _ _ _ h (fun id' b st1 ex st' hm => hL id' b st1 ex st' (.inl ?_)) g a w hg hN _ fun ex st' g' a' w' hK hg' he => ?_)
    · rcases hm with hm | hm
      · exact loopsOf_block hm
      · obtain ⟨h1, rfl⟩ := hm
        cases h1
        simp [loopsOf]
    · unfold kBlock at hK
      cases ex with
      | normal => exact hQ .normal _ _ _ _ hK hg' he
      | exit i =>
        simp only [Ex.to, Exit.inBlock]
        simp only at hK
        cases hb : Nat.beq i id with
        | true =>
          obtain rfl := Nat.beq_true hb
          simp only [hb, cond_true] at hK
          rw [if_pos rfl]
          exact hQ .normal _ _ _ _ hK hg' he
        | false =>
          simp only [hb, cond_false] at hK
          rw [if_neg (fun h => by subst h; simp at hb)]
          exact hQ (.exit i) _ _ _ _ hK hg' he
      | ret => exact hQ .ret _ _ _ _ hK hg' he
  | loop x ih =>
    intro bk st K r h hL g a w hg hN Q hQ
    unfold execK at h
    split at h
    · cases h
    · rename_i st1 hres
      obtain ⟨g1, hg1, he1⟩ := restrict_ok hres hg hN
      have hN1 : ∀ z, z < lo → g1.used z := fun z hz => (he1.names z hz).1
      split at h
      · rename_i alts hk
        obtain ⟨⟨ex, st'⟩, hp, h⟩ := altK_pick h
        obtain ⟨id, rfl, hLm⟩ := knowns_ok hk
        exact hL id x st1 ex st' (.inr ⟨rfl, rfl⟩) (.inr ⟨alts, hLm, hp⟩) g1 a w hg1 hN1 Q fun g' a' w' hg' he => hQ ex st' g' a' w' h hg' (he1.trans he)
      split at h
      · rename_i c ex st' hk
        cases c with
        | false => cases h
        | true =>
          simp only [cond_true] at h
          obtain ⟨id, rfl, hLm⟩ := known_ok hk
          exact hL id x st1 ex st' (.inr ⟨rfl, rfl⟩) (.inl hLm) g1 a w hg1 hN1 Q fun g' a' w' hg' he => hQ ex st' g' a' w' h hg' (he1.trans he)
      · exact loopK_ok (fun st K r h => ih none st K r h fun id b st1 ex st' hm => hL id b st1 ex st' (.inl (by
          rcases hm with hm | hm
          · simpa [loopsOf] using hm
          · cases hm.1))) _ _ _ _ _ h g1 a w hg1 hN1 Q fun ex st' g' a' w' hK hg' he => hQ ex st' g' a' w' hK hg' (he1.trans he)
  | exit id => intro bk st K r h hL g a w hg hN Q hQ; exact wp_exit (hQ (.exit id) st g a w h hg (Ext.refl _ _ _ hN))
  | ret => intro bk st K r h hL g a w hg hN Q hQ; exact wp_ret (hQ .ret st g a w h hg (Ext.refl _ _ _ hN))
  | rangeFunc _ _ _ _ _ _ => intro bk st K r h; simp [execK] at h
  | scope _ _ => intro bk st K r h; simp [execK] at h
  | label _ => intro bk st K r h; simp [execK] at h
  | goto _ => intro bk st K r h; simp [execK] at h
  | refuse _ => intro bk st K r h; simp [execK] at h

omit hC hcall in
theorem loopK_path {x : Code} (hx : ∀ (R : Type) (st : St) (K : Kont R) (r : R), execK C f lo nt call m none x st K = some r →
    ∃ ex st', (∀ (R' : Type) (K' : Kont R'), execK C f lo nt call m none x st K' = K' ex st') ∧ K ex st' = some r) (R : Type) (kp : Option (List Nat)) (K : Kont R) (r : R) : ∀ (n : Nat) (st : St),
    loopK lo kp (execK C f lo nt call m none x) n st K = some r →
    ∃ ex st', (∀ (R' : Type) (K' : Kont R'), loopK lo kp (execK C f lo nt call m none x) n st K' = K' ex st') ∧ K ex st' = some r := by
  intro n
  induction n with
  | zero => intro st h; simp [loopK] at h
  | succ n ihn =>
    intro st h
    unfold loopK at h
    obtain ⟨ex, st2, h1, h2⟩ := hx _ _ _ _ h
    unfold kRes at h2
    split at h2
    · rename_i st1 hres
      cases ex with
      | normal =>
        obtain ⟨ex', st', h3, h4⟩ := ihn _ h2
        refine ⟨ex', st', fun R' K' => ?_, h4⟩
        unfold loopK
        rw [h1]
        simp only [kRes, hres, kSeq, h3]
      | exit i =>
        refine ⟨.exit i, st1, fun R' K' => ?_, h2⟩
        unfold loopK
        rw [h1]
        simp only [kRes, hres, kSeq]
      | ret =>
        refine ⟨.ret, st1, fun R' K' => ?_, h2⟩
        unfold loopK
        rw [h1]
        simp only [kRes, hres, kSeq]
    · cases h2

omit hcall in
/-- which way a code goes does not lie in what follows -/
theorem execK_path : ∀ (c : Code) (bk : Option Nat) (R : Type) (st : St) (K : Kont R) (r : R), execK C f lo nt call m bk c st K = some r →
    ∃ ex st', (∀ (R' : Type) (K' : Kont R'), execK C f lo nt call m bk c st K' = K' ex st') ∧ K ex st' = some r := by
  intro c
  induction c with
  | skip => intro bk R st K r h; exact ⟨.normal, st, fun _ _ => rfl, h⟩
  | region id ops draw =>
    intro bk R st K r h
    unfold execK at h
    obtain ⟨fs, st', h1, h2⟩ := opsK_path hC _ _ _ _ h
    unfold kRegion at h2
    cases draw with
    | false => exact ⟨.normal, st', fun R' K' => by unfold execK; rw [h1]; rfl, h2⟩
    | true =>
      cases hd : drawF (C.P.follows .mixedOrders) ops fs with
      | false => simp [hd] at h2
      | true => exact ⟨.normal, st', fun R' K' => by unfold execK; rw [h1]; simp only [kRegion, cond_true, hd], by simpa [hd] using h2⟩
  | seq x y ihx ihy =>
    intro bk R st K r h
    unfold execK at h
    obtain ⟨ex, st2, h1, h2⟩ := ihx _ _ _ _ _ h
    cases ex with
    | normal =>
      obtain ⟨ex', st', h3, h4⟩ := ihy _ _ _ _ _ h2
      refine ⟨ex', st', fun R' K' => ?_, h4⟩
      unfold execK
      rw [h1]
      simp only [kSeq, h3]
    | exit i => exact ⟨.exit i, st2, fun R' K' => by unfold execK; rw [h1]; rfl, h2⟩
    | ret => exact ⟨.ret, st2, fun R' K' => by unfold execK; rw [h1]; rfl, h2⟩
  | cond c x y ihx ihy =>
    intro bk R st K r h
    unfold execK at h
    conv => enter [1, ex, 1, st', 1, R', K']; unfold execK
    split at h
    · rename_i t
      split at h
      · rename_i b hb
        cases b with
        | true => simp only [hb, cond_true]; exact ihx _ _ _ _ _ h
        | false => simp only [hb, cond_false]; exact ihy _ _ _ _ _ h
      · cases h
    · cases h
  | block id x ih =>
    intro bk R st K r h
    unfold execK at h
    obtain ⟨ex, st', h1, h2⟩ := ih _ _ _ _ _ h
    unfold kBlock at h2
    cases ex with
    | normal => exact ⟨.normal, st', fun R' K' => by unfold execK; rw [h1]; rfl, h2⟩
    | exit i =>
      simp only at h2
      cases hb : Nat.beq i id with
      | true => exact ⟨.normal, st', fun R' K' => by unfold execK; rw [h1]; simp only [kBlock, hb, cond_true], by simpa [hb] using h2⟩
      | false => exact ⟨.exit i, st', fun R' K' => by unfold execK; rw [h1]; simp only [kBlock, hb, cond_false], by simpa [hb] using h2⟩
    | ret => exact ⟨.ret, st', fun R' K' => by unfold execK; rw [h1]; rfl, h2⟩
  | loop x ih =>
    intro bk R st K r h
    unfold execK at h
    split at h
    · cases h
    · rename_i st1 hres
      split at h
      · rename_i alts hk
        obtain ⟨p, h1, h2⟩ := altK_path h
        exact ⟨p.1, p.2, fun R' K' => by unfold execK; simp only [hres, hk, h1], h2⟩
      split at h
      · rename_i hk0 _ c ex st' hk
        cases c with
        | false => cases h
        | true => exact ⟨ex, st', fun R' K' => by unfold execK; simp only [hres, hk0, hk, cond_true], h⟩
      · rename_i hk0 _ hk
        obtain ⟨ex, st', h1, h2⟩ := loopK_path (fun R st K r h => ih none R st K r h) R _ K r _ _ h
        exact ⟨ex, st', fun R' K' => by unfold execK; simp only [hres, hk0, hk, h1], h2⟩
  | exit id => intro bk R st K r h; exact ⟨.exit id, st, fun _ _ => rfl, h⟩
  | ret => intro bk R st K r h; exact ⟨.ret, st, fun _ _ => rfl, h⟩
  | rangeFunc _ _ _ _ _ _ => intro bk R st K r h; simp [execK] at h
  | scope _ _ => intro bk R st K r h; simp [execK] at h
  | label _ => intro bk R st K r h; simp [execK] at h
  | goto _ => intro bk R st K r h; simp [execK] at h
  | refuse _ => intro bk R st K r h; simp [execK] at h

/-- a loop's model out of an equation -/
theorem loop_of_eq {x : Code} {kp : Option (List Nat)} {n : Nat} {st st' : St} {ex : Ex}
    (hL : ∀ id body st1 ex st', (id, body) ∈ loopsOf x → KnownIs C f id lo st1 ex st' → LoopOK C.P lo nt body st1 ex st')
    (h : loopK lo kp (execK C f lo nt call m none x) n st (fun ex st => some (ex, st)) = some (ex, st')) : LoopOK C.P lo nt x st ex st' := by
  intro g a w hg hN Q hQ
  refine loopK_ok (fun st K r h => execK_ok hC hcall x none st K r h fun id b st1 ex st' hm => hL id b st1 ex st' ?_) kp n st _ _ h g a w hg hN Q fun ex2 st2 g' a' w' hK hg' he => ?_
  · rcases hm with hm | hm
    · exact hm
    · cases hm.1
  · cases hK; exact hQ g' a' w' hg' he

end exec

end Am
end Go.Proofs.Ytooiechjanmdjaa
