/- The mirror machine: the operations of a region, in the order of the text and in every other order that is open. -/
import Derived.Test.YtooiechjanmdjaaAmStep
namespace Go.Proofs.Ytooiechjanmdjaa
namespace Am
set_option linter.unusedVariables false
set_option linter.unusedSimpArgs false

/-- an operation as the machine ran it -/
structure TE where
  i : Nat
  o : Oper
  e : Env
  s : Sto
  base : Nat
  nx : Nat
  v : AV
  u : Upd
  skip : Bool

def TE.w (t : TE) : List Nat := t.u.map (·.1)
def TE.r (t : TE) : List Nat := if t.skip then [] else footA t.o.op t.e t.s

/-- the machine's way through operations, the newest first -/
inductive Tr (C : Cfg) (call : CallF) (lo nt : Nat) (ops : List Oper) (st0 : St) : List TE → St → Foots → Prop
  | nil : Tr C call lo nt ops st0 [] st0 []
  | run {T : List TE} {st : St} {fs : Foots} {o : Oper} {e : Env} {v : AV} {u : Upd} {nx : Nat} : Tr C call lo nt ops st0 T st fs → ops[T.length]? = some o →
      (∀ d, look d e = look d st.env) → EffIs C call lo o.op e st.sto st.nxt v u nx → dstIn nt o.dst = true →
      (∀ j want, o.guard = some (j, want) → ∃ d, dstOf ops j = some d ∧ look d st.env = .bool want) →
      Tr C call lo nt ops st0 (⟨T.length, o, e, st.sto, st.nxt, nx, v, u, false⟩ :: T) ⟨put e o.dst v, u ++ st.sto, nx⟩ ((T.length, footA o.op e st.sto, u.map (·.1)) :: fs)
  | skip {T : List TE} {st : St} {fs : Foots} {o : Oper} {e : Env} {j d : Nat} {want : Bool} : Tr C call lo nt ops st0 T st fs → ops[T.length]? = some o →
      (∀ d, look d e = look d st.env) → o.guard = some (j, want) → dstOf ops j = some d → look d st.env = .bool (!want) ∨ look d st.env = .tuple [] →
      Tr C call lo nt ops st0 (⟨T.length, o, e, st.sto, st.nxt, st.nxt, .tuple [], [], true⟩ :: T) ⟨put e o.dst (.tuple []), st.sto, st.nxt⟩ fs

theorem look_cons {d d' : Nat} {v : AV} {e : Env} : look d ((d', v) :: e) = bif Nat.beq d' d then v else look d e := rfl

theorem look_same {d' : Nat} {v : AV} {e : Env} (h : look d' e = v) (d : Nat) : look d ((d', v) :: e) = look d e := by
  rw [look_cons]
  cases hb : Nat.beq d' d with
  | false => rfl
  | true => obtain rfl := Nat.beq_true hb; simp [h]

theorem opsK_tr {R : Type} {C : Cfg} (hC : CfgOK C) {call : CallF} {lo nt : Nat} {all : List Oper} {st0 : St} {K : Foots → St → Option R} {r : R} : ∀ (l : List Oper) (T : List TE) (st : St) (fs : Foots),
    opsK C call lo nt all l T.length fs st K = some r → Tr C call lo nt all st0 T st fs → all.drop T.length = l →
    ∃ T' st' fs', T'.length = all.length ∧ Tr C call lo nt all st0 T' st' fs' ∧ K fs' st' = some r := by
  intro l
  induction l with
  | nil =>
    intro T st fs h ht hl
    have h1 : all.length ≤ T.length := List.drop_eq_nil_iff.1 hl
    have h2 : T.length ≤ all.length := by
      cases ht with
      | nil => exact Nat.zero_le _
      | run h1 h2 => rw [List.length_cons]; exact (List.getElem?_eq_some_iff.1 h2).1
      | skip h1 h2 => rw [List.length_cons]; exact (List.getElem?_eq_some_iff.1 h2).1
    exact ⟨T, st, fs, by omega, ht, h⟩
  | cons o l ih =>
    intro T st fs h ht hl
    have ho : all[T.length]? = some o := by
      have := congrArg (·[0]?) hl
      simpa using this
    have hl' : all.drop (T.length + 1) = l := by
      rw [← List.drop_drop, hl]; rfl
    unfold opsK at h
    split at h
    · rename_i hg
      split at h
      · rename_i alts u hX
        cases hd : dstIn nt o.dst with
        | false => simp [hd] at h
        | true =>
        simp only [hd, cond_true] at h
        obtain ⟨v, hp, h⟩ := altK_pick h
        exact ih (_ :: T) _ _ h (.run ht ho (fun _ => rfl) (.inr (.inl ⟨rfl, alts, hX, hp⟩)) hd (fun j want hj => by rw [hg] at hj; cases hj)) hl'
      split at h
      · rename_i f as' s' L hX
        obtain ⟨p, _, h, hraw⟩ := hC.ck _ _ _ _ _ _ _ h
        cases hd : dstIn nt o.dst with
        | false => simp [hd] at h
        | true =>
        simp only [hd, cond_true] at h
        exact ih (_ :: T) _ _ h (.run ht ho (fun _ => rfl) (.inr (.inr ⟨f, as', s', L, p, hX, hraw, rfl, rfl, rfl⟩)) hd (fun j want hj => by rw [hg] at hj; cases hj)) hl'
      split at h
      · rename_i c v u nx he
        cases c with
        | false => simp at h
        | true =>
        cases hd : dstIn nt o.dst with
        | false => simp [hd] at h
        | true =>
        simp only [hd, Bool.and_self, cond_true] at h
        exact ih (_ :: T) _ _ h (.run ht ho (fun _ => rfl) (.inl he) hd (fun j want hj => by rw [hg] at hj; cases hj)) hl'
      · cases h
    · rename_i j want hg
      split at h
      · cases h
      · rename_i d hd
        split at h
        · rename_i b hb
          cases hw : (bif want then b else !b) with
          | true =>
            simp only [hw, cond_true] at h
            have hbw : b = want := by cases b <;> cases want <;> simp_all
            subst hbw
            split at h
            · rename_i alts u hX
              cases hdi : dstIn nt o.dst with
              | false => simp [hdi] at h
              | true =>
              simp only [hdi, cond_true] at h
              obtain ⟨v, hp, h⟩ := altK_pick h
              exact ih (_ :: T) _ _ h (.run ht ho (fun d' => look_same hb d') (.inr (.inl ⟨rfl, alts, hX, hp⟩)) hdi (fun j' want' hj => by rw [hg] at hj; cases hj; exact ⟨d, hd, hb⟩)) hl'
            split at h
            · rename_i f as' s' L hX
              obtain ⟨p, _, h, hraw⟩ := hC.ck _ _ _ _ _ _ _ h
              cases hdi : dstIn nt o.dst with
              | false => simp [hdi] at h
              | true =>
              simp only [hdi, cond_true] at h
              exact ih (_ :: T) _ _ h (.run ht ho (fun d' => look_same hb d') (.inr (.inr ⟨f, as', s', L, p, hX, hraw, rfl, rfl, rfl⟩)) hdi (fun j' want' hj => by rw [hg] at hj; cases hj; exact ⟨d, hd, hb⟩)) hl'
            split at h
            · rename_i c v u nx he
              cases c with
              | false => simp at h
              | true =>
              cases hdi : dstIn nt o.dst with
              | false => simp [hdi] at h
              | true =>
              simp only [hdi, Bool.and_self, cond_true] at h
              exact ih (_ :: T) _ _ h (.run ht ho (fun d' => look_same hb d') (.inl he) hdi (fun j' want' hj => by rw [hg] at hj; cases hj; exact ⟨d, hd, hb⟩)) hl'
            · cases h
          | false =>
            simp only [hw, cond_false] at h
            have hbw : b = !want := by cases b <;> cases want <;> simp_all
            subst hbw
            exact ih (_ :: T) _ _ h (.skip ht ho (fun d' => look_same hb d') hg hd (.inl hb)) hl'
        · rename_i hb
          exact ih (_ :: T) _ _ h (.skip ht ho (fun _ => rfl) hg hd (.inr hb)) hl'
        · cases h

theorem altK_path {α R : Type} {k : α → Option R} {r : R} : ∀ {l : List (Bool × α)}, altK k l = some r → ∃ a, (∀ (R' : Type) (k' : α → Option R'), altK k' l = k' a) ∧ k a = some r
  | [], h => by cases h
  | (true, a) :: l, h => ⟨a, fun _ _ => rfl, h⟩
  | (false, a) :: l, h => altK_path (l := l) h

/-- which way operations go does not lie in what follows -/
theorem opsK_path {R : Type} {C : Cfg} (hC : CfgOK C) {call : CallF} {lo nt : Nat} {all : List Oper} {K : Foots → St → Option R} {r : R} : ∀ (l : List Oper) (i : Nat) (st : St) (fs : Foots),
    opsK C call lo nt all l i fs st K = some r → ∃ fs' st', (∀ (R' : Type) (K' : Foots → St → Option R'), opsK C call lo nt all l i fs st K' = K' fs' st') ∧ K fs' st' = some r := by
  intro l
  induction l with
  | nil => intro i st fs h; exact ⟨fs, st, fun _ _ => rfl, h⟩
  | cons o l ih =>
    intro i st fs h
    unfold opsK at h
    conv => enter [1, fs', 1, st', 1, R', K']; unfold opsK
    split at h
    · rename_i hg
      split at h
      · rename_i alts u hX
        cases hd : dstIn nt o.dst with
        | false => simp [hd] at h
        | true =>
        simp only [hd, cond_true] at h
        obtain ⟨v, hp, h⟩ := altK_path h
        obtain ⟨fs', st', h1, h2⟩ := ih _ _ _ h
        refine ⟨fs', st', fun R' K' => ?_, h2⟩
        simp only [hX, cond_true, hp, h1]
      split at h
      · rename_i hX0 _ f as' s' L hX
        obtain ⟨p, hp, h, hraw⟩ := hC.ck _ _ _ _ _ _ _ h
        cases hd : dstIn nt o.dst with
        | false => simp [hd] at h
        | true =>
        simp only [hd, cond_true] at h
        obtain ⟨fs', st', h1, h2⟩ := ih _ _ _ h
        refine ⟨fs', st', fun R' K' => ?_, h2⟩
        simp only [hX0, hX, cond_true, hp, h1]
      split at h
      · rename_i hX0 _ hX1 _ c v u nx he
        cases hd : (c && dstIn nt o.dst) with
        | false => simp [hd] at h
        | true =>
        simp only [hd, cond_true] at h
        obtain ⟨fs', st', h1, h2⟩ := ih _ _ _ h
        refine ⟨fs', st', fun R' K' => ?_, h2⟩
        simp only [hX0, hX1, he, hd, cond_true, h1]
      · cases h
    · rename_i j want hg
      split at h
      · cases h
      · rename_i d hd
        split at h
        · rename_i b hb
          cases hw : (bif want then b else !b) with
          | true =>
            simp only [hw, cond_true] at h
            split at h
            · rename_i alts u hX
              cases hdi : dstIn nt o.dst with
              | false => simp [hdi] at h
              | true =>
              simp only [hdi, cond_true] at h
              obtain ⟨v, hp, h⟩ := altK_path h
              obtain ⟨fs', st', h1, h2⟩ := ih _ _ _ h
              refine ⟨fs', st', fun R' K' => ?_, h2⟩
              simp only [hX, cond_true, hp, h1]
            split at h
            · rename_i hX0 _ f as' s' L hX
              obtain ⟨p, hp, h, hraw⟩ := hC.ck _ _ _ _ _ _ _ h
              cases hdi : dstIn nt o.dst with
              | false => simp [hdi] at h
              | true =>
              simp only [hdi, cond_true] at h
              obtain ⟨fs', st', h1, h2⟩ := ih _ _ _ h
              refine ⟨fs', st', fun R' K' => ?_, h2⟩
              simp only [hX0, hX, cond_true, hp, h1]
            split at h
            · rename_i hX0 _ hX1 _ c v u nx he
              cases hdi : (c && dstIn nt o.dst) with
              | false => simp [hdi] at h
              | true =>
              simp only [hdi, cond_true] at h
              obtain ⟨fs', st', h1, h2⟩ := ih _ _ _ h
              refine ⟨fs', st', fun R' K' => ?_, h2⟩
              simp only [hX0, hX1, he, hdi, cond_true, h1]
            · cases h
          | false =>
            simp only [hw, cond_false] at h
            obtain ⟨fs', st', h1, h2⟩ := ih _ _ _ h
            exact ⟨fs', st', fun R' K' => by simp only [cond_false, h1], h2⟩
        · rename_i hb
          obtain ⟨fs', st', h1, h2⟩ := ih _ _ _ h
          exact ⟨fs', st', fun R' K' => by simp only [h1], h2⟩
        · cases h

/-- the last value of a slot among the operations that are done -/
def valD (e0 : Env) (D : Nat → Bool) (d : Nat) : List TE → AV
  | [] => look d e0
  | t :: T => if D t.i = true ∧ t.o.dst = some d then t.v else valD e0 D d T
/-- the last content of a box among the operations that are done -/
def stoD (s0 : Sto) (D : Nat → Bool) (x : Nat) : List TE → Option Box
  | [] => lookB x s0
  | t :: T => if D t.i = true ∧ x ∈ t.w then lookB x t.u else stoD s0 D x T

theorem lookB_of_mem {x : Nat} : ∀ {u : Upd}, x ∈ u.map (·.1) → ∃ b, lookB x u = some b
  | [], h => by simp at h
  | (y, b') :: u, h => by
    unfold lookB
    cases hb : Nat.beq y x with
    | true => exact ⟨b', rfl⟩
    | false =>
      have hne : x ≠ y := fun he => by subst he; simp at hb
      simp only [List.map_cons, List.mem_cons, hne, false_or] at h
      exact lookB_of_mem h

section tr
variable {C : Cfg} {call : CallF} {lo nt : Nat} {ops : List Oper} {st0 st : St} {T : List TE} {fs : Foots}

theorem look_put {e : Env} {dst : Option Nat} {v : AV} {d : Nat} : look d (put e dst v) = if dst = some d then v else look d e := by
  cases dst with
  | none => simp [put]
  | some d' =>
    simp only [put, look_cons]
    cases hb : Nat.beq d' d with
    | true => obtain rfl := Nat.beq_true hb; simp
    | false =>
      have hne : d' ≠ d := fun he => by subst he; simp at hb
      simp [hne]

theorem Tr.val (h : Tr C call lo nt ops st0 T st fs) (d : Nat) : look d st.env = valD st0.env (fun _ => true) d T := by
  induction h with
  | nil => rfl
  | run h1 h2 h3 h4 h5 h6 ih => simp only [valD, look_put, true_and, h3, ih]
  | skip h1 h2 h3 h4 h5 h6 ih => simp only [valD, look_put, true_and, h3, ih]

theorem Tr.sto (h : Tr C call lo nt ops st0 T st fs) (x : Nat) : lookB x st.sto = stoD st0.sto (fun _ => true) x T := by
  induction h with
  | nil => rfl
  | @run T st fs o e v u nx h1 h2 h3 h4 h5 h6 ih =>
    simp only [stoD, lookB_append, true_and, TE.w, ih]
    split
    · rename_i b hb; rw [if_pos (lookB_mem hb), hb]
    · rename_i hb
      rw [if_neg]
      intro hm
      obtain ⟨b, hb'⟩ := lookB_of_mem hm
      rw [hb] at hb'; cases hb'
  | skip h1 h2 h3 h4 h5 h6 ih => simp only [stoD, TE.w, List.map_nil, List.not_mem_nil, and_false, if_false, ih]

theorem rawA_nx {f : Nat} {as : List AV} {s : Sto} {base nx : Nat} {c : Bool} {v : AV} {u : Upd} (h : rawA C call f as s base = some (c, v, u, nx)) : base ≤ nx := by
  unfold rawA at h
  simp only at h
  split at h
  · simp only [Option.some.injEq, Prod.mk.injEq] at h; omega
  · split at h
    · simp only [Option.some.injEq, Prod.mk.injEq] at h; omega
    · cases h

theorem callA_nx {f : Nat} {as : List AV} {s : Sto} {base nx : Nat} {c : Bool} {v : AV} {u : Upd} (h : callA C call lo f as s base = some (c, v, u, nx)) : base ≤ nx := by
  unfold callA at h
  split at h
  · split at h
    · simp only [Option.some.injEq, Prod.mk.injEq] at h; omega
    · exact rawA_nx h
  · exact rawA_nx h

theorem effA_nx {o : Op} {e : Env} {s : Sto} {base nx : Nat} {c : Bool} {v : AV} {u : Upd} (h : effA C call lo o e s base = some (c, v, u, nx)) : base ≤ nx := by
  have at' : ∀ {e : Eff} {n : Nat}, e.at n = some (c, v, u, nx) → base ≤ n → base ≤ nx := fun h hn => by
    obtain ⟨_, rfl⟩ := Eff.at_some h; exact hn
  cases o <;> simp only [effA, reduceCtorEq] at h <;> first
    | exact at' h (Nat.le_refl _)
    | exact at' h (Nat.le_succ _)
    | skip
  case pick => split at h <;> first | exact at' h (Nat.le_refl _) | cases h
  case alloc => split at h <;> first | exact at' h (Nat.le_succ _) | cases h
  case buildSlice => split at h <;> first | exact at' h (Nat.le_refl _) | exact at' h (Nat.le_succ _)
  case call cl =>
    obtain ⟨callee, args, ts⟩ := cl
    cases callee with
    | value fo =>
      simp only at h
      split at h
      · rename_i f a b _
        cases hb : hasBody C.P f with
        | false => simp [hb] at h
        | true => simp only [hb, cond_true] at h; exact callA_nx h
      · cases h
    | invoke r m => simp at h
    | builtin b =>
      cases b <;> simp only [reduceCtorEq] at h
      case len =>
        split at h
        · rename_i x t _ _
          cases hs : isSliceT C.P t with
          | false => simp [hs] at h
          | true =>
            simp only [hs, cond_true] at h
            split at h
            · exact at' h (Nat.le_refl _)
            · cases h
        · cases h
      case append =>
        split at h
        · rename_i d x t t' _ _
          cases ht : Nat.beq t t' with
          | false => simp [ht] at h
          | true => simp only [ht, cond_true] at h; exact at' h (Nat.le_succ _)
        · cases h
      case min => exact at' h (Nat.le_refl _)
      case max => exact at' h (Nat.le_refl _)

theorem EffIs.nx {o : Op} {e : Env} {s : Sto} {base nx : Nat} {v : AV} {u : Upd} (h : EffIs C call lo o e s base v u nx) : base ≤ nx := by
  rcases h with h | ⟨rfl, _⟩ | ⟨f, as', s', L, p, _, _, _, _, rfl⟩
  · exact effA_nx h
  · exact Nat.le_refl _
  · exact Nat.le_add_right _ _

theorem Tr.nxt (h : Tr C call lo nt ops st0 T st fs) : st0.nxt ≤ st.nxt ∧ ∀ t, t ∈ T → st0.nxt ≤ t.base ∧ t.base ≤ t.nx ∧ t.nx ≤ st.nxt := by
  induction h with
  | nil => exact ⟨Nat.le_refl _, fun t h => by simp at h⟩
  | @run T st fs o e v u nx h1 h2 h3 h4 h5 h6 ih =>
    have hx := h4.nx
    refine ⟨Nat.le_trans ih.1 hx, fun t ht => ?_⟩
    simp only [List.mem_cons] at ht
    rcases ht with rfl | ht
    · exact ⟨ih.1, hx, Nat.le_refl _⟩
    · have := ih.2 t ht; exact ⟨this.1, this.2.1, Nat.le_trans this.2.2 hx⟩
  | skip h1 h2 h3 h4 h5 h6 ih =>
    refine ⟨ih.1, fun t ht => ?_⟩
    simp only [List.mem_cons] at ht
    rcases ht with rfl | ht
    · exact ⟨ih.1, Nat.le_refl _, Nat.le_refl _⟩
    · exact ih.2 t ht

theorem Tr.index (h : Tr C call lo nt ops st0 T st fs) : ∀ t, t ∈ T → t.i < T.length := by
  induction h with
  | nil => intro t h; simp at h
  | run h1 h2 h3 h4 h5 h6 ih =>
    intro t ht
    simp only [List.mem_cons] at ht
    rcases ht with rfl | ht
    · simp
    · have := ih t ht; simp; omega
  | skip h1 h2 h3 h4 h5 h6 ih =>
    intro t ht
    simp only [List.mem_cons] at ht
    rcases ht with rfl | ht
    · simp
    · have := ih t ht; simp; omega

/-- what is known of one operation of the way -/
structure TE.Ok (C : Cfg) (call : CallF) (lo nt : Nat) (ops : List Oper) (st0 : St) (t : TE) (E : List TE) : Prop where
  i : t.i = E.length
  o : ops[t.i]? = some t.o
  val : ∀ d, look d t.e = valD st0.env (fun _ => true) d E
  sto : ∀ x, lookB x t.s = stoD st0.sto (fun _ => true) x E
  run : t.skip = false → EffIs C call lo t.o.op t.e t.s t.base t.v t.u t.nx ∧ dstIn nt t.o.dst = true ∧
    ∀ j want, t.o.guard = some (j, want) → ∃ d, dstOf ops j = some d ∧ look d t.e = .bool want
  skipped : t.skip = true → t.v = .tuple [] ∧ t.u = [] ∧ t.nx = t.base ∧ ∃ j want d, t.o.guard = some (j, want) ∧ dstOf ops j = some d ∧ (look d t.e = .bool (!want) ∨ look d t.e = .tuple [])
  old : ∀ t', t' ∈ E → t'.i < t.i ∧ t'.nx ≤ t.base
  lt : st0.nxt ≤ t.base

theorem Tr.at {L E : List TE} {t : TE} (h : Tr C call lo nt ops st0 (L ++ t :: E) st fs) : t.Ok C call lo nt ops st0 E ∧ (∀ t', t' ∈ L → t.i < t'.i ∧ t.nx ≤ t'.base) ∧ t.nx ≤ st.nxt := by
  generalize hT : L ++ t :: E = T at h
  induction h generalizing L with
  | nil => simp at hT
  | @run T st fs o e v u nx h1 h2 h3 h4 h5 h6 ih =>
    cases L with
    | nil =>
      simp only [List.nil_append, List.cons.injEq] at hT
      obtain ⟨rfl, rfl⟩ := hT
      refine ⟨⟨rfl, h2, fun d => by rw [h3, h1.val], fun x => by rw [h1.sto], fun _ => ⟨h4, h5, fun j want hj => ?_⟩, fun h => (by cases h), fun t' ht' => ⟨h1.index t' ht', (h1.nxt.2 t' ht').2.2⟩, h1.nxt.1⟩, fun t' ht' => by simp at ht', Nat.le_refl _⟩
      obtain ⟨d, hd, hb⟩ := h6 j want hj
      exact ⟨d, hd, by rw [h3]; exact hb⟩
    | cons t' L =>
      simp only [List.cons_append, List.cons.injEq] at hT
      obtain ⟨rfl, rfl⟩ := hT
      obtain ⟨a, b, c⟩ := ih rfl
      refine ⟨a, fun t' ht' => ?_, Nat.le_trans c h4.nx⟩
      simp only [List.mem_cons] at ht'
      rcases ht' with rfl | ht'
      · refine ⟨h1.index t (by simp), c⟩
      · exact b t' ht'
  | @skip T st fs o e j d want h1 h2 h3 h4 h5 h6 ih =>
    cases L with
    | nil =>
      simp only [List.nil_append, List.cons.injEq] at hT
      obtain ⟨rfl, rfl⟩ := hT
      exact ⟨⟨rfl, h2, fun d => by rw [h3, h1.val], fun x => by rw [h1.sto], fun h => (by cases h), fun _ => ⟨rfl, rfl, rfl, j, want, d, h4, h5, by rw [h3]; exact h6⟩, fun t' ht' => ⟨h1.index t' ht', (h1.nxt.2 t' ht').2.2⟩, h1.nxt.1⟩, fun t' ht' => by simp at ht', Nat.le_refl _⟩
    | cons t' L =>
      simp only [List.cons_append, List.cons.injEq] at hT
      obtain ⟨rfl, rfl⟩ := hT
      obtain ⟨a, b, c⟩ := ih rfl
      refine ⟨a, fun t' ht' => ?_, c⟩
      simp only [List.mem_cons] at ht'
      rcases ht' with rfl | ht'
      · refine ⟨h1.index t (by simp), c⟩
      · exact b t' ht'

theorem valD_agree {D : Nat → Bool} {e0 : Env} {d : Nat} : ∀ {L E : List TE}, (∀ t, t ∈ L → D t.i = true → t.o.dst ≠ some d) → (∀ t, t ∈ E → t.o.dst = some d → D t.i = true) →
    valD e0 D d (L ++ E) = valD e0 (fun _ => true) d E
  | [], [], _, _ => rfl
  | [], t :: E, h1, h2 => by
    have ih := valD_agree (L := []) (E := E) (e0 := e0) (by simp) fun t ht => h2 t (by simp [ht])
    simp only [List.nil_append] at ih
    simp only [List.nil_append, valD, true_and, ih]
    by_cases hd : t.o.dst = some d
    · simp [hd, h2 t (by simp) hd]
    · simp [hd]
  | t :: L, E, h1, h2 => by
    have ih := valD_agree (L := L) (E := E) (e0 := e0) (fun t ht => h1 t (by simp [ht])) h2
    simp only [List.cons_append, valD, ih]
    rw [if_neg]
    exact fun h => h1 t (by simp) h.1 h.2

theorem stoD_agree {D : Nat → Bool} {s0 : Sto} {x : Nat} : ∀ {L E : List TE}, (∀ t, t ∈ L → D t.i = true → x ∉ t.w) → (∀ t, t ∈ E → x ∈ t.w → D t.i = true) →
    stoD s0 D x (L ++ E) = stoD s0 (fun _ => true) x E
  | [], [], _, _ => rfl
  | [], t :: E, h1, h2 => by
    have ih := stoD_agree (L := []) (E := E) (s0 := s0) (by simp) fun t ht => h2 t (by simp [ht])
    simp only [List.nil_append] at ih
    simp only [List.nil_append, stoD, true_and, ih]
    by_cases hd : x ∈ t.w
    · simp [hd, h2 t (by simp) hd]
    · simp [hd]
  | t :: L, E, h1, h2 => by
    have ih := stoD_agree (L := L) (E := E) (s0 := s0) (fun t ht => h1 t (by simp [ht])) h2
    simp only [List.cons_append, stoD, ih]
    rw [if_neg]
    exact fun h => h1 t (by simp) h.1 h.2

/-- one more is done -/
def addD (D : Nat → Bool) (j : Nat) : Nat → Bool := fun i => D i || Nat.beq i j
theorem addD_ne {D : Nat → Bool} {j i : Nat} (h : i ≠ j) : addD D j i = D i := by
  have : Nat.beq i j = false := by
    cases hb : Nat.beq i j with
    | false => rfl
    | true => exact absurd (Nat.beq_true hb) h
  simp [addD, this]
theorem addD_self {D : Nat → Bool} {j : Nat} : addD D j j = true := by simp [addD]
theorem addD_iff {D : Nat → Bool} {j i : Nat} : addD D j i = true ↔ D i = true ∨ i = j := by
  by_cases h : i = j
  · subst h; simp [addD_self]
  · simp [addD_ne h, h]

theorem valD_add {D : Nat → Bool} {e0 : Env} {d j : Nat} : ∀ {E : List TE}, (∀ t, t ∈ E → t.i = j → t.o.dst ≠ some d) → valD e0 (addD D j) d E = valD e0 D d E
  | [], _ => rfl
  | t :: E, h => by
    have ih := valD_add (E := E) (D := D) (e0 := e0) fun t ht => h t (by simp [ht])
    simp only [valD, ih]
    by_cases hj : t.i = j
    · have := h t (by simp) hj; simp [this]
    · simp [addD_ne hj]
theorem stoD_add {D : Nat → Bool} {s0 : Sto} {x j : Nat} : ∀ {E : List TE}, (∀ t, t ∈ E → t.i = j → x ∉ t.w) → stoD s0 (addD D j) x E = stoD s0 D x E
  | [], _ => rfl
  | t :: E, h => by
    have ih := stoD_add (E := E) (D := D) (s0 := s0) fun t ht => h t (by simp [ht])
    simp only [stoD, ih]
    by_cases hj : t.i = j
    · have := h t (by simp) hj; simp [this]
    · simp [addD_ne hj]

theorem valD_new {D : Nat → Bool} {e0 : Env} {d : Nat} {t : TE} {E : List TE} : ∀ {L : List TE}, (∀ t', t' ∈ L → D t'.i = true → t'.o.dst ≠ some d) → D t.i = true → t.o.dst = some d →
    valD e0 D d (L ++ t :: E) = t.v
  | [], _, h1, h2 => by simp [valD, h1, h2]
  | t' :: L, h, h1, h2 => by
    have ih := valD_new (L := L) (E := E) (e0 := e0) (fun t ht => h t (by simp [ht])) h1 h2
    simp only [List.cons_append, valD, ih]
    rw [if_neg]
    exact fun h' => h t' (by simp) h'.1 h'.2
theorem stoD_new {D : Nat → Bool} {s0 : Sto} {x : Nat} {t : TE} {E : List TE} : ∀ {L : List TE}, (∀ t', t' ∈ L → D t'.i = true → x ∉ t'.w) → D t.i = true → x ∈ t.w →
    stoD s0 D x (L ++ t :: E) = lookB x t.u
  | [], _, h1, h2 => by simp [stoD, h1, h2]
  | t' :: L, h, h1, h2 => by
    have ih := stoD_new (L := L) (E := E) (s0 := s0) (fun t ht => h t (by simp [ht])) h1 h2
    simp only [List.cons_append, stoD, ih]
    rw [if_neg]
    exact fun h' => h t' (by simp) h'.1 h'.2

end tr

end Am
end Go.Proofs.Ytooiechjanmdjaa
