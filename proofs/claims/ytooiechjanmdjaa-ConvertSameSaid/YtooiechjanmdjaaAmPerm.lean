/- The mirror machine: every order that is open comes to the same. -/
import Derived.Test.YtooiechjanmdjaaAmRun
namespace Go.Proofs.Ytooiechjanmdjaa
namespace Am
set_option linter.unusedVariables false
set_option linter.unusedSimpArgs false

structure GoodD (nt lo : Nat) (st0 : St) (T : List TE) (D : Nat → Bool) (g : Gh) (a : Act) (w : World) : Prop where
  tmps : ∀ d, Rel2 g w (valD st0.env D d T) (a.tmps.getD d undef)
  sto : ∀ x b, stoD st0.sto D x T = some b → RelB g w x b
  inv : Inv g w
  lo : g.lo = lo
  size : nt ≤ a.tmps.size
  defers : a.defers = []
  used : ∀ x, g.used x → x < st0.nxt ∨ ∃ t, t ∈ T ∧ D t.i = true ∧ t.base ≤ x ∧ x < t.nx

def TE.apart (ops : Array Oper) (t t' : TE) : Prop := t.o.apart ops t'.o = true ∧ (∀ x, x ∈ t.w → x ∉ t'.r ∧ x ∉ t'.w) ∧ ∀ x, x ∈ t'.w → x ∉ t.r

theorem ofConst0_rel {g : Gh} {w : World} (v : Value) : Rel0 g w (ofConst0 v) v := by
  unfold ofConst0
  split
  · exact .bool _
  · exact .int _ _
  · exact .str _
  · exact .nilptr
  · exact .nilsl
  · exact .nilfunc
  · exact .niliface
  · trivial

theorem ofConst_rel {g : Gh} {w : World} (v : Value) : Rel2 g w (ofConst v) v := by
  unfold ofConst
  split
  · rename_i cs
    refine ⟨cs, rfl, ?_⟩
    generalize cs.toList = l
    induction l with
    | nil => exact .nil
    | cons v l ih => exact .cons (ofConst0_rel v) ih
  · exact (ofConst0_rel _).to2

theorem opv_rel {g : Gh} {w : World} {e : Env} {a : Act} {x : Operand} (h : ∀ d, x = .tmp d → Rel2 g w (look d e) (a.tmps.getD d undef)) : Rel2 g w (opv e x) (a.eval x) := by
  cases x with
  | tmp d => exact h d rfl
  | const v => exact ofConst_rel v
  | func f => exact ⟨#[], #[], rfl, .nil, .nil⟩
  | global n => trivial

theorem yielded_of {ops : Array Oper} {tmps : Array Value} {j d : Nat} {b : Bool} (hd : dstOf ops.toList j = some d) (hb : tmps.getD d undef = .bool b) : yielded ops tmps j = some b := by
  have h1 : (ops[j]?).bind (·.dst) = some d := by simpa [dstOf] using hd
  have h2 : tmps[d]? = some (.bool b) := by
    rw [Array.getD_eq_getD_getElem?] at hb
    cases ht : tmps[d]? with
    | none => rw [ht] at hb; cases hb
    | some v => rw [ht] at hb; simp at hb; rw [hb]
  simp [yielded, h1, h2]

theorem getD_put {a : Act} {dst : Option Nat} {V : Value} {d : Nat} : (a.put dst V).tmps.getD d undef = if dst = some d ∧ d < a.tmps.size then V else a.tmps.getD d undef := by
  cases dst with
  | none => simp [Act.put]
  | some d' =>
    simp only [Act.put, Array.getD_eq_getD_getElem?, Array.getElem?_setIfInBounds, Option.some.injEq]
    by_cases h : d' = d
    · subst h
      by_cases h2 : d' < a.tmps.size
      · simp [h2]
      · simp [h2]
    · simp [h]

theorem put_size {a : Act} {dst : Option Nat} {V : Value} : (a.put dst V).tmps.size = a.tmps.size := by
  cases dst <;> simp [Act.put]
theorem put_defers' {a : Act} {dst : Option Nat} {V : Value} : (a.put dst V).defers = a.defers := by
  cases dst <;> simp [Act.put]

section perm
variable {C : Cfg} {call : CallF} {lo nt : Nat} {ops : Array Oper} {st0 st : St} {T : List TE} {fs : Foots} {B : Nat → Nat → Prop}

theorem op_ok (hC : CfgOK C) (hcall : CallOK C.P call) {L E : List TE} {t : TE} (ht : Tr C call lo nt ops.toList st0 (L ++ t :: E) st fs)
    (hsep : ∀ t1 t2, t1 ∈ L ++ t :: E → t2 ∈ L ++ t :: E → t2.i < t1.i → B t1.i t2.i ∨ TE.apart ops t1 t2) {D : Nat → Bool} (hcl : ∀ i j, D i = true → B i j → D j = true)
    (hD : D t.i = false) (hB : ∀ i, B t.i i → D i = true) {g : Gh} {a : Act} {w : World} (hg : GoodD nt lo st0 (L ++ t :: E) D g a w) {Q : Exit → Act → World → Prop} {K : Act → World → Prop}
    (hK : ∀ g' a' w', GoodD nt lo st0 (L ++ t :: E) (addD D t.i) g' a' w' → Step g w g' w' → K a' w') : wpOp C.P ops Q t.i K a w := by
  obtain ⟨ok, hL, hnx⟩ := ht.at
  have sepL : ∀ t', t' ∈ L → D t'.i = true → TE.apart ops t' t := fun t' ht' hd => by
    rcases hsep t' t (by simp [ht']) (by simp) (hL t' ht').1 with h | h
    · have := hcl _ _ hd h; rw [hD] at this; cases this
    · exact h
  have sepE : ∀ t', t' ∈ E → D t'.i ≠ true → TE.apart ops t t' := fun t' ht' hd => by
    rcases hsep t t' (by simp) (by simp [ht']) (ok.old t' ht').1 with h | h
    · exact absurd (hB _ h) hd
    · exact h
  have hval : ∀ d, d ∈ t.o.looksAt ops → Rel2 g w (look d t.e) (a.tmps.getD d undef) := fun d hd => by
    have h1 := hg.tmps d
    rw [show L ++ t :: E = (L ++ [t]) ++ E by simp, valD_agree (L := L ++ [t]) (E := E)] at h1
    · rw [ok.val]; exact h1
    · intro t' ht' hd' hdst
      simp only [List.mem_append, List.mem_singleton] at ht'
      rcases ht' with ht' | rfl
      · exact (Oper.apart_spec (sepL t' ht' hd').1).1 d hdst hd
      · rw [hD] at hd'; cases hd'
    · intro t' ht' hdst
      cases hd' : D t'.i with
      | true => rfl
      | false => exact absurd hd ((Oper.apart_spec (sepE t' ht' (by simp [hd'])).1).2.2 d hdst)
  have hi : ops[t.i]? = some t.o := by simpa using ok.o
  have hother : ∀ t', t' ∈ L ++ t :: E → t'.i = t.i → t' = t := fun t' ht' he => by
    simp only [List.mem_append, List.mem_cons] at ht'
    rcases ht' with ht' | rfl | ht'
    · have := (hL t' ht').1; omega
    · rfl
    · have := (ok.old t' ht').1; omega
  have hnew : ∀ d, t.o.dst = some d → valD st0.env (addD D t.i) d (L ++ t :: E) = t.v := fun d hd => by
    refine valD_new (fun t' ht' hd' hdst => ?_) addD_self hd
    have hne : t'.i ≠ t.i := by have := (hL t' ht').1; omega
    rw [addD_ne hne] at hd'
    exact (Oper.apart_spec (sepL t' ht' hd').1).2.1 d hdst hd
  have hold : ∀ d, t.o.dst ≠ some d → valD st0.env (addD D t.i) d (L ++ t :: E) = valD st0.env D d (L ++ t :: E) := fun d hd =>
    valD_add fun t' ht' he => by rw [hother t' ht' he]; exact hd
  have guardv : ∀ j want d b, t.o.guard = some (j, want) → dstOf ops.toList j = some d → look d t.e = .bool b → yielded ops a.tmps j = some b := fun j want d b hgd hd hb => by
    have hlook : d ∈ t.o.looksAt ops := by
      have h1 : (ops[j]?).bind (·.dst) = some d := by simpa [dstOf] using hd
      simp [Oper.looksAt, hgd, h1]
    have := hval d hlook
    rw [hb] at this
    exact yielded_of hd (rel_bool this)
  have guardn : ∀ j want d, t.o.guard = some (j, want) → dstOf ops.toList j = some d → look d t.e = .tuple [] → yielded ops a.tmps j = none := fun j want d hgd hd hb => by
    have hlook : d ∈ t.o.looksAt ops := by
      have h1 : (ops[j]?).bind (·.dst) = some d := by simpa [dstOf] using hd
      simp [Oper.looksAt, hgd, h1]
    have := hval d hlook
    rw [hb] at this
    obtain ⟨us, hus, _⟩ := this
    have h1 : (ops[j]?).bind (·.dst) = some d := by simpa [dstOf] using hd
    unfold yielded
    rw [h1]
    simp only [Option.bind_some]
    cases hv : a.tmps[d]? with
    | none => rfl
    | some V =>
      have : a.tmps.getD d undef = V := by simp [Array.getD_eq_getD_getElem?, hv]
      rw [this] at hus
      rw [hus]
  unfold wpOp
  simp only [hi]
  cases hsk : t.skip with
  | true =>
    obtain ⟨hv, hu, hnx', j, want, d, hgd, hd, hb⟩ := ok.skipped hsk
    have hw : Region.wanted t.o (yielded ops a.tmps) = false := by
      rcases hb with hb | hb
      · simp only [Region.wanted, hgd, guardv j want d _ hgd hd hb]
        cases want <;> rfl
      · simp only [Region.wanted, hgd, guardn j want d hgd hd hb]
        cases want <;> rfl
    simp only [hw, if_false, Bool.false_eq_true]
    refine hK g _ w ⟨fun d => ?_, fun x b hx => ?_, hg.inv, hg.lo, by rw [put_size]; exact hg.size, by rw [put_defers']; exact hg.defers, fun x hx => ?_⟩ (Ext.refl _ _ _ fun _ h => h)
    · by_cases hdst : t.o.dst = some d
      · rw [hnew d hdst, hv]
        have : (a.put t.o.dst undef).tmps.getD d undef = undef := by
          rw [getD_put]
          split
          · rfl
          · rename_i hno
            have hge : a.tmps.size ≤ d := by
              rcases Nat.lt_or_ge d a.tmps.size with h | h
              · exact absurd ⟨hdst, h⟩ hno
              · exact h
            simp [Array.getD_eq_getD_getElem?, Array.getElem?_eq_none hge]
        rw [this]
        exact ⟨#[], rfl, .nil⟩
      · rw [hold d hdst, getD_put, if_neg (fun h => hdst h.1)]; exact hg.tmps d
    · rw [stoD_add] at hx
      · exact hg.sto x b hx
      · intro t' ht' he hm
        rw [hother t' ht' he, TE.w, hu] at hm; simp at hm
    · rcases hg.used x hx with h | ⟨t', h1, h2, h3⟩
      · exact .inl h
      · exact .inr ⟨t', h1, addD_iff.2 (.inl h2), h3⟩
  | false =>
    obtain ⟨heff, hdi, hgd⟩ := ok.run hsk
    have hw : Region.wanted t.o (yielded ops a.tmps) = true := by
      simp only [Region.wanted]
      split
      · rfl
      · rename_i j want hj
        obtain ⟨d, hd, hb⟩ := hgd j want hj
        simp [guardv j want d _ hj hd hb]
    simp only [hw, if_true]
    refine .inl (eff_ok hC hcall heff (fun x hx => opv_rel fun d hxd => hval d ?_) (fun x hx b hb => ?_) hg.inv hg.lo (fun x h1 h2 hu => ?_) fun V g' w' hp => ?_)
    · subst hxd
      simp only [Oper.looksAt, List.mem_append, List.mem_filterMap]
      exact .inl ⟨_, by simpa using hx, rfl⟩
    · refine hg.sto x b ?_
      have hr : x ∈ t.r := by simp only [TE.r, hsk]; exact hx
      rw [show L ++ t :: E = (L ++ [t]) ++ E by simp, stoD_agree (L := L ++ [t]) (E := E), ← ok.sto, hb]
      · intro t' ht' hd' hxw
        simp only [List.mem_append, List.mem_singleton] at ht'
        rcases ht' with ht' | rfl
        · exact ((sepL t' ht' hd').2.1 x hxw).1 hr
        · rw [hD] at hd'; cases hd'
      · intro t' ht' hxw
        cases hd' : D t'.i with
        | true => rfl
        | false => exact absurd hr ((sepE t' ht' (by simp [hd'])).2.2 x hxw)
    · rcases hg.used x hu with h | ⟨t', h3, h4, h5, h6⟩
      · have := ok.lt; omega
      · simp only [List.mem_append, List.mem_cons] at h3
        rcases h3 with h3 | rfl | h3
        · have := (hL t' h3).2; omega
        · rw [hD] at h4; cases h4
        · have := (ok.old t' h3).2; omega
    · refine hK g' _ w' ⟨fun d => ?_, fun x b hx => ?_, hp.inv, by rw [hp.step.lo]; exact hg.lo, by rw [put_size]; exact hg.size, by rw [put_defers']; exact hg.defers, fun x hx => ?_⟩ hp.step
      · by_cases hdst : t.o.dst = some d
        · have hlt : d < a.tmps.size := by
            rw [hdst] at hdi
            have := Nat.le_of_ble_eq_true hdi
            have := hg.size
            omega
          rw [hnew d hdst, getD_put, if_pos ⟨hdst, hlt⟩]; exact hp.val
        · rw [hold d hdst, getD_put, if_neg (fun h => hdst h.1)]; exact hp.step.stay (hg.tmps d)
      · by_cases hxw : x ∈ t.w
        · rw [stoD_new (fun t' ht' hd' => ?_) addD_self hxw] at hx
          · exact hp.boxes x b hx
          · have hne : t'.i ≠ t.i := by have := (hL t' ht').1; omega
            rw [addD_ne hne] at hd'
            exact fun h => ((sepL t' ht' hd').2.1 x h).2 hxw
        · rw [stoD_add] at hx
          · exact (hg.sto x b hx).stay hp.step hp.only hxw
          · intro t' ht' he hm
            rw [hother t' ht' he] at hm; exact hxw hm
      · rcases hp.used x hx with h | h
        · rcases hg.used x h with h | ⟨t', h1, h2, h3⟩
          · exact .inl h
          · exact .inr ⟨t', h1, addD_iff.2 (.inl h2), h3⟩
        · exact .inr ⟨t, by simp, addD_self, h⟩

/-- an order that keeps to B -/
def Sched (B : Nat → Nat → Prop) (n : Nat) : (Nat → Bool) → List Nat → Prop
  | D, [] => ∀ i, i < n → D i = true
  | D, j :: l => j < n ∧ D j = false ∧ (∀ i, B j i → D i = true) ∧ Sched B n (addD D j) l

theorem Tr.split (ht : Tr C call lo nt ops.toList st0 T st fs) {j : Nat} (hj : j < T.length) : ∃ L t E, T = L ++ t :: E ∧ t.i = j := by
  induction ht with
  | nil => simp at hj
  | run h1 h2 h3 h4 h5 h6 ih =>
    rename_i T st fs o e v u nx
    by_cases h : j = T.length
    · exact ⟨[], _, T, rfl, h.symm⟩
    · obtain ⟨L, t, E, rfl, hi⟩ := ih (by simp at hj; omega)
      exact ⟨_ :: L, t, E, rfl, hi⟩
  | skip h1 h2 h3 h4 h5 h6 ih =>
    rename_i T st fs o e j' d want
    by_cases h : j = T.length
    · exact ⟨[], _, T, rfl, h.symm⟩
    · obtain ⟨L, t, E, rfl, hi⟩ := ih (by simp at hj; omega)
      exact ⟨_ :: L, t, E, rfl, hi⟩

theorem perm_ok (hC : CfgOK C) (hcall : CallOK C.P call) (ht : Tr C call lo nt ops.toList st0 T st fs)
    (hsep : ∀ t1 t2, t1 ∈ T → t2 ∈ T → t2.i < t1.i → B t1.i t2.i ∨ TE.apart ops t1 t2) {Q : Exit → Act → World → Prop} {N : Nat → Prop} : ∀ (l : List Nat) (D : Nat → Bool) (g : Gh) (a : Act) (w : World),
    (∀ i j, D i = true → B i j → D j = true) → Sched B T.length D l → GoodD nt lo st0 T D g a w → (∀ x, N x → g.used x) →
    (∀ g' a' w', Good nt lo st g' a' w' → Ext N g w g' w' → Q .normal a' w') → wpOps C.P ops Q l a w := by
  intro l
  induction l with
  | nil =>
    intro D g a w hcl hs hg hN hQ
    have hall : ∀ t, t ∈ T → D t.i = true := fun t h => hs _ (ht.index t h)
    refine hQ g a w ⟨fun d => ?_, fun x b hx => ?_, hg.inv, hg.lo, hg.size, hg.defers, fun x hx => ?_⟩ (Ext.refl _ _ _ hN)
    · have := hg.tmps d
      rw [show T = [] ++ T from rfl, valD_agree (L := []) (by simp) fun t h _ => hall t h, ← ht.val] at this
      exact this
    · refine hg.sto x b ?_
      rw [show T = [] ++ T from rfl, stoD_agree (L := []) (by simp) fun t h _ => hall t h, ← ht.sto]; exact hx
    · rcases hg.used x hx with h | ⟨t, h1, h2, h3, h4⟩
      · exact Nat.lt_of_lt_of_le h ht.nxt.1
      · exact Nat.lt_of_lt_of_le h4 (ht.nxt.2 t h1).2.2
  | cons j l ih =>
    intro D g a w hcl hs hg hN hQ
    obtain ⟨h1, h2, h3, h4⟩ := hs
    rw [wpOps_cons]
    obtain ⟨L, t, E, rfl, rfl⟩ := ht.split h1
    refine op_ok hC hcall ht hsep hcl h2 h3 hg fun g' a' w' hg' hst => ?_
    refine ih (addD D t.i) g' a' w' (fun i k hi hk => ?_) h4 hg' (fun x hx => (hst.names x (hN x hx)).1) fun g2 a2 w2 hg2 hst2 => hQ g2 a2 w2 hg2 ((hst.weaken hN).trans hst2)
    rcases addD_iff.1 hi with h | rfl
    · exact addD_iff.2 (.inl (hcl i k h hk))
    · exact addD_iff.2 (.inl (h3 k hk))

/-- the order of the text -/
theorem sched_text (n : Nat) : ∀ (m k : Nat) (D : Nat → Bool), k + m = n → (∀ i, D i = true ↔ i < k) → Sched (fun j i => i < j) n D (List.range' k m)
  | 0, k, D, h, hD => fun i hi => (hD i).2 (by omega)
  | m + 1, k, D, h, hD => by
    refine ⟨by omega, ?_, fun i hi => (hD i).2 hi, sched_text n m (k + 1) _ (by omega) fun i => ?_⟩
    · cases hk : D k with
      | false => rfl
      | true => have := (hD k).1 hk; omega
    · rw [addD_iff, hD]; omega

end perm

end Am
end Go.Proofs.Ytooiechjanmdjaa
