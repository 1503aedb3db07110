/- The mirror machine: a region, in the order of the text or in an order that is drawn. -/
import Derived.Test.YtooiechjanmdjaaAmPerm
namespace Go.Proofs.Ytooiechjanmdjaa
namespace Am
set_option linter.unusedVariables false
set_option linter.unusedSimpArgs false

def befF (acc : Array Nat) (o : Oper) : Nat := o.after.foldl (fun s e => if Region.binds .any e then s ||| 2 ^ e.on ||| acc.getD e.on 0 else s) 0

theorem befF_bit {acc : Array Nat} {o : Oper} {i : Nat} (h : (befF acc o).testBit i = true) : ∃ e ∈ o.after.toList, Region.binds .any e = true ∧ (i = e.on ∨ (acc.getD e.on 0).testBit i = true) := by
  have key : ∀ (es : List Edge) (s : Nat), (es.foldl (fun s e => if Region.binds .any e then s ||| 2 ^ e.on ||| acc.getD e.on 0 else s) s).testBit i = true →
      s.testBit i = true ∨ ∃ e ∈ es, Region.binds .any e = true ∧ (i = e.on ∨ (acc.getD e.on 0).testBit i = true) := by
    intro es
    induction es with
    | nil => intro s h; exact .inl h
    | cons e es ih =>
      intro s h
      rw [List.foldl_cons] at h
      rcases ih _ h with h | ⟨e', h1, h2⟩
      · split at h
        · rename_i hbd
          simp only [Nat.testBit_or, Nat.testBit_two_pow, Bool.or_eq_true, decide_eq_true_eq] at h
          rcases h with (h | h) | h
          · exact .inl h
          · exact .inr ⟨e, by simp, hbd, .inl h.symm⟩
          · exact .inr ⟨e, by simp, hbd, .inr h⟩
        · exact .inl h
      · exact .inr ⟨e', by simp [h1], h2⟩
  unfold befF at h
  rw [← Array.foldl_toList] at h
  rcases key _ _ h with h | h
  · simp at h
  · exact h

theorem bef_fold : ∀ (l : List Oper) (acc : Array Nat), let R := l.foldl (fun acc o => acc.push (befF acc o)) acc
    (∀ j, j < acc.size → R.getD j 0 = acc.getD j 0) ∧ R.size = acc.size + l.length ∧
    ∀ j o, l[j]? = some o → ∃ acc' : Array Nat, R.getD (acc.size + j) 0 = befF acc' o ∧ acc'.size = acc.size + j ∧ ∀ k, k < acc'.size → acc'.getD k 0 = R.getD k 0
  | [], acc => ⟨fun _ _ => rfl, rfl, fun j o h => by simp at h⟩
  | o :: l, acc => by
    obtain ⟨h1, h2, h3⟩ := bef_fold l (acc.push (befF acc o))
    simp only [List.foldl_cons] at *
    have hpush : ∀ j, j < acc.size → (acc.push (befF acc o)).getD j 0 = acc.getD j 0 := fun j hj => by
      simp only [Array.getD_eq_getD_getElem?, Array.getElem?_push]
      rw [if_neg (by omega)]
    refine ⟨fun j hj => ?_, ?_, fun j o' hj => ?_⟩
    · rw [h1 j (by simp; omega), hpush j hj]
    · rw [h2]; simp; omega
    · cases j with
      | zero =>
        simp at hj; subst hj
        refine ⟨acc, ?_, by simp, fun k hk => ?_⟩
        · rw [h1 _ (by simp)]
          simp [Array.getD_eq_getD_getElem?]
        · rw [h1 k (by simp; omega), hpush k hk]
      | succ j =>
        simp at hj
        obtain ⟨acc', a1, a2, a3⟩ := h3 j o' hj
        simp only [Array.size_push] at a1 a2
        refine ⟨acc', ?_, by omega, a3⟩
        rw [← a1]; congr 1; omega

def Bef (ops : Array Oper) (j i : Nat) : Prop := ((Region.before ops).getD j 0).testBit i = true

theorem before_spec {ops : Array Oper} {j i : Nat} (h : Bef ops j i) : ∃ o, ops[j]? = some o ∧ ∃ e ∈ o.after.toList, Region.binds .any e = true ∧ (i = e.on ∨ Bef ops e.on i) := by
  have heq : Region.before ops = ops.toList.foldl (fun acc o => acc.push (befF acc o)) #[] := by
    rw [Region.before, ← Array.foldl_toList]; rfl
  obtain ⟨h1, h2, h3⟩ := bef_fold ops.toList #[]
  rw [← heq] at h2 h3
  unfold Bef at h
  cases ho : ops[j]? with
  | none =>
    have : (Region.before ops).getD j 0 = 0 := by
      rw [Array.getD_eq_getD_getElem?, Array.getElem?_eq_none]
      · rfl
      · have := Array.getElem?_eq_none_iff.1 ho
        rw [h2]; simpa using this
    rw [this] at h; simp at h
  | some o =>
    obtain ⟨acc', a1, a2, a3⟩ := h3 j o (by simpa using ho)
    simp only [List.size_toArray, List.length_nil, Nat.zero_add] at a1 a2
    rw [a1] at h
    obtain ⟨e, he, hbd, hi⟩ := befF_bit h
    refine ⟨o, rfl, e, he, hbd, hi.imp id fun hi => ?_⟩
    by_cases hlt : e.on < j
    · unfold Bef; rw [← a3 e.on (by omega)]; exact hi
    · rw [Array.getD_eq_getD_getElem?, Array.getElem?_eq_none (by omega)] at hi
      simp at hi

theorem binds_any {md : Region.Mode} {e : Edge} (h : Region.binds .any e = true) : Region.binds md e = true := by
  unfold Region.binds at h ⊢
  split at h
  · cases h
  · cases h
  · rfl

theorem orderF_all {md : Region.Mode} {ops : Array Oper} {S : Nat → Prop} (hS : ∀ (i : Nat) (o : Oper), ops[i]? = some o → (∀ e, e ∈ o.after.toList → Region.binds md e = true → S e.on) → S i) : ∀ (l seen : List Nat),
    orderF md ops l seen = true → (∀ x, x ∈ seen → S x) → ∀ x, x ∈ l → S x
  | [], _, _, _, x, hx => by simp at hx
  | i :: l, seen, h, hs, x, hx => by
    unfold orderF at h
    rw [Bool.and_eq_true] at h
    obtain ⟨h1, h2⟩ := h
    have hi : S i := by
      cases ho : ops[i]? with
      | none => rw [ho] at h1; cases h1
      | some o =>
        rw [ho] at h1
        simp only [Array.all_eq_true'] at h1
        refine hS i o ho fun e he hb => ?_
        have := h1 e (by simpa using he)
        rw [hb] at this
        simp only [Bool.not_true, Bool.false_or] at this
        exact hs _ (memN_iff.1 this)
    simp only [List.mem_cons] at hx
    rcases hx with rfl | hx
    · exact hi
    · refine orderF_all hS l (i :: seen) h2 (fun y hy => ?_) x hx
      simp only [List.mem_cons] at hy
      rcases hy with rfl | hy
      · exact hi
      · exact hs y hy

theorem filter_lt {p q : Nat → Bool} : ∀ {l : List Nat}, (∀ x, x ∈ l → q x = true → p x = true) → (∃ x ∈ l, p x = true ∧ q x = false) → (l.filter q).length < (l.filter p).length
  | [], _, h => by obtain ⟨x, h, _⟩ := h; simp at h
  | y :: l, h1, h2 => by
    have hle : (l.filter q).length ≤ (l.filter p).length := by
      have : ∀ {l : List Nat}, (∀ x, x ∈ l → q x = true → p x = true) → (l.filter q).length ≤ (l.filter p).length := by
        intro l
        induction l with
        | nil => intro _; exact Nat.le_refl _
        | cons z l ih =>
          intro h
          have := ih fun x hx => h x (by simp [hx])
          simp only [List.filter_cons]
          cases hq : q z with
          | true => simp [h z (by simp) hq]; exact this
          | false => cases p z <;> simp <;> omega
      exact this fun x hx => h1 x (by simp [hx])
    obtain ⟨x, hx, hp, hq⟩ := h2
    simp only [List.mem_cons] at hx
    simp only [List.filter_cons]
    rcases hx with rfl | hx
    · simp [hp, hq]; omega
    · have ih := filter_lt (fun x hx => h1 x (by simp [hx])) ⟨x, hx, hp, hq⟩
      cases hqy : q y with
      | true => simp [h1 y (by simp) hqy]; exact ih
      | false => cases p y <;> simp <;> omega

theorem getD_default {listed : Array Bool} {i : Nat} (h : i < listed.size) (a b : Bool) : listed.getD i a = listed.getD i b := by
  simp [Array.getD, h]

theorem sched_lin {md : Region.Mode} {ops : Array Oper} {L : List Nat} (he : modeF md ops L = true) : ∀ (fuel t : Nat) (listed : Array Bool), listed.size = ops.size →
    (∀ i j, listed.getD i false = true → Bef ops i j → listed.getD j false = true) →
    ((List.range ops.size).filter fun i => !listed.getD i false).length ≤ fuel →
    Sched (Bef ops) ops.size (fun i => listed.getD i false) (Region.linearise.go md ops fuel t listed []) := by
  intro fuel
  induction fuel with
  | zero =>
    intro t listed hs hcl hf
    simp only [Region.linearise.go, List.reverse_nil]
    intro i hi
    have h0 := List.eq_nil_of_length_eq_zero (Nat.le_zero.1 hf)
    cases hl : listed.getD i false with
    | true => exact hl
    | false =>
      have : i ∈ (List.range ops.size).filter fun i => !listed.getD i false := by
        rw [List.mem_filter]; exact ⟨by simpa using hi, by rw [hl]; rfl⟩
      rw [h0] at this; simp at this
  | succ fuel ih =>
    intro t listed hs hcl hf
    simp only [Region.linearise.go]
    change Sched (Bef ops) ops.size (fun i => listed.getD i false) (match (Region.ready md ops listed)[t % (Region.ready md ops listed).length]? with
      | some i => Region.linearise.go md ops fuel (t / (Region.ready md ops listed).length) (listed.setIfInBounds i true) [i]
      | none => [].reverse)
    have hready : ∀ i, i ∈ Region.ready md ops listed ↔ i < ops.size ∧ listed.getD i false = false ∧ ∃ o, ops[i]? = some o ∧ ∀ e, e ∈ o.after.toList → Region.binds md e = true → listed.getD e.on false = true := by
      intro i
      simp only [Region.ready, List.mem_filter, List.mem_range, Bool.and_eq_true, Bool.not_eq_true']
      constructor
      · rintro ⟨h1, h2, h3⟩
        refine ⟨h1, by rw [getD_default (by omega) false true]; exact h2, ?_⟩
        cases ho : ops[i]? with
        | none => rw [ho] at h3; simp at h3
        | some o =>
          rw [ho] at h3
          simp only [Option.map_some, Option.getD_some, Array.all_eq_true'] at h3
          refine ⟨o, rfl, fun e hee hbd => ?_⟩
          have := h3 e (by simpa using hee)
          rw [hbd] at this
          simpa using this
      · rintro ⟨h1, h2, o, ho, h3⟩
        refine ⟨h1, by rw [getD_default (by omega) true false]; exact h2, ?_⟩
        rw [ho]
        simp only [Option.map_some, Option.getD_some, Array.all_eq_true']
        intro e hee
        cases hbd : Region.binds md e with
        | false => rfl
        | true => rw [h3 e (by simpa using hee) hbd]; rfl
    cases hi : (Region.ready md ops listed)[t % (Region.ready md ops listed).length]? with
    | none =>
      have hnil : Region.ready md ops listed = [] := by
        cases hr : Region.ready md ops listed with
        | nil => rfl
        | cons x xs =>
          rw [hr] at hi
          have hlt : t % (x :: xs).length < (x :: xs).length := Nat.mod_lt _ (by simp)
          simp at hi
          simp at hlt
          omega
      simp only [List.reverse_nil]
      simp only [modeF, Bool.and_eq_true, List.all_eq_true, List.mem_range] at he
      intro i hlt
      refine orderF_all (S := fun i => listed.getD i false = true) (fun i o ho hed => ?_) L [] he.1 (fun x hx => by simp at hx) i (memN_iff.1 (he.2 i hlt))
      cases hl : listed.getD i false with
      | true => rfl
      | false =>
        have hi' : i < ops.size := by
          rcases Nat.lt_or_ge i ops.size with h' | h'
          · exact h'
          · rw [Array.getElem?_eq_none h'] at ho; cases ho
        have : i ∈ Region.ready md ops listed := (hready i).2 ⟨hi', hl, o, ho, hed⟩
        rw [hnil] at this; simp at this
    | some i =>
      simp only []
      rw [linearise_go_acc, List.reverse_singleton, List.singleton_append]
      have hr := (hready i).1 (List.mem_of_getElem? hi)
      obtain ⟨hlt, hl, o, ho, hed⟩ := hr
      have hB : ∀ k, Bef ops i k → listed.getD k false = true := fun k hk => by
        obtain ⟨o', ho', e, hee, hbd, hk⟩ := before_spec hk
        rw [ho] at ho'; cases ho'
        rcases hk with rfl | hk
        · exact hed e hee (binds_any hbd)
        · exact hcl e.on k (hed e hee (binds_any hbd)) hk
      have hset : ∀ k, (listed.setIfInBounds i true).getD k false = addD (fun i => listed.getD i false) i k := fun k => by
        by_cases hk : k = i
        · subst hk
          rw [addD_self]
          simp [Array.getD_eq_getD_getElem?, Array.getElem?_setIfInBounds, hs, hlt]
        · rw [addD_ne hk]
          simp [Array.getD_eq_getD_getElem?, Array.getElem?_setIfInBounds, Ne.symm hk]
      refine ⟨hlt, hl, hB, ?_⟩
      have hfun : addD (fun i => listed.getD i false) i = fun k => (listed.setIfInBounds i true).getD k false := funext fun k => (hset k).symm
      rw [hfun]
      refine ih _ _ (by simpa using hs) (fun j k hj hk => ?_) ?_
      · rw [hset] at hj ⊢
        rcases addD_iff.1 hj with h | rfl
        · exact addD_iff.2 (.inl (hcl j k h hk))
        · exact addD_iff.2 (.inl (hB k hk))
      · have := filter_lt (l := List.range ops.size) (p := fun k => !listed.getD k false) (q := fun k => !(listed.setIfInBounds i true).getD k false) (fun x _ hx => by
            have h2 := hset x
            cases hlx : listed.getD x false with
            | false => rfl
            | true =>
              have : addD (fun i => listed.getD i false) i x = true := addD_iff.2 (.inl hlx)
              rw [this] at h2
              simp only [h2] at hx; cases hx) ⟨i, by simpa using hlt, by simp only [hl]; rfl, by simp only [hset, addD_self]; rfl⟩
        omega

section region
variable {C : Cfg} {call : CallF} {lo nt : Nat} {ops : Array Oper} {st0 st : St} {T : List TE} {fs : Foots}

theorem Tr.foots (ht : Tr C call lo nt ops.toList st0 T st fs) : ∀ t, t ∈ T → t.skip = false → (t.i, t.r, t.w) ∈ fs := by
  induction ht with
  | nil => intro t h; simp at h
  | run h1 h2 h3 h4 h5 h6 ih =>
    intro t ht hs
    simp only [List.mem_cons] at ht
    rcases ht with rfl | ht
    · simp [TE.r, TE.w]
    · exact List.mem_cons_of_mem _ (ih t ht hs)
  | skip h1 h2 h3 h4 h5 h6 ih =>
    intro t ht hs
    simp only [List.mem_cons] at ht
    rcases ht with rfl | ht
    · cases hs
    · exact ih t ht hs

theorem disjN_spec {a b : List Nat} (h : disjN a b = true) : ∀ x, x ∈ a → x ∉ b := by
  intro x hx hb
  simp only [disjN, List.all_eq_true] at h
  have := h x hx
  rw [memN_iff.2 hb] at this; cases this

theorem apartF_spec (ht : Tr C call lo nt ops.toList st0 T st fs) (h : apartF (Region.before ops) fs = true) : ∀ t1 t2, t1 ∈ T → t2 ∈ T → t2.i < t1.i → t1.skip = false → t2.skip = false →
    Bef ops t1.i t2.i ∨ ((∀ x, x ∈ t1.w → x ∉ t2.r ∧ x ∉ t2.w) ∧ ∀ x, x ∈ t2.w → x ∉ t1.r) := by
  induction ht with
  | nil => intro t1 t2 h; simp at h
  | run h1 h2 h3 h4 h5 h6 ih =>
    rename_i T st fs o e v u nx
    simp only [apartF, Bool.and_eq_true, List.all_eq_true] at h
    obtain ⟨ha, hb⟩ := h
    intro t1 t2 m1 m2 hlt s1 s2
    simp only [List.mem_cons] at m1 m2
    rcases m2 with rfl | m2
    · rcases m1 with rfl | m1
      · omega
      · have := h1.index t1 m1; simp at hlt; omega
    · rcases m1 with rfl | m1
      · have := ha _ (h1.foots t2 m2 s2)
        simp only [Bool.or_eq_true, Bool.and_eq_true] at this
        rcases this with hbit | ⟨⟨d1, d2⟩, d3⟩
        · exact .inl hbit
        · exact .inr ⟨fun x hx => ⟨disjN_spec d1 x hx, disjN_spec d2 x hx⟩, fun x hx => disjN_spec d3 x hx⟩
      · exact ih hb t1 t2 m1 m2 hlt s1 s2
  | skip h1 h2 h3 h4 h5 h6 ih =>
    intro t1 t2 m1 m2 hlt s1 s2
    simp only [List.mem_cons] at m1 m2
    rcases m1 with rfl | m1
    · cases s1
    · rcases m2 with rfl | m2
      · cases s2
      · exact ih h t1 t2 m1 m2 hlt s1 s2

theorem Tr.oper (ht : Tr C call lo nt ops.toList st0 T st fs) {t : TE} (hm : t ∈ T) : ops[t.i]? = some t.o := by
  obtain ⟨L, E, rfl⟩ := List.append_of_mem hm
  have := (ht.at).1.o
  simpa using this
theorem Tr.skipped (ht : Tr C call lo nt ops.toList st0 T st fs) {t : TE} (hm : t ∈ T) (hs : t.skip = true) : t.w = [] := by
  obtain ⟨L, E, rfl⟩ := List.append_of_mem hm
  have := ((ht.at).1.skipped hs).2.1
  simp [TE.w, this]

theorem drawF_spec (ht : Tr C call lo nt ops.toList st0 T st fs) {mixed : Bool} (h : drawF mixed ops fs = true) : ∀ t1 t2, t1 ∈ T → t2 ∈ T → t2.i < t1.i → Bef ops t1.i t2.i ∨ TE.apart ops t1 t2 := by
  simp only [drawF, Bool.and_eq_true] at h
  obtain ⟨⟨he, hs⟩, ha⟩ := h
  intro t1 t2 m1 m2 hlt
  by_cases hb : Bef ops t1.i t2.i
  · exact .inl hb
  refine .inr ⟨?_, ?_⟩
  · simp only [slotsF, List.all_eq_true, List.mem_range, Bool.or_eq_true] at hs
    have h1 := ht.oper m1
    have hj : t1.i < ops.size := by
      rcases Nat.lt_or_ge t1.i ops.size with h' | h'
      · exact h'
      · rw [Array.getElem?_eq_none h'] at h1; cases h1
    have := hs t1.i hj t2.i hlt
    rw [h1, ht.oper m2] at this
    rcases this with h | h
    · exact absurd h hb
    · exact h
  · cases s1 : t1.skip with
    | true =>
      rw [ht.skipped m1 s1]
      exact ⟨fun x hx => by simp at hx, fun x _ => by simp [TE.r, s1]⟩
    | false =>
      cases s2 : t2.skip with
      | true =>
        rw [ht.skipped m2 s2]
        exact ⟨fun x _ => ⟨by simp [TE.r, s2], by simp⟩, fun x hx => by simp at hx⟩
      | false => exact (apartF_spec ht ha t1 t2 m1 m2 hlt s1 s2).resolve_left hb

theorem Good.drawn {st : St} {g : Gh} {a : Act} {w : World} {n : Nat} (hg : Good nt lo st g a w) : Step g w g { w with drawn := n } ∧ Good nt lo st g a { w with drawn := n } := by
  obtain ⟨h1, h2, h3⟩ := step_same (w' := { w with drawn := n }) hg.inv (Nat.le_refl _) (fun _ _ => rfl) rfl rfl
  exact ⟨h1, fun d => h1.stay (hg.tmps d), fun x b hx => (hg.sto x b hx).stay h1 h2 (by simp), h3, hg.lo, hg.size, hg.defers, hg.used⟩

theorem Good.toD {st : St} {g : Gh} {a : Act} {w : World} (hg : Good nt lo st g a w) (ht : Tr C call lo nt ops.toList st T st0 fs) : GoodD nt lo st T (fun _ => false) g a w := by
  refine ⟨fun d => ?_, fun x b hx => ?_, hg.inv, hg.lo, hg.size, hg.defers, fun x hx => .inl (hg.used x hx)⟩
  · have : valD st.env (fun _ => false) d T = look d st.env := by
      clear ht
      induction T with
      | nil => rfl
      | cons t T ih => simp [valD, ih]
    rw [this]; exact hg.tmps d
  · have : stoD st.sto (fun _ => false) x T = lookB x st.sto := by
      clear ht hx
      induction T with
      | nil => rfl
      | cons t T ih => simp [stoD, ih]
    rw [this] at hx; exact hg.sto x b hx

theorem region_ok {R : Type} {id : Nat} {draw : Bool} (hC : CfgOK C) (hcall : CallOK C.P call) {K : Kont R} {r : R}
    (h : opsK C call lo nt ops.toList ops.toList 0 [] st (kRegion (C.P.follows .mixedOrders) draw ops K) = some r)
    {g : Gh} {a : Act} {w : World} (hg : Good nt lo st g a w) {N : Nat → Prop} (hN : ∀ x, N x → g.used x) {Q : Exit → Act → World → Prop}
    (hQ : ∀ st' g' a' w', K .normal st' = some r → Good nt lo st' g' a' w' → Ext N g w g' w' → Q .normal a' w') : (Code.region id ops draw).wp C.P Q a w := by
  obtain ⟨T, st', fs, hlen, ht, hK⟩ := opsK_tr hC ops.toList [] st [] h .nil rfl
  have hlen' : T.length = ops.size := by simpa using hlen
  unfold kRegion at hK
  cases draw with
  | false =>
    simp only [cond_false] at hK
    refine wp_region (perm_ok (B := fun j i => i < j) hC hcall ht (fun t1 t2 _ _ h => .inl h) _ (fun _ => false) g a w (fun i j h => by cases h) ?_ (hg.toD ht) hN fun g' a' w' hg' he => hQ _ _ _ _ hK hg' he)
    rw [hlen', List.range_eq_range']
    exact sched_text ops.size ops.size 0 _ (by omega) fun i => by simp
  | true =>
    cases hd : drawF (C.P.follows .mixedOrders) ops fs with
    | false => simp [hd] at hK
    | true =>
      simp only [hd, cond_true] at hK
      have he : endsF (C.P.follows .mixedOrders) ops = true := by
        simp only [drawF, Bool.and_eq_true] at hd; exact hd.1.1
      obtain ⟨hst, hg1⟩ := hg.drawn (n := w.drawn + 1)
      refine wp_region_draw fun t => ?_
      have hD : (fun _ : Nat => false) = fun i => (Array.replicate ops.size false).getD i false := funext fun i => by
        by_cases h : i < ops.size <;> simp [Array.getD, h]
      have main : ∀ (md : Region.Mode) (L : List Nat) (t : Nat), modeF md ops L = true → wpOps C.P ops Q (Region.linearise md ops t) a { w with drawn := w.drawn + 1 } := fun md L t hm => by
        refine perm_ok (B := Bef ops) hC hcall ht (drawF_spec ht hd) _ (fun _ => false) g a _ (fun i j h => by cases h) ?_ (hg1.toD ht) hN fun g' a' w' hg' he => hQ _ _ _ _ hK hg' ((hst.weaken hN).trans he)
        rw [hlen', hD]
        refine sched_lin hm _ _ _ (by simp) (fun i j hi => ?_) ?_
        · by_cases h : i < ops.size <;> simp [Array.getD, h] at hi
        · exact Nat.le_trans (List.length_filter_le _ _) (by simp)
      unfold endsF at he
      unfold Region.schedule
      cases hm : (C.P.follows .mixedOrders || !Region.departs ops) with
      | true =>
        rw [hm] at he
        rw [if_pos rfl]
        exact main .any _ t he
      | false =>
        rw [hm] at he
        simp only [cond_false, Bool.and_eq_true] at he
        rw [if_neg (by simp)]
        split
        · exact main .text _ _ he.1
        · exact main .gc _ _ he.2

end region

end Am
end Go.Proofs.Ytooiechjanmdjaa
