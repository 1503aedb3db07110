/- The mirror machine: operations that turn no memory come to what the machine says. -/
import Derived.Test.YtooiechjanmdjaaAmRel
import Derived.Laws.StructEq
import Derived.Laws.Small
import Derived.Laws.Strings
import Derived.Laws.Concat
import Derived.WalkSpells
namespace Go.Proofs.Ytooiechjanmdjaa
namespace Am
set_option linter.unusedVariables false
set_option linter.unusedSimpArgs false

section inv
variable {g : Gh} {w : World} {V : Value}
theorem rel_int {k : IntKind} {n : Int} (h : Rel2 g w (.int k n) V) : V = .int k n := by
  simp only [Rel2, Rel1, Rel0] at h; cases h; rfl
theorem rel_bool {b : Bool} (h : Rel2 g w (.bool b) V) : V = .bool b := by
  simp only [Rel2, Rel1, Rel0] at h; cases h; rfl
theorem rel_str {s : ByteArray} (h : Rel2 g w (.str s) V) : V = .string s := by
  simp only [Rel2, Rel1, Rel0] at h; cases h; rfl
theorem rel_agg {vs : List AV} (h : Rel2 g w (.agg vs) V) : ∃ us : Array Value, V = .agg us ∧ AllR (Rel0 g w) vs us.toList := h
theorem rel_tuple {vs : List AV} (h : Rel2 g w (.tuple vs) V) : ∃ us : Array Value, V = .tuple us ∧ AllR (Rel1 g w) vs us.toList := h
theorem rel_func {f : Nat} {a b : List AV} (h : Rel2 g w (.func f a b) V) :
    ∃ A B : Array Value, V = .func (.func f) A B ∧ AllR (Rel0 g w) a A.toList ∧ AllR (Rel0 g w) b B.toList := h
theorem Rel0.to2 {v : AV} {V : Value} (h : Rel0 g w v V) : Rel2 g w v V := by
  cases v
  case func f a b =>
    obtain ⟨A, B, hV, ha, hb⟩ := h
    exact ⟨A, B, hV, ha.mono fun _ _ h => h.rel0, hb.mono fun _ _ h => h.rel0⟩
  all_goals first | exact h | exact h.elim
theorem Rel1.to2 {v : AV} {V : Value} (h : Rel1 g w v V) : Rel2 g w v V := by
  cases v <;> first | exact h | exact h.elim
theorem rel0_int (k : IntKind) (n : Int) : Rel0 g w (.int k n) (.int k n) := .int k n
theorem rel0_bool (b : Bool) : Rel0 g w (.bool b) (.bool b) := .bool b
theorem rel2_int (k : IntKind) (n : Int) : Rel2 g w (.int k n) (.int k n) := (rel0_int k n).to2
theorem rel2_bool (b : Bool) : Rel2 g w (.bool b) (.bool b) := (rel0_bool b).to2
theorem rel2_undef (V : Value) : Rel2 g w .undef V := trivial
end inv

theorem rel_const0 {g : Gh} {w : World} (V : Value) : Rel0 g w (ofConst0 V) V := by
  unfold ofConst0
  split <;> first
    | exact .bool _
    | exact .int _ _
    | exact .str _
    | exact .nilptr
    | exact .nilsl
    | exact .nilfunc
    | exact .niliface
    | trivial

theorem rel_const {g : Gh} {w : World} (V : Value) : Rel2 g w (ofConst V) V := by
  unfold ofConst
  split
  · rename_i cs
    refine ⟨cs, rfl, ?_⟩
    generalize cs.toList = l
    induction l with
    | nil => exact .nil
    | cons v l ih => exact .cons (rel_const0 v) ih
  · exact (rel_const0 V).to2

/-- operands -/
theorem rel_opv {g : Gh} {w : World} {e : Env} {a : Act} (h : ∀ d, Rel2 g w (look d e) (a.tmps.getD d undef)) (x : Operand) : Rel2 g w (opv e x) (a.eval x) := by
  cases x with
  | tmp t => exact h t
  | const v => exact rel_const v
  | func f => exact ⟨#[], #[], rfl, .nil, .nil⟩
  | global n => trivial

/-! ### sums, comparisons -/
theorem run_intBin {P : Program} {w : World} {op : BinOp} {t : TypeId} {k : IntKind} {a b : Int} {v : AV} {u : Upd} {g : Gh} (hs : isShift op = false)
    (h : intBinA op k a b = some (true, v, u)) : ∃ V, (binOp op t (.int k a) (.int k b)).run P w = .ok V w ∧ Rel2 g w v V ∧ u = [] := by
  cases op <;> simp only [intBinA, ret, retIf, Option.some.injEq, Prod.mk.injEq, reduceCtorEq] at h <;> (try (simp [isShift] at hs; done)) <;> obtain ⟨hc, rfl, rfl⟩ := h
  all_goals first
    | exact ⟨_, by simp only [binOp_add, Op.intArith, Sem.run_pure], rel2_int _ _, rfl⟩
    | exact ⟨_, by simp only [binOp_sub, Op.intArith, Sem.run_pure], rel2_int _ _, rfl⟩
    | exact ⟨_, by simp only [binOp_mul, Op.intArith, Sem.run_pure], rel2_int _ _, rfl⟩
    | exact ⟨_, by simp only [binOp_or, Op.intBits, Sem.run_pure]; rfl, rel2_int _ _, rfl⟩
    | exact ⟨_, by simp only [binOp_and, Op.intBits, Sem.run_pure]; rfl, rel2_int _ _, rfl⟩
    | exact ⟨_, by simp only [binOp_eql, Sem.run_pure], rel2_bool _, rfl⟩
    | exact ⟨_, by simp only [binOp_neq, Sem.run_pure], rel2_bool _, rfl⟩
    | exact ⟨_, by simp only [binOp_lss, Sem.run_pure], rel2_bool _, rfl⟩
    | exact ⟨_, by simp only [binOp_leq, Sem.run_pure], rel2_bool _, rfl⟩
    | exact ⟨_, by simp only [binOp_gtr, Sem.run_pure], rel2_bool _, rfl⟩
    | exact ⟨_, by simp only [binOp_geq, Sem.run_pure], rel2_bool _, rfl⟩
    | exact ⟨_, by have hb : b ≠ 0 := by simpa using hc
                   simp only [binOp_quo, Op.intDiv, hb, if_false, Sem.run_pure], rel2_int _ _, rfl⟩
    | exact ⟨_, by have hb : b ≠ 0 := by simpa using hc
                   simp only [binOp_rem, Op.intDiv, hb, if_false, Sem.run_pure], rel2_int _ _, rfl⟩

theorem run_shiftA {P : Program} {w : World} {op : BinOp} {t : TypeId} {k k' : IntKind} {a b : Int} {v : AV} {u : Upd} {g : Gh}
    (h : shiftA op k a b = some (true, v, u)) : ∃ V, (binOp op t (.int k a) (.int k' b)).run P w = .ok V w ∧ Rel2 g w v V ∧ u = [] := by
  cases op <;> simp only [shiftA, retIf, Option.some.injEq, Prod.mk.injEq, reduceCtorEq] at h <;> obtain ⟨hc, rfl, rfl⟩ := h
  all_goals
    have hb : ¬ b < 0 := by have := of_decide_eq_true hc; omega
    exact ⟨_, by simp only [binOp_shl, binOp_shr, Op.shift, hb, if_false, Sem.run_pure], rel2_int _ _, rfl⟩

/-! ### equality by type -/
theorem AllR.drop {r : AV → Value → Prop} {l : List AV} {L : List Value} (h : AllR r l L) : ∀ n, AllR r (l.drop n) (L.drop n) := by
  induction h with
  | nil => intro n; simp; exact .nil
  | cons a h ih => intro n; cases n with
    | zero => exact .cons a h
    | succ n => simpa using ih n

theorem AllR.take {r : AV → Value → Prop} {l : List AV} {L : List Value} (h : AllR r l L) : ∀ n, AllR r (l.take n) (L.take n) := by
  induction h with
  | nil => intro n; simp; exact .nil
  | cons a h ih => intro n; cases n with
    | zero => simp; exact .nil
    | succ n => simpa using .cons a (ih n)

/-- what '==' at a type finds: the values told by their cells -/
def asVal (agg : Bool) (L : List Value) : Value := if agg then .agg L.toArray else L.headD undef

theorem run_part {P : Program} {w : World} {t : TypeId} {n o : Nat} {X : Array Value} (hn : sizeT P t = some n) (hu : (P.underlying t).isSome = true)
    (h1 : isAggT P t = false → 1 ≤ n ∧ o < X.size) :
    (part t X o).run P w = .ok (asVal (isAggT P t) ((X.toList.drop o).take n)) w := by
  obtain ⟨d, hd⟩ := Option.isSome_iff_exists.1 hu
  obtain ⟨i, hi, rfl⟩ : ∃ i, P.info? t = some i ∧ i.size = n := by
    simp only [sizeT] at hn
    cases hh : P.info? t with
    | none => simp [hh] at hn
    | some i => simp [hh] at hn; exact ⟨i, rfl, hn⟩
  have hex : ∀ m, (X.extract o (o + m)) = ((X.toList.drop o).take m).toArray := by
    intro m
    apply Array.ext'
    simp [List.take_drop, Nat.add_comm]
  unfold part isAgg sizeOf typeInfo
  simp only [Sem.run_bind, run_underlying hd, Result.andThen_ok]
  cases d <;> simp only [isAggT, hd, asVal, Sem.run_pure, Result.andThen_ok, if_true, if_false, Bool.false_eq_true, run_program, Sem.run_bind, hi, hex]
  all_goals
    obtain ⟨h2, h3⟩ := h1 (by simp only [isAggT, hd])
    have hg : X[o]? = some X[o] := Array.getElem?_eq_getElem h3
    have hdrop : ((X.toList.drop o).take i.size).headD undef = X[o] := by
      obtain ⟨m, hm⟩ : ∃ m, i.size = m + 1 := ⟨i.size - 1, by omega⟩
      rw [hm, List.drop_eq_getElem_cons (by simpa using h3)]
      simp
    simp only [hg, hdrop, Sem.run_pure]

theorem AllR.one {r : AV → Value → Prop} {v : AV} {L : List Value} (h : AllR r [v] L) : ∃ V, L = [V] ∧ r v V := by
  cases h with
  | cons a h => cases h; exact ⟨_, rfl, a⟩

theorem rel0_int_inv {g : Gh} {w : World} {V : Value} {k : IntKind} {n : Int} (h : Rel0 g w (.int k n) V) : V = .int k n := by
  simp only [Rel0] at h; cases h; rfl
theorem rel0_bool_inv {g : Gh} {w : World} {V : Value} {b : Bool} (h : Rel0 g w (.bool b) V) : V = .bool b := by
  simp only [Rel0] at h; cases h; rfl
theorem rel0_str_inv {g : Gh} {w : World} {V : Value} {s : ByteArray} (h : Rel0 g w (.str s) V) : V = .string s := by
  simp only [Rel0] at h; cases h; rfl

theorem run_eqA {P : Program} {w : World} {g : Gh} : ∀ (d m : Nat) (t : TypeId) (xs ys : List AV) (X Y : List Value) (b : Bool),
    AllR (Rel0 g w) xs X → AllR (Rel0 g w) ys Y → eqA P d t xs ys = some b →
    (Op.equalIn (d + m) t (asVal (isAggT P t) X) (asVal (isAggT P t) Y)).run P w = .ok b w ∧ (isAggT P t = false → xs.length = 1 ∧ ys.length = 1) := by
  intro d
  induction d with
  | zero => intro m t xs ys X Y b _ _ h; simp [eqA] at h
  | succ d ih =>
    intro m t xs ys X Y b hx hy h
    unfold eqA at h
    rw [show d + 1 + m = (d + m) + 1 by omega]
    split at h
    · rename_i k0 ht
      split at h
      · rename_i k a k' b'
        have hag : isAggT P t = false := by simp only [isAggT, ht]
        obtain ⟨V, rfl, hV⟩ := hx.one
        obtain ⟨W, rfl, hW⟩ := hy.one
        obtain rfl := rel0_int_inv hV
        obtain rfl := rel0_int_inv hW
        by_cases hk : k = k'
        · subst hk
          simp at h
          subst h
          refine ⟨?_, fun _ => ⟨rfl, rfl⟩⟩
          simp only [hag, asVal, Bool.false_eq_true, if_false, List.headD_cons]
          exact run_equalIn_int w _ _ _ _ _ _ ht
        · simp [hk] at h
      · simp at h
    · rename_i ht
      split at h
      · rename_i a b'
        have hag : isAggT P t = false := by simp only [isAggT, ht]
        obtain ⟨V, rfl, hV⟩ := hx.one
        obtain ⟨W, rfl, hW⟩ := hy.one
        obtain rfl := rel0_bool_inv hV
        obtain rfl := rel0_bool_inv hW
        simp at h
        subst h
        refine ⟨?_, fun _ => ⟨rfl, rfl⟩⟩
        simp only [hag, asVal, Bool.false_eq_true, if_false, List.headD_cons]
        exact run_equalIn_bool w _ _ _ _ ht
      · simp at h
    · rename_i ht
      split at h
      · rename_i a b'
        have hag : isAggT P t = false := by simp only [isAggT, ht]
        obtain ⟨V, rfl, hV⟩ := hx.one
        obtain ⟨W, rfl, hW⟩ := hy.one
        obtain rfl := rel0_str_inv hV
        obtain rfl := rel0_str_inv hW
        simp at h
        subst h
        refine ⟨?_, fun _ => ⟨rfl, rfl⟩⟩
        simp only [hag, asVal, Bool.false_eq_true, if_false, List.headD_cons]
        exact run_equalIn_string w _ _ _ _ ht
      · simp at h
    · rename_i fs ht
      have hag : isAggT P t = true := by simp only [isAggT, ht]
      refine ⟨?_, fun hf => by rw [hag] at hf; cases hf⟩
      cases hst : P.stoodInHeld t with
      | true => simp [hst] at h
      | false =>
        simp only [hst, cond_false] at h
        simp only [hag, asVal, if_true]
        have hfo : P.fieldsOf t = fs := by simp only [Program.fieldsOf, ht]
        rw [run_equalIn_struct w (d + m) t X.toArray Y.toArray (by rw [hfo]; exact ht) hst, hfo]
        clear ht hfo
        generalize fs.toList = l at h
        induction l generalizing b with
        | nil => simp [eqA.eqFieldsA] at h; subst h; simp [Op.eqFields]
        | cons f l ihl =>
          unfold eqA.eqFieldsA at h
          cases hname : (f.name == "_") with
          | true => simp [hname] at h
          | false =>
            simp only [hname, cond_false] at h
            split at h
            · simp at h
            · rename_i n hn
              split at h
              · rename_i a b' ha hb
                simp only [Option.some.injEq] at h
                subst h
                have hne : f.name ≠ "_" := by simpa using hname
                have ihf := ih m f.type _ _ _ _ a ((hx.drop f.offset).take n) ((hy.drop f.offset).take n) ha
                have hun : (P.underlying f.type).isSome = true := by
                  cases hu : P.underlying f.type with
                  | some _ => rfl
                  | none =>
                    cases d with
                    | zero => simp [eqA] at ha
                    | succ d => simp [eqA, hu] at ha
                have hlen : isAggT P f.type = false → 1 ≤ n ∧ f.offset < X.length ∧ f.offset < Y.length := by
                  intro hf
                  obtain ⟨l1, l2⟩ := ihf.2 hf
                  simp only [List.length_take, List.length_drop] at l1 l2
                  have e1 := hx.length
                  have e2 := hy.length
                  omega
                have hpx := run_part (P := P) (w := w) (X := X.toArray) (o := f.offset) hn hun (fun hf => ⟨(hlen hf).1, by simpa using (hlen hf).2.1⟩)
                have hpy := run_part (P := P) (w := w) (X := Y.toArray) (o := f.offset) hn hun (fun hf => ⟨(hlen hf).1, by simpa using (hlen hf).2.2⟩)
                simp only [Op.eqFields, hne, ne_eq, not_false_eq_true, if_true, Sem.run_bind, hpx, hpy, Result.andThen_ok, ihf.1]
                cases a with
                | false => simp
                | true => simpa using ihl b' hb
              · simp at h
    · simp at h


/-- the operation comes to a value in the same world -/
def Quiet (P : Program) (g : Gh) (w : World) (m : Sem Value) (v : AV) (u : Upd) : Prop := ∃ V, m.run P w = .ok V w ∧ Rel2 g w v V ∧ u = []

theorem eqGuard_at_slice {P : Program} {w : World} {op : BinOp} {t : TypeId} {x y : Operand} {a b : Option Addr} {n c m d : Nat} : (eqGuard op t x y (.slice a n c) (.slice b m d)).run P w = .ok () w := by
  unfold eqGuard
  cases op <;> rfl
theorem quiet_nil {P : Program} {w : World} {g : Gh} {op : BinOp} {t : TypeId} {x y : Operand} {a : Option Addr} {n c : Nat} {b : Bool} {v : AV} {u : Upd} (hb : a.isNone = b) (h : nilA P op t b = some (true, v, u)) :
    Quiet P g w (do eqGuard op t x y (.slice a n c) (.slice none 0 0); binOp op t (.slice a n c) (.slice none 0 0)) v u := by
  unfold nilA at h
  split at h
  · rename_i e ht
    subst hb
    cases op <;> simp only [ret, Option.some.injEq, Prod.mk.injEq, reduceCtorEq, true_and] at h <;> obtain ⟨rfl, rfl⟩ := h
    · exact ⟨_, by simp only [Sem.run_bind, eqGuard_at_slice, Result.andThen_ok, Lib.run_eql_slice_nil w t e a n c 0 0 ht], rel2_bool _, rfl⟩
    · exact ⟨_, by simp only [Sem.run_bind, eqGuard_at_slice, Result.andThen_ok, run_neq_slice_nil_any w t e a n c 0 0 ht], rel2_bool _, rfl⟩
  · cases h

theorem quiet_bin {P : Program} {w : World} {g : Gh} {op : BinOp} {t : TypeId} {x y : Operand} {a b v : AV} {A B : Value} {u : Upd}
    (ha : Rel2 g w a A) (hb : Rel2 g w b B) (h : binA P op t a b = some (true, v, u)) :
    Quiet P g w (do eqGuard op t x y A B; binOp op t A B) v u := by
  unfold binA at h
  split at h
  · obtain rfl := rel_int ha
    obtain rfl := rel_int hb
    rw [eqGuard_at_int]
    cases hs : isShift op with
    | true =>
      simp only [hs, cond_true] at h
      obtain ⟨V, h1, h2⟩ := run_shiftA (P := P) (w := w) (t := t) (g := g) h
      exact ⟨V, by simpa using h1, h2⟩
    | false =>
      rename_i k n k' n'
      simp only [hs, cond_false] at h
      by_cases hk : k = k'
      · subst hk
        simp only [decide_true, cond_true] at h
        obtain ⟨V, h1, h2⟩ := run_intBin (P := P) (w := w) (t := t) (g := g) hs h
        exact ⟨V, by simpa using h1, h2⟩
      · simp [hk] at h
  · obtain rfl := rel_bool ha
    obtain rfl := rel_bool hb
    rw [eqGuard_at_bool]
    split at h
    · rename_i ht
      cases op <;> simp only [ret, Option.some.injEq, Prod.mk.injEq, reduceCtorEq, true_and] at h <;> obtain ⟨rfl, rfl⟩ := h
      all_goals
        refine ⟨_, ?_, rel2_bool _, rfl⟩
        simp only [Sem.run_bind, Sem.run_pure, Result.andThen_ok, binOp, Op.equal, Op.maxDepth, run_equalIn_bool w 9999 t _ _ ht]
    · simp at h
  · obtain rfl := rel_str ha
    obtain rfl := rel_str hb
    rename_i sa sb
    rw [eqGuard_at_string]
    by_cases hop : op = .add
    · subst hop
      simp only [Option.some.injEq, Prod.mk.injEq] at h
      obtain ⟨hs, rfl, rfl⟩ := h
      have hle := Nat.le_of_ble_eq_true hs
      exact ⟨_, by simp only [Sem.run_bind, Sem.run_pure, Result.andThen_ok, binOp_string_add, run_string_add_sum w sa sb (by omega)], Rel0.to2 (.str _), rfl⟩
    · cases op <;> simp only [ret, Option.some.injEq, Prod.mk.injEq, reduceCtorEq, true_and, not_true_eq_false] at h hop <;> obtain ⟨rfl, rfl⟩ := h
      all_goals
        refine ⟨_, ?_, rel2_bool _, rfl⟩
        simp only [Sem.run_bind, Sem.run_pure, Result.andThen_ok, binOp_string_eql, binOp_string_neq]
  · rename_i xs ys
    obtain ⟨X, rfl, hX⟩ := rel_agg ha
    obtain ⟨Y, rfl, hY⟩ := rel_agg hb
    cases hg : P.eqGuardType P.depth t with
    | true => simp [hg] at h
    | false =>
    cases hag : isAggT P t with
    | false => simp [hag] at h
    | true =>
      simp only [hg, hag, Bool.not_true, Bool.or_false, cond_false] at h
      split at h
      · rename_i b' heq
        have := (run_eqA (P := P) (w := w) 10 9990 t xs ys X.toList Y.toList b' hX hY heq).1
        simp only [hag, asVal, if_true, Array.toArray_toList] at this
        cases op <;> simp only [ret, Option.some.injEq, Prod.mk.injEq, reduceCtorEq, true_and] at h <;> obtain ⟨rfl, rfl⟩ := h
        all_goals
          refine ⟨_, ?_, rel2_bool _, rfl⟩
          simp only [Sem.run_bind, run_eqGuard_agg w _ t x y X Y hg, Result.andThen_ok, run_eql_struct, run_neq_struct, this]
      · simp at h
  · simp only [Rel2, Rel1, Rel0] at ha hb
    cases hb
    cases ha with
    | vi _ _ a cap hcap hc =>
      obtain ⟨B, o, rfl, _⟩ := hc (by simp)
      exact quiet_nil rfl h
  · simp only [Rel2, Rel1, Rel0] at ha hb
    cases hb
    cases ha
    exact quiet_nil rfl h
  · simp only [Rel2, Rel1, Rel0] at ha hb
    cases hb
    cases ha
    exact quiet_nil rfl h
  · simp at h

theorem quiet_un {P : Program} {w : World} {g : Gh} {op : UnOp} {a v : AV} {A : Value} {u : Upd} (ha : Rel2 g w a A) (h : unA op a = some (true, v, u)) :
    Quiet P g w (Op.unary op A) v u := by
  unfold unA at h
  split at h
  · obtain rfl := rel_bool ha
    cases op <;> simp only [ret, Option.some.injEq, Prod.mk.injEq, reduceCtorEq, true_and] at h
    obtain ⟨rfl, rfl⟩ := h
    exact ⟨_, by simp only [Op.unary, Sem.run_pure], rel2_bool _, rfl⟩
  · obtain rfl := rel_int ha
    cases op <;> simp only [ret, Option.some.injEq, Prod.mk.injEq, reduceCtorEq, true_and] at h
    obtain ⟨rfl, rfl⟩ := h
    exact ⟨_, by simp only [Op.unary, Op.intArith, Sem.run_pure], rel2_int _ _, rfl⟩
  · simp at h

theorem quiet_extract {P : Program} {w : World} {g : Gh} {a v : AV} {A : Value} {u : Upd} {i : Nat} (ha : Rel2 g w a A) (h : extractA a i = some (true, v, u)) :
    Quiet P g w (Instr.extract A i) v u := by
  unfold extractA at h
  split at h
  · rename_i vs
    obtain ⟨us, rfl, hus⟩ := rel_tuple ha
    cases hv : vs[i]? with
    | none => simp [hv] at h
    | some x =>
      simp only [hv, Option.bind_some, ret, Option.some.injEq, Prod.mk.injEq, true_and] at h
      obtain ⟨rfl, rfl⟩ := h
      have hi : i < vs.length := by
        rcases Nat.lt_or_ge i vs.length with h' | h'
        · exact h'
        · simp [List.getElem?_eq_none h'] at hv
      have hg := hus.get i hi
      have hx : vs.getD i .undef = x := by simp [List.getD, hv]
      rw [hx] at hg
      have hlen := hus.length
      have hi' : i < us.size := by simpa using (show i < us.toList.length by omega)
      have hu : us[i]? = some us[i] := Array.getElem?_eq_getElem hi'
      refine ⟨us[i], by simp only [Instr.extract, hu, Sem.run_pure], ?_, rfl⟩
      have : us.toList.getD i undef = us[i] := by simp [List.getD, hi']
      rw [this] at hg
      exact hg.to2
  · simp at h

theorem quiet_nilCheck {P : Program} {w : World} {g : Gh} {a v : AV} {A : Value} {u : Upd} (ha : Rel2 g w a A) (h : nilCheckA a = some (true, v, u)) :
    ∃ V, (execOp (fun _ => A) { dst := none, op := .nilCheck (.const .nilFunc), type := 0, pos := "", after := #[], guard := none }).run P w = .ok (.value V) w ∧ Rel2 g w v V ∧ u = [] := by
  unfold nilCheckA at h
  split at h
  · rename_i x o s
    simp only [ret, Option.some.injEq, Prod.mk.injEq, true_and] at h
    obtain ⟨rfl, rfl⟩ := h
    have ha' := ha
    simp only [Rel2, Rel1, Rel0] at ha
    obtain ⟨_, _, _, rfl⟩ := ha
    exact ⟨_, by simp [execOp], ha', rfl⟩
  · rename_i f a b
    simp only [ret, Option.some.injEq, Prod.mk.injEq, true_and] at h
    obtain ⟨rfl, rfl⟩ := h
    obtain ⟨A', B', rfl, hA, hB⟩ := rel_func ha
    exact ⟨_, by simp [execOp], ⟨A', B', rfl, hA, hB⟩, rfl⟩
  · simp at h

end Am
end Go.Proofs.Ytooiechjanmdjaa
