/- The mirror machine: an operation of the program does what the machine says. -/
import Derived.Test.YtooiechjanmdjaaAmEff
namespace Go.Proofs.Ytooiechjanmdjaa
namespace Am
set_option linter.unusedVariables false
set_option linter.unusedSimpArgs false

theorem Eff.at_some {e : Eff} {nx nx' : Nat} {c : Bool} {v : AV} {u : Upd} (h : e.at nx = some (c, v, u, nx')) : e = some (c, v, u) ∧ nx' = nx := by
  unfold Eff.at at h
  split at h
  · simp only [Option.some.injEq, Prod.mk.injEq] at h; obtain ⟨rfl, rfl, rfl, rfl⟩ := h; exact ⟨rfl, rfl⟩
  · simp at h

theorem wp_value {P : Program} {o : Oper} {a : Act} {w w' : World} {V : Value} {next : Act → World → Prop} {Q : Exit → Act → World → Prop}
    (h : (execOp a.eval o).run P w = .ok (.value V) w') (hn : next (a.put o.dst V) w') : o.wp P a w next Q := by
  simp only [Oper.wp, h, Oper.upon]; exact hn

theorem wp_skip' {P : Program} {o : Oper} {a : Act} {w w' : World} {next : Act → World → Prop} {Q : Exit → Act → World → Prop}
    (h : (execOp a.eval o).run P w = .ok .skip w') (hn : next (a.put o.dst undef) w') : o.wp P a w next Q := by
  simp only [Oper.wp, h, Oper.upon]; exact hn

theorem wp_enter {P : Program} {o : Oper} {a : Act} {w : World} {f : FuncId} {args : Array Value} {next : Act → World → Prop} {Q : Exit → Act → World → Prop} {R : Value → World → Prop}
    (h : (execOp a.eval o).run P w = .ok (.enter f args) w) (hc : Calls P f args w fun e w' => ∃ V, e = .returned V ∧ R V w') (hn : ∀ V w', R V w' → next (a.put o.dst V) w') : o.wp P a w next Q := by
  simp only [Oper.wp, h, Oper.upon]
  refine hc.mono ?_
  rintro e w' ⟨V, rfl, hr⟩
  exact hn V w' hr

theorem AllR.ofOps {g : Gh} {w : World} {e : Env} {a : Act} : ∀ {l : List Operand}, (∀ x, x ∈ l → Rel2 g w (opv e x) (a.eval x)) → AllR (Rel2 g w) (l.map (opv e)) (l.map a.eval)
  | [], _ => .nil
  | x :: l, h => .cons (h x (by simp)) (AllR.ofOps fun y hy => h y (by simp [hy]))

theorem PartsR.ofOps {g : Gh} {w : World} {e : Env} {a : Act} : ∀ {l : List (Nat × Operand)}, (∀ x, x ∈ l.map (·.2) → Rel2 g w (opv e x) (a.eval x)) →
    PartsR g w (l.map fun p => (p.1, opv e p.2)) (l.map fun p => (p.1, a.eval p.2))
  | [], _ => .nil
  | (i, x) :: l, h => .cons (h x (by simp)) (PartsR.ofOps fun y hy => h y (by simp only [List.map_cons, List.mem_cons]; exact .inr hy))

theorem OptR.ofOp {g : Gh} {w : World} {e : Env} {a : Act} {o : Option Operand} (h : ∀ x, o = Option.some x → Rel2 g w (opv e x) (a.eval x)) : OptR g w (o.map (opv e)) (o.map a.eval) := by
  cases o with
  | none => exact .none
  | some x => exact .some (h x rfl)

/-- a function value's call -/
theorem run_callValue {P : Program} {w : World} {a : Act} {f : Nat} {A B : Array Value} {fo : Operand} {args : Array Operand} {ts : Array TypeId} {ty : TypeId} {fn : Func}
    (hf : a.eval fo = .func (.func f) A B) (hfn : P.funcs[f]? = some fn) (hb : fn.body.isSome = true) (hn : fn.name ≠ "runtime.NumGoroutine") :
    (do let d ← resolve a.eval { callee := .value fo, args := args, argTypes := ts } ty; invoke d.target d.args : Sem Next).run P w = .ok (.enter f (A ++ args.map a.eval ++ B)) w := by
  have hb2 : fn.body ≠ none := by intro h; rw [h] at hb; cases hb
  simp [resolve, hf, Deferred.ofValue, invoke, callFunc, hfn, hb2, hn]


theorem rel_is0 {g : Gh} {w : World} {v : AV} {V : Value} (h : Rel2 g w v V) (h0 : v.is0 = true) : Rel0 g w v V := by
  cases v <;> first
    | exact h
    | (simp [AV.is0] at h0)

theorem effA_ok {C : Cfg} (hC : CfgOK C) {call : CallF} (hcall : CallOK C.P call) {lo : Nat} {o : Oper} {e : Env} {s : Sto} {base nx : Nat} {v : AV} {u : Upd} {g : Gh} {a : Act} {w : World}
    (h : effA C call lo o.op e s base = some (true, v, u, nx)) (hops : ∀ x, x ∈ o.op.operands → Rel2 g w (opv e x) (a.eval x))
    (hbox : ∀ x, x ∈ footA o.op e s → ∀ b, lookB x s = some b → RelB g w x b) (hi : Inv g w) (hlo : g.lo = lo) (hfresh : ∀ x, base ≤ x → x < nx → ¬ g.used x)
    {next : Act → World → Prop} {Q : Exit → Act → World → Prop} (hn : ∀ V g' w', Post base nx g w v u V g' w' → next (a.put o.dst V) w') : o.wp C.P a w next Q := by
  obtain ⟨dst, op, type, pos, after, guard⟩ := o
  have quiet : ∀ (m : Sem Value), execOp a.eval ⟨dst, op, type, pos, after, guard⟩ = (do pure (.value (← m))) → Quiet C.P g w m v u → Oper.wp C.P ⟨dst, op, type, pos, after, guard⟩ a w next Q := by
    intro m hm hq
    obtain ⟨V, h1, h2⟩ := Post.quiet (base := base) (nx := nx) hq hi
    exact wp_value (by rw [hm]; simp [h1]) (hn V g w h2)
  have post : ∀ (m : Sem Value), execOp a.eval ⟨dst, op, type, pos, after, guard⟩ = (do pure (.value (← m))) → (∃ V w' g', m.run C.P w = .ok V w' ∧ Post base nx g w v u V g' w') →
      Oper.wp C.P ⟨dst, op, type, pos, after, guard⟩ a w next Q := by
    intro m hm ⟨V, w', g', h1, h2⟩
    exact wp_value (by rw [hm]; simp [h1]) (hn V g' w' h2)
  cases op <;> simp only [effA, reduceCtorEq] at h <;> simp only [Op.operands] at hops <;> simp only [footA] at hbox
  case move x =>
    obtain ⟨h1, rfl⟩ := Eff.at_some h
    simp only [ret, Option.some.injEq, Prod.mk.injEq, true_and] at h1
    obtain ⟨rfl, rfl⟩ := h1
    exact quiet (pure (a.eval x)) (by simp [execOp]) ⟨_, by simp, hops x (by simp), rfl⟩
  case assign x =>
    obtain ⟨h1, rfl⟩ := Eff.at_some h
    simp only [ret, Option.some.injEq, Prod.mk.injEq, true_and] at h1
    obtain ⟨rfl, rfl⟩ := h1
    exact quiet (pure (a.eval x)) (by simp [execOp]) ⟨_, by simp, hops x (by simp), rfl⟩
  case pick c x y =>
    split at h
    · rename_i b hc
      obtain ⟨h1, rfl⟩ := Eff.at_some h
      simp only [ret, Option.some.injEq, Prod.mk.injEq, true_and] at h1
      obtain ⟨rfl, rfl⟩ := h1
      have hcr := hops c (by simp)
      rw [hc] at hcr
      have hcv := rel_bool hcr
      refine quiet (do pure (if ← asBool (a.eval c) then a.eval x else a.eval y)) (by simp [execOp]) ⟨if b then a.eval x else a.eval y, by simp [hcv, asBool], ?_, rfl⟩
      cases b
      · exact hops y (by simp)
      · exact hops x (by simp)
    · simp at h
  case alloc t =>
    split at h
    · rename_i z hz
      obtain ⟨h1, rfl⟩ := Eff.at_some h
      exact post _ rfl (post_alloc hi (hfresh base (Nat.le_refl _) (by omega)) hz h1)
    · simp at h
  case box t x =>
    obtain ⟨h1, rfl⟩ := Eff.at_some h
    exact post _ rfl (post_box hi (hfresh base (Nat.le_refl _) (by omega)) (hops x (by simp)) h1)
  case build t parts =>
    obtain ⟨h1, rfl⟩ := Eff.at_some h
    refine quiet _ rfl (quiet_build ?_ h1)
    have := PartsR.ofOps (g := g) (w := w) (e := e) (a := a) (l := parts.toList) (fun x hx => hops x (by simpa using hx))
    simpa using this
  case buildSlice t n parts =>
    have hparts := PartsR.ofOps (g := g) (w := w) (e := e) (a := a) (l := parts.toList) (fun x hx => hops x (by simpa using hx))
    split at h
    · rename_i r hr
      obtain ⟨h1, rfl⟩ := Eff.at_some h
      cases h1
      exact post _ rfl (post_buildSlice hi (by simpa using hparts) hr)
    · obtain ⟨h1, rfl⟩ := Eff.at_some h
      exact post _ rfl (post_buildSliceB hi (hfresh base (Nat.le_refl _) (by omega)) (by simpa using hparts) h1)
  case load t x =>
    obtain ⟨h1, rfl⟩ := Eff.at_some h
    exact quiet _ rfl (quiet_load (hops x (by simp)) hbox h1)
  case store t x y =>
    obtain ⟨h1, rfl⟩ := Eff.at_some h
    obtain ⟨w', g', h2, h3⟩ := post_store (base := nx) (nx := nx) (hi := hi) (ha := hops x (by simp)) (hX := hops y (by simp)) hbox h1
    exact wp_skip' (by simp [execOp, h2]) (hn _ g' w' h3)
  case nilCheck x =>
    obtain ⟨h1, rfl⟩ := Eff.at_some h
    obtain ⟨V, h2, h3⟩ := quiet_nilCheck (P := C.P) (hops x (by simp)) h1
    have : execOp a.eval ⟨dst, .nilCheck x, type, pos, after, guard⟩ = execOp (fun _ => a.eval x) { dst := none, op := .nilCheck (.const .nilFunc), type := 0, pos := "", after := #[], guard := none } := by simp only [execOp]
    obtain ⟨V', h4, h5⟩ := Post.quiet (P := C.P) (base := nx) (nx := nx) (m := pure V) ⟨V, rfl, h3⟩ hi
    simp at h4
    subst h4
    exact wp_value (by rw [this]; exact h2) (hn V g w h5)
  case binOp op t x y t' =>
    obtain ⟨h1, rfl⟩ := Eff.at_some h
    exact quiet _ rfl (quiet_bin (hops x (by simp)) (hops y (by simp)) h1)
  case unOp op t x =>
    obtain ⟨h1, rfl⟩ := Eff.at_some h
    exact quiet _ rfl (quiet_un (hops x (by simp)) h1)
  case convert t t' x =>
    obtain ⟨h1, rfl⟩ := Eff.at_some h
    exact quiet _ rfl (quiet_convert (hops x (by simp)) hbox h1)
  case makeFunc fn first captured =>
    obtain ⟨h1, rfl⟩ := Eff.at_some h
    unfold funcA at h1
    split at h1
    · rename_i f
      cases hp : first.toList.map (opv e) |>.all AV.is0 with
      | false => simp [hp] at h1
      | true =>
      cases hq : captured.toList.map (opv e) |>.all AV.is0 with
      | false => simp [hq] at h1
      | true =>
      simp only [hp, hq, Bool.and_self, cond_true, ret, Option.some.injEq, Prod.mk.injEq, true_and] at h1
      obtain ⟨rfl, rfl⟩ := h1
      have hA := (AllR.ofOps (g := g) (w := w) (e := e) (a := a) (l := first.toList) (fun x hx => hops x (by simp at hx ⊢; exact .inl hx))).mono' fun v V hm hv => rel_is0 hv (List.all_eq_true.1 hp v hm)
      have hB := (AllR.ofOps (g := g) (w := w) (e := e) (a := a) (l := captured.toList) (fun x hx => hops x (by simp at hx ⊢; exact .inr hx))).mono' fun v V hm hv => rel_is0 hv (List.all_eq_true.1 hq v hm)
      refine quiet _ rfl ⟨_, by simp [Instr.makeFunc]; rfl, ?_, rfl⟩
      exact ⟨_, _, rfl, by simpa using hA, by simpa using hB⟩
    · simp at h1
  case makeSlice t l c =>
    obtain ⟨h1, rfl⟩ := Eff.at_some h
    refine post _ rfl (post_makeSlice hi (hfresh base (Nat.le_refl _) (by omega)) (hops l (by simp)) (hops c (by simp)) (fun hz => ?_) h1)
    unfold isZeroConst at hz
    split at hz
    · exact ⟨_, rfl⟩
    · cases hz
  case slice t x lo' hi' mx =>
    obtain ⟨h1, rfl⟩ := Eff.at_some h
    refine quiet _ rfl (quiet_slice (hops x (by simp)) (OptR.ofOp fun y hy => hops y (by simp [hy])) (OptR.ofOp fun y hy => hops y (by simp [hy])) (OptR.ofOp fun y hy => hops y (by simp [hy])) hbox h1)
  case fieldAddr t x f =>
    obtain ⟨h1, rfl⟩ := Eff.at_some h
    exact quiet _ rfl (quiet_fieldAddr (hops x (by simp)) h1)
  case field t x f =>
    obtain ⟨h1, rfl⟩ := Eff.at_some h
    exact quiet _ rfl (quiet_field (hops x (by simp)) h1)
  case indexAddr t x y =>
    obtain ⟨h1, rfl⟩ := Eff.at_some h
    exact quiet _ rfl (quiet_indexAddr (hops x (by simp)) (hops y (by simp)) hbox h1)
  case extract x i =>
    obtain ⟨h1, rfl⟩ := Eff.at_some h
    exact quiet _ rfl (quiet_extract (hops x (by simp)) h1)
  case call c =>
    obtain ⟨callee, args, ts⟩ := c
    simp only [Call.operands] at hops
    cases callee with
    | value fo =>
      simp only at h hops hbox
      split at h
      · rename_i f first captured hfo
        cases hbody : hasBody C.P f with
        | false => simp [hbody] at h
        | true =>
          simp only [hbody, cond_true] at h
          have hfr := hops fo (by simp)
          rw [hfo] at hfr hbox
          obtain ⟨A, B, hfv, hA, hB⟩ := rel_func hfr
          obtain ⟨fn, hfn, hbs⟩ : ∃ fn, C.P.funcs[f]? = some fn ∧ fn.body.isSome = true := by
            unfold hasBody at hbody
            split at hbody
            · rename_i fn hh; exact ⟨fn, hh, hbody⟩
            · cases hbody
          have hargs := AllR.ofOps (g := g) (w := w) (e := e) (a := a) (l := args.toList) (fun x hx => hops x (by simp at hx ⊢; exact .inr hx))
          have hall : AllR (Rel2 g w) (first ++ args.toList.map (opv e) ++ captured) (A.toList ++ args.toList.map a.eval ++ B.toList) :=
            ((hA.mono fun v V h => h.to2).append hargs).append (hB.mono fun v V h => h.to2)
          have hcall' := call_ok hC hcall h hall hbox hi hlo hfresh
          refine wp_enter (f := f) (args := A ++ args.map a.eval ++ B) (by
            have := run_callValue (P := C.P) (w := w) (ts := ts) (ty := type) (args := args) hfv hfn hbs (hC.noNum f fn hfn)
            simpa [execOp] using this) (R := fun V w' => ∃ g', Post base nx g w v u V g' w') ?_ (fun V w' ⟨g', hp⟩ => hn V g' w' hp)
          have harr : (A.toList ++ args.toList.map a.eval ++ B.toList).toArray = A ++ args.map a.eval ++ B := by
            apply Array.ext'; simp
          rw [harr] at hcall'
          exact hcall'.mono fun e w' ⟨V, g', h1, h2⟩ => ⟨V, h1, g', h2⟩
      · simp at h
    | invoke r m => simp at h
    | builtin b =>
      cases b <;> simp only [reduceCtorEq] at h
      case len =>
        simp only at h hops hbox
        split at h
        · rename_i x t hx ht
          cases hsl : isSliceT C.P t with
          | false => simp [hsl] at h
          | true =>
          simp only [hsl, cond_true] at h
          split at h
          · rename_i n hl
            obtain ⟨h1, rfl⟩ := Eff.at_some h
            simp only [ret, Option.some.injEq, Prod.mk.injEq, true_and] at h1
            obtain ⟨rfl, rfl⟩ := h1
            have ea : args = #[x] := by apply Array.ext'; simpa using hx
            have et : ts = #[t] := by apply Array.ext'; simpa using ht
            subst ea et
            have hu : ∃ e, C.P.underlying t = some (.slice e) := by
              unfold isSliceT at hsl
              split at hsl
              · rename_i e he; exact ⟨e, he⟩
              · cases hsl
            have hq := quiet_len (P := C.P) (ts := #[]) (ty := type) (hops x (by simp)) (fun y hy => hbox y (by simpa using hy)) hu hl
            obtain ⟨V, h2, h3⟩ := Post.quiet (P := C.P) (base := nx) (nx := nx) (g := g) (v := .int .i64 n) (u := []) ⟨_, hq, rel2_int _ _, rfl⟩ hi
            exact wp_value (by simp [execOp, resolve, invoke, builtin, h2]) (hn V g w h3)
          · simp at h
        · simp at h
      case append =>
        split at h
        · rename_i d x t t' hda hta
          cases htt : Nat.beq t t' with
          | false => simp [htt] at h
          | true =>
            obtain rfl := Nat.beq_true htt
            simp only [htt, cond_true] at h
            obtain ⟨h1, rfl⟩ := Eff.at_some h
            have ea : args = #[d, x] := by apply Array.ext'; simpa using hda
            have et : ts = #[t, t] := by apply Array.ext'; simpa using hta
            subst ea et
            obtain ⟨V, w', g', h2, h3⟩ := post_append (P := C.P) (ty := type) hi (hfresh base (Nat.le_refl _) (by omega)) (hops d (by simp)) (hops x (by simp))
              (fun y hy => hbox y (by simp [hy])) (fun y hy => hbox y (by simp [hy])) h1
            exact wp_value (by simp [execOp, resolve, invoke, builtin, h2]) (hn V g' w' h3)
        · simp at h
      case min =>
        obtain ⟨h1, rfl⟩ := Eff.at_some h
        have hargs := AllR.ofOps (g := g) (w := w) (e := e) (a := a) (l := args.toList) (fun x hx => hops x (by simp at hx ⊢; exact hx))
        have hq := quiet_minmax (P := C.P) (ts := ts) (ty := type) hargs h1
        obtain ⟨V, h2, h3⟩ := Post.quiet (base := nx) (nx := nx) hq hi
        have harr : (args.toList.map a.eval).toArray = args.map a.eval := by apply Array.ext'; simp
        rw [harr] at h2
        exact wp_value (by simp at h2; simp [execOp, resolve, invoke, builtin, h2]) (hn V g w h3)
      case max =>
        obtain ⟨h1, rfl⟩ := Eff.at_some h
        have hargs := AllR.ofOps (g := g) (w := w) (e := e) (a := a) (l := args.toList) (fun x hx => hops x (by simp at hx ⊢; exact hx))
        have hq := quiet_minmax (P := C.P) (ts := ts) (ty := type) hargs h1
        obtain ⟨V, h2, h3⟩ := Post.quiet (base := nx) (nx := nx) hq hi
        have harr : (args.toList.map a.eval).toArray = args.map a.eval := by apply Array.ext'; simp
        rw [harr] at h2
        exact wp_value (by simp at h2; simp [execOp, resolve, invoke, builtin, h2]) (hn V g w h3)

/-- what an operation does, or the case of it that holds -/
def EffIs (C : Cfg) (call : CallF) (lo : Nat) (o : Op) (e : Env) (s : Sto) (base : Nat) (v : AV) (u : Upd) (nx : Nat) : Prop :=
  effA C call lo o e s base = some (true, v, u, nx) ∨ (nx = base ∧ ∃ alts, splitX C lo o e s = some (alts, u) ∧ pickL alts = some v) ∨
    ∃ (f : Nat) (as' : List AV) (s' : Sto) (L : List Nat) (p : AV × Upd × Nat), inlX C lo o e s = some (f, as', s', L) ∧ RawOK C.P f as' s' L.length p.1 p.2.1 p.2.2 ∧
      v = renV (backN L base) p.1 ∧ u = renU (backN L base) p.2.1 ∧ nx = base + (p.2.2 - L.length)

theorem eff_ok {C : Cfg} (hC : CfgOK C) {call : CallF} (hcall : CallOK C.P call) {lo : Nat} {o : Oper} {e : Env} {s : Sto} {base nx : Nat} {v : AV} {u : Upd} {g : Gh} {a : Act} {w : World}
    (h : EffIs C call lo o.op e s base v u nx) (hops : ∀ x, x ∈ o.op.operands → Rel2 g w (opv e x) (a.eval x))
    (hbox : ∀ x, x ∈ footA o.op e s → ∀ b, lookB x s = some b → RelB g w x b) (hi : Inv g w) (hlo : g.lo = lo) (hfresh : ∀ x, base ≤ x → x < nx → ¬ g.used x)
    {next : Act → World → Prop} {Q : Exit → Act → World → Prop} (hn : ∀ V g' w', Post base nx g w v u V g' w' → next (a.put o.dst V) w') : o.wp C.P a w next Q := by
  rcases h with h | ⟨rfl, alts, h, hp⟩ | ⟨f, as', s', L, p, h, hraw, rfl, rfl, rfl⟩
  · exact effA_ok hC hcall h hops hbox hi hlo hfresh hn
  · obtain ⟨dst, op, type, pos, after, guard⟩ := o
    cases op <;> simp only [splitX, reduceCtorEq] at h
    rename_i c
    obtain ⟨callee, args, ts⟩ := c
    simp only [Op.operands, Call.operands] at hops
    cases callee with
    | value fo =>
      simp only [footA] at h hops hbox
      split at h
      · rename_i f first captured hfo
        cases hbody : hasBody C.P f with
        | false => simp [hbody] at h
        | true =>
          simp only [hbody, cond_true] at h
          split at h
          · rename_i as' u0 hpa
            split at h
            · rename_i alts' hX
              simp only [Option.some.injEq, Prod.mk.injEq] at h
              obtain ⟨rfl, rfl⟩ := h
              have hfr := hops fo (by simp)
              rw [hfo] at hfr hbox
              obtain ⟨A, B, hfv, hA, hB⟩ := rel_func hfr
              obtain ⟨fn, hfn, hbs⟩ : ∃ fn, C.P.funcs[f]? = some fn ∧ fn.body.isSome = true := by
                unfold hasBody at hbody
                split at hbody
                · rename_i fn hh; exact ⟨fn, hh, hbody⟩
                · cases hbody
              have hargs := AllR.ofOps (g := g) (w := w) (e := e) (a := a) (l := args.toList) (fun x hx => hops x (by simp at hx ⊢; exact .inr hx))
              have hall : AllR (Rel2 g w) (first ++ args.toList.map (opv e) ++ captured) (A.toList ++ args.toList.map a.eval ++ B.toList) :=
                ((hA.mono fun v V h => h.to2).append hargs).append (hB.mono fun v V h => h.to2)
              have hcall' := pureCall_ok (base := nx) (hC.split _ _ _ _ hX hp) hpa hall hbox hi hlo
              refine wp_enter (f := f) (args := A ++ args.map a.eval ++ B) (by
                have := run_callValue (P := C.P) (w := w) (ts := ts) (ty := type) (args := args) hfv hfn hbs (hC.noNum f fn hfn)
                simpa [execOp] using this) (R := fun V w' => ∃ g', Post nx nx g w v u0 V g' w') ?_ (fun V w' ⟨g', hp⟩ => hn V g' w' hp)
              have harr : (A.toList ++ args.toList.map a.eval ++ B.toList).toArray = A ++ args.map a.eval ++ B := by
                apply Array.ext'; simp
              rw [harr] at hcall'
              exact hcall'.mono fun e w' ⟨V, g', h1, h2⟩ => ⟨V, h1, g', h2⟩
            · cases h
          · cases h
      · cases h
    | invoke r m => simp at h
    | builtin b => simp at h
  · obtain ⟨dst, op, type, pos, after, guard⟩ := o
    unfold inlX at h
    cases hk : !C.hasK with
    | true => simp [hk] at h
    | false =>
    simp only [hk, cond_false] at h
    cases op <;> simp only [reduceCtorEq] at h
    rename_i c
    obtain ⟨callee, args, ts⟩ := c
    simp only [Op.operands, Call.operands] at hops
    cases callee with
    | value fo =>
      simp only [footA] at h hops hbox
      split at h
      · rename_i f0 first captured hfo
        cases hbody : hasBody C.P f0 with
        | false => simp [hbody] at h
        | true =>
          simp only [hbody, cond_true] at h
          split at h <;> (
            generalize hcc : (_ && _ : Bool) = cc at h
            cases cc with
            | false => simp at h
            | true =>
              simp only [cond_true, Option.some.injEq, Prod.mk.injEq] at h
              obtain ⟨rfl, rfl, rfl, rfl⟩ := h
              have hfr := hops fo (by simp)
              rw [hfo] at hfr hbox
              obtain ⟨A, B, hfv, hA, hB⟩ := rel_func hfr
              obtain ⟨fn, hfn, hbs⟩ : ∃ fn, C.P.funcs[f0]? = some fn ∧ fn.body.isSome = true := by
                unfold hasBody at hbody
                split at hbody
                · rename_i fn hh; exact ⟨fn, hh, hbody⟩
                · cases hbody
              have hargs := AllR.ofOps (g := g) (w := w) (e := e) (a := a) (l := args.toList) (fun x hx => hops x (by simp at hx ⊢; exact .inr hx))
              have hall : AllR (Rel2 g w) (first ++ args.toList.map (opv e) ++ captured) (A.toList ++ args.toList.map a.eval ++ B.toList) :=
                ((hA.mono fun v V h => h.to2).append hargs).append (hB.mono fun v V h => h.to2)
              have hcall' := raw_ok (base := base) hraw hall hbox hi hfresh
              refine wp_enter (f := f0) (args := A ++ args.map a.eval ++ B) (by
                have := run_callValue (P := C.P) (w := w) (ts := ts) (ty := type) (args := args) hfv hfn hbs (hC.noNum f0 fn hfn)
                simpa [execOp] using this) (R := fun V w' => ∃ g', Post base _ g w _ _ V g' w') ?_ (fun V w' ⟨g', hp⟩ => hn V g' w' hp)
              have harr : (A.toList ++ args.toList.map a.eval ++ B.toList).toArray = A ++ args.map a.eval ++ B := by
                apply Array.ext'; simp
              rw [harr] at hcall'
              exact hcall'.mono fun e w' ⟨V, g', h1, h2⟩ => ⟨V, h1, g', h2⟩)
      · cases h
    | invoke r m => simp at h
    | builtin b => simp at h

end Am
end Go.Proofs.Ytooiechjanmdjaa
