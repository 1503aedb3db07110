/- The mirror machine: each operation comes to its effect. -/
import Derived.Test.YtooiechjanmdjaaAmPure
namespace Go.Proofs.Ytooiechjanmdjaa
namespace Am
set_option linter.unusedVariables false
set_option linter.unusedSimpArgs false

def RelP1 (S : Nat → Nat → Prop) (w : World) (v : AV) (V : Value) : Prop :=
  match v with
  | .agg vs => ∃ us : Array Value, V = .agg us ∧ AllR (RelP S w) vs us.toList
  | v => RelP S w v V
def RelP2 (S : Nat → Nat → Prop) (w : World) (v : AV) (V : Value) : Prop :=
  match v with
  | .tuple vs => ∃ us : Array Value, V = .tuple us ∧ AllR (RelP1 S w) vs us.toList
  | v => RelP1 S w v V

theorem RelP1.mono {S S' : Nat → Nat → Prop} {w w' : World} (hS : ∀ b i, S b i → S' b i ∧ w'.cell? ⟨b, i, none⟩ = w.cell? ⟨b, i, none⟩) {v : AV} {V : Value} (h : RelP1 S w v V) : RelP1 S' w' v V := by
  cases v
  case agg vs => obtain ⟨us, rfl, ha⟩ := h; exact ⟨us, rfl, ha.mono fun _ _ h => h.mono hS⟩
  all_goals (simp only [RelP1] at h ⊢; exact h.mono hS)
theorem RelP2.mono {S S' : Nat → Nat → Prop} {w w' : World} (hS : ∀ b i, S b i → S' b i ∧ w'.cell? ⟨b, i, none⟩ = w.cell? ⟨b, i, none⟩) {v : AV} {V : Value} (h : RelP2 S w v V) : RelP2 S' w' v V := by
  cases v
  case tuple vs => obtain ⟨us, rfl, ha⟩ := h; exact ⟨us, rfl, ha.mono fun _ _ h => h.mono hS⟩
  all_goals (simp only [RelP2] at h ⊢; exact h.mono hS)

theorem RelP1.to1 {g : Gh} {w : World} {v : AV} {V : Value} (h : RelP1 (Safe g w) w v V) : Rel1 g w v V := by
  cases v
  case agg vs => obtain ⟨us, rfl, ha⟩ := h; exact ⟨us, rfl, ha.mono fun _ _ h => h.to0⟩
  all_goals (simp only [RelP1] at h; exact h.to0.to1)
theorem RelP2.to2 {g : Gh} {w : World} {v : AV} {V : Value} (h : RelP2 (Safe g w) w v V) : Rel2 g w v V := by
  cases v
  case tuple vs => obtain ⟨us, rfl, ha⟩ := h; exact ⟨us, rfl, ha.mono fun _ _ h => h.to1⟩
  all_goals (simp only [RelP2] at h; exact h.to1.to2')

theorem Rel1.plain {g : Gh} {w : World} {v : AV} {V : Value} (h : Rel1 g w v V) (hp : v.plain1 = true) : RelP1 (Safe g w) w v V := by
  cases v
  case agg vs =>
    obtain ⟨us, rfl, ha⟩ := h
    simp only [AV.plain1, List.all_eq_true] at hp
    exact ⟨us, rfl, ha.mono' fun v V hm h => h.plain (hp v hm)⟩
  case func f a b => simp [AV.plain1, AV.plain0] at hp
  all_goals (simp only [AV.plain1] at hp; simp only [Rel1] at h; exact Rel0.plain h hp)
theorem Rel2.plain {g : Gh} {w : World} {v : AV} {V : Value} (h : Rel2 g w v V) (hp : v.plainV = true) : RelP2 (Safe g w) w v V := by
  cases v
  case tuple vs =>
    obtain ⟨us, rfl, ha⟩ := h
    simp only [AV.plainV, List.all_eq_true] at hp
    exact ⟨us, rfl, ha.mono' fun v V hm h => h.plain (hp v hm)⟩
  all_goals (simp only [AV.plainV] at hp; simp only [Rel2] at h; exact Rel1.plain h hp)

/-- what a function of values without names must keep to -/
def PureOK (P : Program) (f : Nat) (as : List AV) (v : AV) : Prop :=
  ∀ (S : Nat → Nat → Prop) (w : World) (AS : List Value), (∀ b i, S b i → b < w.heap.size) → AllR (RelP1 S w) as AS →
    Calls P f AS.toArray w fun e w' => ∃ V, e = .returned V ∧ w.heap.size ≤ w'.heap.size ∧ (∀ b, b < w.heap.size → w'.heap[b]? = w.heap[b]?) ∧ w'.os = w.os ∧ w'.output = w.output ∧
      RelP2 (fun b i => S b i ∨ (w.heap.size ≤ b ∧ b < w'.heap.size)) w' v V

/-- the machine's state tells of the model's -/
structure Good (nt lo : Nat) (st : St) (g : Gh) (a : Act) (w : World) : Prop where
  tmps : ∀ d, Rel2 g w (look d st.env) (a.tmps.getD d undef)
  sto : ∀ x b, lookB x st.sto = some b → RelB g w x b
  inv : Inv g w
  lo : g.lo = lo
  size : nt ≤ a.tmps.size
  defers : a.defers = []
  used : ∀ x, g.used x → x < st.nxt

def Ex.to : Ex → Exit
  | .normal => .normal
  | .exit i => .exit i
  | .ret => .ret

/-- what the model of a loop must keep to -/
def LoopOK (P : Program) (lo nt : Nat) (body : Code) (st : St) (ex : Ex) (st' : St) : Prop :=
  ∀ (g : Gh) (a : Act) (w : World), Good nt lo st g a w → (∀ x, x < lo → g.used x) → ∀ (Q : Exit → Act → World → Prop),
    (∀ g' a' w', Good nt lo st' g' a' w' → Ext (fun x => x < lo) g w g' w' → Q ex.to a' w') → (Code.loop body).wp P Q a w

/-- a loop's model, or the case of it that holds -/
def KnownIs (C : Cfg) (f id lo : Nat) (st : St) (ex : Ex) (st' : St) : Prop := C.L f id lo st = some (true, ex, st') ∨ ∃ alts, C.LL f id lo st = some alts ∧ pickL alts = some (ex, st')

theorem altK_pick {α R : Type} {k : α → Option R} {r : R} : ∀ {l : List (Bool × α)}, altK k l = some r → ∃ a, pickL l = some a ∧ k a = some r
  | [], h => by cases h
  | (true, a) :: l, h => ⟨a, rfl, h⟩
  | (false, a) :: l, h => altK_pick (l := l) h

/-- the models that are given are right -/
structure CfgOK (C : Cfg) : Prop where
  noNum : ∀ (f : Nat) (fn : Func), C.P.funcs[f]? = some fn → fn.name ≠ "runtime.NumGoroutine"
  pure : ∀ f as v, C.E f as = some (true, v) → PureOK C.P f as v
  raw : ∀ f as s v u nx, C.Er f as s = some (true, v, u, nx) → RawOK C.P f as s s.length v u nx
  ck : ∀ (R : Type) f as s lo (k : AV × Upd × Nat → Option R) r, C.ck R f as s lo k = some r →
    ∃ p : AV × Upd × Nat, (∀ (R' : Type) (k' : AV × Upd × Nat → Option R'), C.ck R' f as s lo k' = k' p) ∧ k p = some r ∧ RawOK C.P f as s lo p.1 p.2.1 p.2.2
  split : ∀ f as alts v, C.X f as = some alts → pickL alts = some v → PureOK C.P f as v
  loop : ∀ f id lo st ex st', KnownIs C f id lo st ex st' → ∀ fn c body, C.P.funcs[f]? = some fn → fn.body = some c → (id, body) ∈ loopsOf c → LoopOK C.P lo fn.ntmps body st ex st'

theorem subSto_spec {s : Sto} : ∀ {L : List Nat} {x : Nat} {b : Box}, lookB x (subSto s L) = some b → x ∈ L ∧ lookB x s = some b
  | [], x, b, h => by simp [subSto, lookB] at h
  | y :: L, x, b, h => by
    unfold subSto at h
    cases hy : lookB y s with
    | none => rw [hy] at h; obtain ⟨h1, h2⟩ := subSto_spec h; exact ⟨List.mem_cons_of_mem _ h1, h2⟩
    | some b' =>
      rw [hy] at h
      simp only [lookB] at h
      cases hb : Nat.beq y x with
      | true => obtain rfl := Nat.beq_true hb; simp [hb] at h; subst h; exact ⟨by simp, hy⟩
      | false => simp only [hb, cond_false] at h; obtain ⟨h1, h2⟩ := subSto_spec h; exact ⟨List.mem_cons_of_mem _ h1, h2⟩

/-- only new blocks were made -/
theorem step_same {g : Gh} {w w' : World} (hi : Inv g w) (hs : w.heap.size ≤ w'.heap.size) (hb : ∀ b, b < w.heap.size → w'.heap[b]? = w.heap[b]?) (ho : w'.os = w.os) (hou : w'.output = w.output) :
    Step g w g w' ∧ Only [] g w g w' ∧ Inv g w' := by
  refine ⟨?_, ?_, ?_⟩
  · exact {
      S := rfl
      s0 := rfl
      lo := rfl
      size := hs
      os := ho
      out := hou
      shape := fun b C e fr h => ⟨C, by rw [hb b (block_lt h)]; exact h, rfl⟩
      free := fun b hlt h => ⟨h, hb b hlt⟩
      keep := fun b x i hlt h1 h2 h3 => ⟨by simp only [World.cell?, hb b hlt], .inr ⟨x, h1, h2, h3⟩⟩
      names := fun x h => ⟨h, rfl, rfl, rfl, Nat.le_refl _, fun _ => rfl⟩
      rows := fun b x h _ _ => ⟨h, fun _ => rfl⟩
      own := fun b x _ h _ => .inl h }
  · exact ⟨fun b x h _ => ⟨h, hb b (lt_of_own hi h), rfl⟩, fun b x h _ _ => h, fun x _ _ => ⟨rfl, rfl⟩⟩
  · exact ⟨Nat.le_trans hi.s0 hs, fun b h => hi.fresh b (Nat.le_trans hs h), hi.owner, hi.loc⟩

theorem only_nil {U : List Nat} {g g' g'' : Gh} {w w' w'' : World} (h : Only U g w g' w') (h' : Only [] g' w' g'' w'') (hs : Step g w g' w') : Only U g w g'' w'' where
  blocks := fun b x ho hx => by
    obtain ⟨a1, a2, a3⟩ := h.blocks b x ho hx
    obtain ⟨b1, b2, b3⟩ := h'.blocks b x a1 (by simp)
    exact ⟨b1, b2.trans a2, b3.trans a3⟩
  owners := fun b x ho hu hx => h.owners b x (h'.owners b x ho (hs.names x hu).1 (by simp)) hu hx
  vers := fun x hu hx => by
    obtain ⟨a1, a2⟩ := h.vers x hu hx
    obtain ⟨b1, b2⟩ := h'.vers x (hs.names x hu).1 (by simp)
    exact ⟨b1.trans a1, b2.trans a2⟩

/-- a call -/
def CallOK (P : Program) (call : CallF) : Prop := ∀ f as s lo v u nx, call f as s lo = some (v, u, nx) → RawOK P f as s lo v u nx

theorem handed_length {s : Sto} {ρ : Nat → Option Nat} : ∀ (L : List Nat) (k : Nat), (∀ x, x ∈ L → ∃ b, lookB x s = some b) → (handed s ρ k L).length = L.length
  | [], k, _ => rfl
  | x :: L, k, h => by
    obtain ⟨b, hb⟩ := h x (by simp)
    simp [handed, hb, handed_length L (k + 1) fun y hy => h y (by simp [hy])]

/-- a call by what it does with values without names -/
theorem pureCall_ok {P : Program} {lo f : Nat} {as as' : List AV} {s : Sto} {base : Nat} {v : AV} {u0 : Upd} {g : Gh} {w : World} {AS : List Value} (hok : PureOK P f as' v)
    (hpa : pureArgs lo (subSto s (reached s as)) as = some (as', u0)) (ha : AllR (Rel2 g w) as AS) (hb : ∀ x, x ∈ reached s as → ∀ b, lookB x s = some b → RelB g w x b) (hi : Inv g w) (hlo : g.lo = lo) :
    Calls P f AS.toArray w fun e w' => ∃ V g', e = .returned V ∧ Post base base g w v u0 V g' w' := by
  unfold pureArgs at hpa
  simp only at hpa
  split at hpa
  · rename_i l hl
    cases hall : l.all AV.plain1 with
    | false => simp [hall] at hpa
    | true =>
      simp only [hall, cond_true, Option.some.injEq, Prod.mk.injEq] at hpa
      obtain ⟨rfl, rfl⟩ := hpa
      have hbs : ∀ x, ∀ b, lookB x (subSto s (reached s as)) = some b → RelB g w x b := fun x b hx => by
        obtain ⟨h1, h2⟩ := subSto_spec hx
        exact hb x h1 b h2
      have hpf := post_freeze (base := base) (nx := base) (l := as.flatMap slRefs) (s := subSto s (reached s as)) (lo := lo) hi (by omega) (fun x _ b hx => hbs x b hx)
      have hsto : ∀ x, ∀ b, lookB x (freeze (subSto s (reached s as)) lo (as.flatMap slRefs) ++ subSto s (reached s as)) = some b → RelB _ w x b := fun x => hpf.sto (hbs x)
      have hargs : AllR (Rel2 _ w) l AS := pureL_rel (r := Rel2 _ w) (fun v v' V h hv => pureV_ok (fun x _ => hsto x) h hv) hl (ha.mono fun v V h => hpf.step.stay h)
      have hargsP : AllR (RelP1 (Safe _ w) w) l AS := hargs.mono' fun v V hm h => by
        rw [List.all_eq_true] at hall
        have hp := hall v hm
        cases v <;> first
          | (simp only [Rel2] at h; exact Rel1.plain h hp)
          | (simp [AV.plain1, AV.plain0] at hp)
      refine (hok (Safe (g.freeze _) w) w AS (fun b i h => h.1) hargsP).mono ?_
      rintro e w' ⟨V, rfl, hs, hblocks, hos, hout, hv⟩
      obtain ⟨st2, on2, in2⟩ := step_same hpf.inv hs hblocks hos hout
      refine ⟨V, _, rfl, hpf.step.trans (st2.weaken fun x hx => (hpf.step.names x hx).1), only_nil hpf.only on2 hpf.step, in2, ?_, fun x b hx => ?_, hpf.used⟩
      · refine RelP2.to2 (hv.mono fun b i hbi => ⟨?_, rfl⟩)
        rcases hbi with hbi | ⟨h1, h2⟩
        · exact (st2.safe hbi).1
        · exact ⟨h2, .inl ⟨hpf.inv.fresh b h1, .inr (Nat.le_trans hpf.inv.s0 h1)⟩⟩
      · have := hpf.boxes x b hx
        exact this.stay st2 on2 (by simp)
  · simp at hpa

theorem call_ok {C : Cfg} (hC : CfgOK C) {call : CallF} (hcall : CallOK C.P call) {lo f : Nat} {as : List AV} {s : Sto} {base nx : Nat} {v : AV} {u : Upd} {g : Gh} {w : World} {AS : List Value}
    (h : callA C call lo f as s base = some (true, v, u, nx)) (ha : AllR (Rel2 g w) as AS) (hb : ∀ x, x ∈ reached s as → ∀ b, lookB x s = some b → RelB g w x b) (hi : Inv g w) (hlo : g.lo = lo)
    (hfresh : ∀ x, base ≤ x → x < nx → ¬ g.used x) :
    Calls C.P f AS.toArray w fun e w' => ∃ V g', e = .returned V ∧ Post base nx g w v u V g' w' := by
  have raw : rawA C call f as s base = some (true, v, u, nx) → Calls C.P f AS.toArray w fun e w' => ∃ V g', e = .returned V ∧ Post base nx g w v u V g' w' := by
    intro h
    unfold rawA at h
    simp only at h
    split at h
    · rename_i c v0 u0 nx0 her
      simp only [Option.some.injEq, Prod.mk.injEq] at h
      obtain ⟨rfl, rfl, rfl, rfl⟩ := h
      have hlen := handed_length (ρ := fun x => placeN x (reached s as)) (reached s as) 0 fun x hx => reached_found (s := s) (vs := as) hx
      have hr := hC.raw _ _ _ _ _ _ her
      rw [hlen] at hr
      exact raw_ok (base := base) hr ha hb hi hfresh
    · split at h
      · rename_i v0 u0 nx0 hcl
        simp only [Option.some.injEq, Prod.mk.injEq, true_and] at h
        obtain ⟨rfl, rfl, rfl⟩ := h
        exact raw_ok (hcall _ _ _ _ _ _ _ hcl) ha hb hi hfresh
      · simp at h
  unfold callA at h
  split at h
  · rename_i as' u0 hpa
    split at h
    · rename_i c v0 hE
      simp only [Option.some.injEq, Prod.mk.injEq] at h
      obtain ⟨rfl, rfl, rfl, rfl⟩ := h
      exact pureCall_ok (hC.pure _ _ _ hE) hpa ha hb hi hlo
    · exact raw h
  · exact raw h

end Am
end Go.Proofs.Ytooiechjanmdjaa
