/- The mirror machine: how models of functions and of loops are put on, one after the other. -/
import Derived.Test.YtooiechjanmdjaaAmCallee
namespace Go.Proofs.Ytooiechjanmdjaa
namespace Am
set_option linter.unusedVariables false
set_option linter.unusedSimpArgs false

def base (P : Program) (keep : Nat → Nat → Option (List Nat)) : Cfg := ⟨P, fun _ _ => none, fun _ _ _ => none, keep, fun _ _ _ _ => none, fun _ _ => none, fun _ _ _ _ => none, false, fun _ => false, fun _ _ _ _ _ _ => none⟩

def Cfg.add (C : Cfg) (f : Nat) (M : List AV → Option (Bool × AV)) : Cfg := { C with E := fun g as => bif Nat.beq g f then M as else C.E g as }
def Cfg.addR (C : Cfg) (f : Nat) (M : List AV → Sto → Option (Bool × AV × Upd × Nat)) : Cfg := { C with Er := fun g as s => bif Nat.beq g f then M as s else C.Er g as s }
def Cfg.addX (C : Cfg) (f : Nat) (M : List AV → Option (List (Bool × AV))) : Cfg := { C with X := fun g as => bif Nat.beq g f then M as else C.X g as }
def Cfg.addLL (C : Cfg) (f id : Nat) (M : Nat → St → Option (List (Bool × Ex × St))) : Cfg := { C with LL := fun g i lo st => bif Nat.beq g f && Nat.beq i id then M lo st else C.LL g i lo st }
def Cfg.addL (C : Cfg) (f id : Nat) (M : Nat → St → Option (Bool × Ex × St)) : Cfg := { C with L := fun g i lo st => bif Nat.beq g f && Nat.beq i id then M lo st else C.L g i lo st }

theorem base_ok {P : Program} {keep : Nat → Nat → Option (List Nat)} (h : ∀ (f : Nat) (fn : Func), P.funcs[f]? = some fn → fn.name ≠ "runtime.NumGoroutine") : CfgOK (base P keep) :=
  ⟨h, fun _ _ _ h => by simp [base] at h, fun _ _ _ _ _ _ h => by simp [base] at h, fun _ _ _ _ _ _ _ h => by simp [base] at h, fun _ _ _ _ h => by simp [base] at h, fun _ _ _ _ _ _ h => by simp [base, KnownIs] at h⟩

theorem noNum_of {P : Program} (h : (P.funcs.all fun fn => fn.name != "runtime.NumGoroutine") = true) (f : Nat) (fn : Func) (hf : P.funcs[f]? = some fn) : fn.name ≠ "runtime.NumGoroutine" := by
  rw [Array.all_eq_true'] at h
  have := h fn (Array.mem_of_getElem? hf)
  simpa using this

theorem add_ok {C : Cfg} (hC : CfgOK C) {f : Nat} {M : List AV → Option (Bool × AV)} (h : ∀ as v, M as = some (true, v) → PureOK C.P f as v) : CfgOK (C.add f M) := by
  refine ⟨hC.noNum, fun g as v hE => ?_, hC.raw, hC.ck, hC.split, hC.loop⟩
  simp only [Cfg.add] at hE
  cases hb : Nat.beq g f with
  | true => obtain rfl := Nat.beq_true hb; simp only [hb, cond_true] at hE; exact h as v hE
  | false => simp only [hb, cond_false] at hE; exact hC.pure g as v hE

theorem addR_ok {C : Cfg} (hC : CfgOK C) {f : Nat} {M : List AV → Sto → Option (Bool × AV × Upd × Nat)} (h : ∀ as s v u nx, M as s = some (true, v, u, nx) → RawOK C.P f as s s.length v u nx) : CfgOK (C.addR f M) := by
  refine ⟨hC.noNum, hC.pure, fun g as s v u nx hE => ?_, hC.ck, hC.split, hC.loop⟩
  simp only [Cfg.addR] at hE
  cases hb : Nat.beq g f with
  | true => obtain rfl := Nat.beq_true hb; simp only [hb, cond_true] at hE; exact h as s v u nx hE
  | false => simp only [hb, cond_false] at hE; exact hC.raw g as s v u nx hE

def findL (id : Nat) : List (Nat × Code) → Code
  | [] => .skip
  | (i, b) :: l => bif Nat.beq i id then b else findL id l
/-- the body of a loop, by the function and the block -/
def bodyAt (P : Program) (f id : Nat) : Code :=
  match P.funcs[f]? with
  | some fn => match fn.body with
    | some c => findL id (loopsOf c)
    | none => .skip
  | none => .skip
def ntAt (P : Program) (f : Nat) : Nat :=
  match P.funcs[f]? with
  | some fn => fn.ntmps
  | none => 0
def countL (id : Nat) : List (Nat × Code) → Nat
  | [] => 0
  | (i, _) :: l => (bif Nat.beq i id then 1 else 0) + countL id l
def onceAt (P : Program) (f id : Nat) : Bool :=
  match P.funcs[f]? with
  | some fn => match fn.body with
    | some c => Nat.beq (countL id (loopsOf c)) 1
    | none => false
  | none => false

theorem countL_pos {id : Nat} {b : Code} : ∀ {l : List (Nat × Code)}, (id, b) ∈ l → 1 ≤ countL id l
  | (i, c) :: l, h => by
    simp only [List.mem_cons] at h
    unfold countL
    rcases h with h | h
    · cases h; simp
    · have := countL_pos h; omega

theorem findL_once {id : Nat} {b : Code} : ∀ {l : List (Nat × Code)}, (id, b) ∈ l → countL id l = 1 → findL id l = b
  | (i, c) :: l, h, hc => by
    simp only [List.mem_cons] at h
    unfold countL at hc
    unfold findL
    cases hb : Nat.beq i id with
    | true =>
      obtain rfl := Nat.beq_true hb
      simp only [hb, cond_true] at hc
      rcases h with h | h
      · cases h; rfl
      · have := countL_pos h; omega
    | false =>
      simp only [hb, cond_false, Nat.zero_add] at hc
      rcases h with h | h
      · cases h; simp at hb
      · exact findL_once h hc

theorem loopsOf_trans {p : Nat × Code} {id : Nat} {b : Code} (hp : p ∈ loopsOf b) : ∀ (c : Code), (id, b) ∈ loopsOf c → p ∈ loopsOf c := by
  intro c
  induction c with
  | seq x y ihx ihy =>
    intro h
    simp only [loopsOf, List.mem_append] at h ⊢
    exact h.imp ihx ihy
  | cond o x y ihx ihy =>
    intro h
    simp only [loopsOf, List.mem_append] at h ⊢
    exact h.imp ihx ihy
  | block i x ih =>
    intro h
    cases x with
    | loop y =>
      simp only [loopsOf, List.mem_cons] at h ⊢
      rcases h with h | h
      · cases h; exact .inr hp
      · exact .inr (ih h)
    | _ => exact ih h
  | loop x ih => intro h; exact ih h
  | _ => intro h; simp [loopsOf] at h

theorem addX_ok {C : Cfg} (hC : CfgOK C) {f : Nat} {M : List AV → Option (List (Bool × AV))} (h : ∀ as alts v, M as = some alts → pickL alts = some v → PureOK C.P f as v) : CfgOK (C.addX f M) := by
  refine ⟨hC.noNum, hC.pure, hC.raw, hC.ck, fun g as alts v hE hp => ?_, hC.loop⟩
  simp only [Cfg.addX] at hE
  cases hb : Nat.beq g f with
  | true => obtain rfl := Nat.beq_true hb; simp only [hb, cond_true] at hE; exact h as alts v hE hp
  | false => simp only [hb, cond_false] at hE; exact hC.split g as alts v hE hp

/-- a loop is what its rounds come to -/
def LoopEq (C : Cfg) (f id lo : Nat) (st : St) (ex : Ex) (st' : St) : Prop :=
  ∃ (C' : Cfg) (call : CallF) (m n : Nat) (kp : Option (List Nat)), CfgOK C' ∧ CallOK C'.P call ∧ C'.P = C.P ∧
      loopK lo kp (execK C' f lo (ntAt C.P f) call m none (bodyAt C.P f id)) n st (fun ex st => some (ex, st)) = some (ex, st')

theorem LoopEq.ok {C : Cfg} {g i lo : Nat} {st : St} {ex : Ex} {st' : St} (h : LoopEq C g i lo st ex st') (hu : onceAt C.P g i = true) {fn : Func} {c body : Code}
    (hfn : C.P.funcs[g]? = some fn) (hc : fn.body = some c) (hm : (i, body) ∈ loopsOf c) : LoopOK C.P lo fn.ntmps body st ex st' := by
  obtain ⟨C', call, m, n, kp, hC', hcall, hP, heq⟩ := h
  have hbody : bodyAt C.P g i = body := by
    unfold bodyAt; unfold onceAt at hu
    rw [hfn] at hu ⊢
    simp only [hc] at hu ⊢
    exact findL_once hm (Nat.beq_true hu)
  have hnt : ntAt C.P g = fn.ntmps := by unfold ntAt; rw [hfn]
  rw [hbody, hnt] at heq
  rw [← hP]
  exact loop_of_eq hC' hcall (fun id' b st1 ex st' hm' hL => hC'.loop g id' lo st1 ex st' hL fn c b (by rw [hP]; exact hfn) hc (loopsOf_trans hm' c hm)) heq

theorem addL_ok {C : Cfg} (hC : CfgOK C) {f id : Nat} {M : Nat → St → Option (Bool × Ex × St)} (hu : onceAt C.P f id = true)
    (h : ∀ lo st ex st', M lo st = some (true, ex, st') → LoopEq C f id lo st ex st') : CfgOK (C.addL f id M) := by
  refine ⟨hC.noNum, hC.pure, hC.raw, hC.ck, hC.split, fun g i lo st ex st' hE fn c body hfn hc hm => ?_⟩
  rcases hE with hE | ⟨alts, hE, hp⟩
  · simp only [Cfg.addL] at hE hfn ⊢
    cases hb : (Nat.beq g f && Nat.beq i id) with
    | false => simp only [hb, cond_false] at hE; exact hC.loop g i lo st ex st' (.inl hE) fn c body hfn hc hm
    | true =>
      simp only [hb, cond_true] at hE
      rw [Bool.and_eq_true] at hb
      obtain rfl := Nat.beq_true hb.1
      obtain rfl := Nat.beq_true hb.2
      exact (h lo st ex st' hE).ok hu hfn hc hm
  · exact hC.loop g i lo st ex st' (.inr ⟨alts, hE, hp⟩) fn c body hfn hc hm

theorem addLL_ok {C : Cfg} (hC : CfgOK C) {f id : Nat} {M : Nat → St → Option (List (Bool × Ex × St))} (hu : onceAt C.P f id = true)
    (h : ∀ lo st alts ex st', M lo st = some alts → pickL alts = some (ex, st') → LoopEq C f id lo st ex st') : CfgOK (C.addLL f id M) := by
  refine ⟨hC.noNum, hC.pure, hC.raw, hC.ck, hC.split, fun g i lo st ex st' hE fn c body hfn hc hm => ?_⟩
  rcases hE with hE | ⟨alts, hE, hp⟩
  · exact hC.loop g i lo st ex st' (.inl hE) fn c body hfn hc hm
  · simp only [Cfg.addLL] at hE hfn ⊢
    cases hb : (Nat.beq g f && Nat.beq i id) with
    | false => simp only [hb, cond_false] at hE; exact hC.loop g i lo st ex st' (.inr ⟨alts, hE, hp⟩) fn c body hfn hc hm
    | true =>
      simp only [hb, cond_true] at hE
      rw [Bool.and_eq_true] at hb
      obtain rfl := Nat.beq_true hb.1
      obtain rfl := Nat.beq_true hb.2
      exact (h lo st alts ex st' hE hp).ok hu hfn hc hm

/-- one round of a loop -/
theorem loopK_step {R : Type} {lo : Nat} {kp : Option (List Nat)} {b : Run R} {n : Nat} {st : St} {K : Kont R} :
    loopK lo kp b (n + 1) st K = b st (kRes lo kp (kSeq (loopK lo kp b n) K)) := rfl

theorem pure_of_callB {C : Cfg} (hC : CfgOK C) {call : CallF} (hcall : CallOK C.P call) {m f : Nat} {as : List AV} {v : AV} {u : Upd} {nx : Nat} (h : callB C call m f as [] 0 = some (v, u, nx)) (hp : v.plainV = true) : PureOK C.P f as v :=
  pure_of_raw (callB_ok hC hcall m _ _ _ _ _ _ _ h) hp

/-- no calls -/
def noCall : CallF := fun _ _ _ _ => none
theorem noCall_ok {P : Program} : CallOK P noCall := fun f as s lo v u nx h => by cases h

theorem inls_P {C : Cfg} {m : Nat} : ∀ n, (C.inls m n).P = C.P
  | 0 => rfl
  | n + 1 => inls_P (C := C) n

/-- a loop whose calls are followed -/
theorem loop_in {C : Cfg} (hC : CfgOK C) (m d : Nat) {f id lo : Nat} {kp : Option (List Nat)} {st : St} {ex : Ex} {st' : St}
    (h : ∃ n, loopK lo kp (execK (C.inls m d) f lo (ntAt C.P f) noCall m none (bodyAt C.P f id)) n st (fun ex st => some (ex, st)) = some (ex, st')) : LoopEq C f id lo st ex st' := by
  obtain ⟨n, hn⟩ := h
  exact ⟨C.inls m d, noCall, m, n, kp, inls_ok hC m d, noCall_ok, inls_P d, hn⟩

/-- functions whose new rows are handed on to be written -/
def Cfg.withMuts (C : Cfg) (l : List Nat) : Cfg := { C with muts := fun f => memN f l }
theorem muts_ok {C : Cfg} (hC : CfgOK C) (l : List Nat) : CfgOK (C.withMuts l) :=
  ⟨hC.noNum, hC.pure, hC.raw, hC.ck, hC.split, fun f id lo st ex st' h => hC.loop f id lo st ex st' h⟩

end Am
end Go.Proofs.Ytooiechjanmdjaa
