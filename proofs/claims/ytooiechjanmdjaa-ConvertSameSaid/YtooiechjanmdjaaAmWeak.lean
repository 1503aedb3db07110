/- The mirror machine: what is told less exactly is still true; loops by a measure. -/
import Derived.Test.YtooiechjanmdjaaAmUse
namespace Go.Proofs.Ytooiechjanmdjaa
namespace Am
set_option linter.unusedVariables false
set_option linter.unusedSimpArgs false

/-- a value that is told less exactly -/
inductive Le : AV → AV → Prop
  | refl (v : AV) : Le v v
  | nil (k : IntKind) : Le .nilsl (.vi k [])
  | esl (k : IntKind) : Le .esl (.vi k [])
  | em (b : Bool) (k : IntKind) : Le (.em b) (.vi k [])
  | nilc (sz : Nat) : Le .nilsl (.vc sz 0 [])
  | eslc (sz : Nat) : Le .esl (.vc sz 0 [])
  | tab (k : IntKind) (rs : List (List Int)) : Le (.vc 1 rs.length (rs.map (.vi k))) (.vr k rs)
  | untab (k : IntKind) (rs : List (List Int)) : Le (.vr k rs) (.vc 1 rs.length (rs.map (.vi k)))
inductive LeL : List AV → List AV → Prop
  | refl (l : List AV) : LeL l l
  | cons {v v' : AV} {l l' : List AV} : Le v v' → LeL l l' → LeL (v :: l) (v' :: l')
inductive Le1 : AV → AV → Prop
  | leaf {v v' : AV} : Le v v' → Le1 v v'
  | agg {l l' : List AV} : LeL l l' → Le1 (.agg l) (.agg l')
inductive Le1L : List AV → List AV → Prop
  | refl (l : List AV) : Le1L l l
  | cons {v v' : AV} {l l' : List AV} : Le1 v v' → Le1L l l' → Le1L (v :: l) (v' :: l')
inductive Le2 : AV → AV → Prop
  | leaf {v v' : AV} : Le1 v v' → Le2 v v'
  | tuple {l l' : List AV} : Le1L l l' → Le2 (.tuple l) (.tuple l')

/-- an empty slice may be nil or not -/
theorem RelP.to_em {S : Nat → Nat → Prop} {w : World} {k : IntKind} {V : Value} (h : RelP S w (.vi k []) V) : ∃ b, RelP S w (.em b) V := by
  cases h
  exact ⟨_, .em _ _⟩
theorem Le2.refl (v : AV) : Le2 v v := .leaf (.leaf (.refl v))
theorem Le1.refl (v : AV) : Le1 v v := .leaf (.refl v)

theorem AllR.refl_mono {r : AV → Value → Prop} {l : List AV} {L : List Value} (h : AllR r l L) : AllR r l L := h

theorem Le.rel {S : Nat → Nat → Prop} {w : World} {v v' : AV} (h : Le v v') {V : Value} (hv : RelP S w v V) : RelP S w v' V := by
  cases h with
  | refl => exact hv
  | nil k => cases hv; exact .vi k [] _ _ (Nat.zero_le _) (fun h => absurd h (by simp))
  | esl k => cases hv; exact .vi k [] _ _ (Nat.zero_le _) (fun h => absurd h (by simp))
  | em b k => cases hv; exact .vi k [] _ _ (Nat.zero_le _) (fun h => absurd h (by simp))
  | nilc sz => cases hv; exact .vc sz 0 [] [] _ _ (Nat.zero_le _) (by simp) rfl (fun i hi => absurd hi (by simp)) (fun h => absurd h (by simp))
  | eslc sz => cases hv; exact .vc sz 0 [] [] _ _ (Nat.zero_le _) (by simp) rfl (fun i hi => absurd hi (by simp)) (fun h => absurd h (by simp))
  | tab k rs => exact .vr _ _ _ hv
  | untab k rs => cases hv; assumption

theorem LeL.rel {S : Nat → Nat → Prop} {w : World} {l l' : List AV} (h : LeL l l') : ∀ {L : List Value}, AllR (RelP S w) l L → AllR (RelP S w) l' L := by
  induction h with
  | refl => intro L hv; exact hv
  | cons h _ ih => intro L hv; cases hv with | cons a b => exact .cons (h.rel a) (ih b)

theorem Le1.rel {S : Nat → Nat → Prop} {w : World} {v v' : AV} (h : Le1 v v') {V : Value} (hv : RelP1 S w v V) : RelP1 S w v' V := by
  cases h with
  | leaf h =>
    cases h with
    | refl => exact hv
    | _ => exact Le.rel (by constructor <;> assumption) hv
  | agg h => obtain ⟨us, rfl, ha⟩ := hv; exact ⟨us, rfl, h.rel ha⟩

theorem Le1L.rel {S : Nat → Nat → Prop} {w : World} {l l' : List AV} (h : Le1L l l') : ∀ {L : List Value}, AllR (RelP1 S w) l L → AllR (RelP1 S w) l' L := by
  induction h with
  | refl => intro L hv; exact hv
  | cons h _ ih => intro L hv; cases hv with | cons a b => exact .cons (h.rel a) (ih b)

theorem Le2.rel {S : Nat → Nat → Prop} {w : World} {v v' : AV} (h : Le2 v v') {V : Value} (hv : RelP2 S w v V) : RelP2 S w v' V := by
  cases h with
  | leaf h =>
    cases h with
    | leaf h =>
      cases h with
      | refl => exact hv
      | _ => exact Le.rel (by constructor <;> assumption) hv
    | agg h => exact Le1.rel (.agg h) hv
  | tuple h => obtain ⟨us, rfl, ha⟩ := hv; exact ⟨us, rfl, h.rel ha⟩

theorem PureOK.weak {P : Program} {f : Nat} {as as' : List AV} {v v' : AV} (h : PureOK P f as' v) (ha : Le1L as as') (hv : Le2 v v') : PureOK P f as v' := fun S w AS hS hA =>
  (h S w AS hS (ha.rel hA)).mono fun e w' ⟨V, h1, h2, h3, h4, h5, h6⟩ => ⟨V, h1, h2, h3, h4, h5, hv.rel h6⟩

theorem Le.rel0 {g : Gh} {w : World} {v v' : AV} (h : Le v v') {V : Value} (hv : Rel0 g w v V) : Rel0 g w v' V := by
  cases h with
  | refl => exact hv
  | nil k => exact Le.rel (.nil k) hv
  | esl k => exact Le.rel (.esl k) hv
  | em b k => exact Le.rel (.em b k) hv
  | nilc sz => exact Le.rel (.nilc sz) hv
  | eslc sz => exact Le.rel (.eslc sz) hv
  | tab k rs => exact Le.rel (.tab k rs) hv
  | untab k rs => exact Le.rel (.untab k rs) hv
theorem LeL.rel0 {g : Gh} {w : World} {l l' : List AV} (h : LeL l l') : ∀ {L : List Value}, AllR (Rel0 g w) l L → AllR (Rel0 g w) l' L := by
  induction h with
  | refl => intro L hv; exact hv
  | cons h _ ih => intro L hv; cases hv with | cons a b => exact .cons (h.rel0 a) (ih b)
theorem Le1.rel1 {g : Gh} {w : World} {v v' : AV} (h : Le1 v v') {V : Value} (hv : Rel1 g w v V) : Rel1 g w v' V := by
  cases h with
  | leaf h =>
    cases h with
    | refl => exact hv
    | nil k => exact Le.rel0 (.nil k) hv
    | esl k => exact Le.rel0 (.esl k) hv
    | em b k => exact Le.rel0 (.em b k) hv
    | nilc sz => exact Le.rel0 (.nilc sz) hv
    | eslc sz => exact Le.rel0 (.eslc sz) hv
    | tab k rs => exact Le.rel0 (.tab k rs) hv
    | untab k rs => exact Le.rel0 (.untab k rs) hv
  | agg h => obtain ⟨us, rfl, ha⟩ := hv; exact ⟨us, rfl, h.rel0 ha⟩
theorem Le1L.rel1 {g : Gh} {w : World} {l l' : List AV} (h : Le1L l l') : ∀ {L : List Value}, AllR (Rel1 g w) l L → AllR (Rel1 g w) l' L := by
  induction h with
  | refl => intro L hv; exact hv
  | cons h _ ih => intro L hv; cases hv with | cons a b => exact .cons (h.rel1 a) (ih b)
theorem Le2.rel2 {g : Gh} {w : World} {v v' : AV} (h : Le2 v v') {V : Value} (hv : Rel2 g w v V) : Rel2 g w v' V := by
  cases h with
  | leaf h =>
    cases h with
    | leaf h =>
      cases h with
      | refl => exact hv
      | nil k => exact Le.rel0 (.nil k) hv
      | esl k => exact Le.rel0 (.esl k) hv
      | em b k => exact Le.rel0 (.em b k) hv
      | nilc sz => exact Le.rel0 (.nilc sz) hv
      | eslc sz => exact Le.rel0 (.eslc sz) hv
      | tab k rs => exact Le.rel0 (.tab k rs) hv
      | untab k rs => exact Le.rel0 (.untab k rs) hv
    | agg h => obtain ⟨us, rfl, ha⟩ := hv; exact ⟨us, rfl, h.rel0 ha⟩
  | tuple h => obtain ⟨us, rfl, ha⟩ := hv; exact ⟨us, rfl, h.rel1 ha⟩

theorem RawOK.weak {P : Program} {f : Nat} {as : List AV} {s : Sto} {m : Nat} {v v' : AV} {u : Upd} {nx : Nat} (h : RawOK P f as s m v u nx) (hv : Le2 v v') : RawOK P f as s m v' u nx := fun g w AS hA hb hi hu hlo =>
  (h g w AS hA hb hi hu hlo).mono fun e w' ⟨V, g', h1, h2⟩ => ⟨V, g', h1, { h2 with val := hv.rel2 h2.val }⟩

/-- boxes that are hidden by later ones are left out -/
theorem RawOK.upd {P : Program} {f : Nat} {as : List AV} {s : Sto} {m : Nat} {v : AV} {u u' : Upd} {nx : Nat} (h : RawOK P f as s m v u nx) (h1 : ∀ x, lookB x u' = lookB x u) (h2 : ∀ x, x ∈ u.map (·.1) → x ∈ u'.map (·.1)) : RawOK P f as s m v u' nx := fun g w AS hA hb hi hu hlo =>
  (h g w AS hA hb hi hu hlo).mono fun e w' ⟨V, g', a, b⟩ => ⟨V, g', a, { b with
    only := ⟨fun z x ho hx => b.only.1 z x ho fun h => hx (h2 x h), fun z x ho hu hx => b.only.2 z x ho hu fun h => hx (h2 x h), fun x hu hx => b.only.3 x hu fun h => hx (h2 x h)⟩
    boxes := fun x c hx => b.boxes x c (by rw [← h1]; exact hx) }⟩

/-- a row that is written no more may be told by other words for the same cells -/
def BLe (b b' : Box) : Prop := b' = b ∨ ∃ c c' : Ct, b = .ro c ∧ b' = .ro c' ∧ c'.size = c.size ∧ ∀ i, i < c.size → c'.get i = c.get i
theorem BLe.rel {g : Gh} {w : World} {x : Nat} {b b' : Box} (h : BLe b b') (hb : RelB g w x b) : RelB g w x b' := by
  rcases h with rfl | ⟨c, c', rfl, rfl, hs, hg⟩
  · exact hb
  · obtain ⟨h1, h2, h3, C, e, hC, hCs, hc⟩ := hb
    exact ⟨h1, h2, fun i hi => h3 i (by omega), C, e, hC, by omega, fun i hi => by rw [hg i (by omega)]; exact hc i (by omega)⟩
theorem RawOK.box {P : Program} {f : Nat} {as : List AV} {s : Sto} {m : Nat} {v : AV} {u u' : Upd} {nx : Nat} (h : RawOK P f as s m v u nx) (h1 : ∀ x b, lookB x u' = some b → ∃ b0, lookB x u = some b0 ∧ BLe b0 b) (h2 : ∀ x, x ∈ u.map (·.1) → x ∈ u'.map (·.1)) : RawOK P f as s m v u' nx := fun g w AS hA hb hi hu hlo =>
  (h g w AS hA hb hi hu hlo).mono fun e w' ⟨V, g', a, b⟩ => ⟨V, g', a, { b with
    only := ⟨fun z x ho hx => b.only.1 z x ho fun h => hx (h2 x h), fun z x ho hu hx => b.only.2 z x ho hu fun h => hx (h2 x h), fun x hu hx => b.only.3 x hu fun h => hx (h2 x h)⟩
    boxes := fun x c hx => by obtain ⟨b0, h3, h4⟩ := h1 x c hx; exact h4.rel (b.boxes x b0 h3) }⟩

/-- what a call with boxes comes to, told less exactly -/
def Er (r : Option (AV × Upd × Nat)) (v' : AV) (u : Upd) (nx : Nat) : Prop := ∃ v, r = some (v, u, nx) ∧ Le2 v v'
theorem Er.raw {C : Cfg} (hC : CfgOK C) {call : CallF} (hcall : CallOK C.P call) {m f : Nat} {as : List AV} {s : Sto} {lo : Nat} {v : AV} {u : Upd} {nx : Nat} (h : Er (callB C call m f as s lo) v u nx) : RawOK C.P f as s lo v u nx := by
  obtain ⟨v0, h1, h2⟩ := h
  exact (callB_ok hC hcall m _ _ _ _ _ _ _ h1).weak h2

/-- what a call comes to, told less exactly -/
def Ev (r : Option (AV × Upd × Nat)) (v' : AV) : Prop := ∃ v u nx, r = some (v, u, nx) ∧ v.plainV = true ∧ Le2 v v'

theorem Ev.pure {C : Cfg} (hC : CfgOK C) {call : CallF} (hcall : CallOK C.P call) {m f : Nat} {as as' : List AV} {v : AV} (h : Ev (callB C call m f as' [] 0) v) (ha : Le1L as as') : PureOK C.P f as v := by
  obtain ⟨v0, u, nx, h1, h2, h3⟩ := h
  exact (pure_of_callB hC hcall h1 h2).weak ha h3

/-- the numbers in a slice of numbers that is only read -/
def asVi (k : IntKind) : AV → Option (List Int)
  | .vi k' l => bif decide (k' = k) then some l else none
  | .nilsl => some []
  | .esl => some []
  | _ => none
theorem asVi_le {k : IntKind} {v : AV} {l : List Int} (h : asVi k v = some l) : Le v (.vi k l) := by
  unfold asVi at h
  split at h
  · rename_i k' l'
    cases hk : decide (k' = k) with
    | false => rw [hk] at h; cases h
    | true => rw [hk] at h; have := of_decide_eq_true hk; subst this; cases h; exact .refl _
  · cases h; exact .nil k
  · cases h; exact .esl k
  · cases h

/-! ### loops -/
/-- a loop that ends by a measure: res tells how it ends from each state -/
theorem loop_rule {R : Type} {lo : Nat} {kp : Option (List Nat)} {b : Run R} {K : Kont R} {σ : Type} (head : σ → St) (inv : σ → Prop) (μ : σ → Nat) (res : σ → Ex × St)
    (h : ∀ s, inv s → (∃ s', inv s' ∧ μ s' < μ s ∧ res s' = res s ∧ ∀ K' : Kont R, b (head s) (kRes lo kp K') = K' .normal (head s')) ∨
      ((∃ i, (res s).1 = .exit i ∨ (res s).1 = .ret) ∧ ∀ K' : Kont R, b (head s) (kRes lo kp K') = K' (res s).1 (res s).2)) :
    ∀ s, inv s → ∃ n, loopK lo kp b n (head s) K = K (res s).1 (res s).2 := by
  intro s hs
  generalize hm : μ s = m
  induction m using Nat.strongRecOn generalizing s with
  | _ m ih =>
    rcases h s hs with ⟨s', h1, h2, h3, h4⟩ | ⟨⟨i, hi⟩, h4⟩
    · obtain ⟨n, hn⟩ := ih (μ s') (by omega) s' h1 rfl
      refine ⟨n + 1, ?_⟩
      rw [loopK_step, h4]
      simp only [kSeq]
      rw [hn, h3]
    · refine ⟨1, ?_⟩
      rw [loopK_step, h4]
      rcases hi with hi | hi <;> rw [hi] <;> rfl

theorem loop_known {C : Cfg} (hC : CfgOK C) {call : CallF} (hcall : CallOK C.P call) {f id lo m : Nat} {kp : Option (List Nat)} {st : St} {ex : Ex} {st' : St}
    (h : ∃ n, loopK lo kp (execK C f lo (ntAt C.P f) call m none (bodyAt C.P f id)) n st (fun ex st => some (ex, st)) = some (ex, st')) : LoopEq C f id lo st ex st' := by
  obtain ⟨n, hn⟩ := h
  exact ⟨C, call, m, n, kp, hC, hcall, rfl, hn⟩

def allN (n : Nat) (p : Nat → Bool) : Bool := (List.range n).all p
/-- the first place below n at which p fails -/
def badAt (n : Nat) (p : Nat → Bool) : Nat := (List.range n).findIdx fun i => !p i
theorem allN_iff {n : Nat} {p : Nat → Bool} : allN n p = true ↔ ∀ i, i < n → p i = true := by
  unfold allN; rw [List.all_eq_true]; simp
theorem badAt_spec {n : Nat} {p : Nat → Bool} (h : allN n p = false) : badAt n p < n ∧ p (badAt n p) = false ∧ ∀ i, i < badAt n p → p i = true := by
  have hex : ∃ x ∈ List.range n, (fun i => !p i) x = true := by
    unfold allN at h
    rw [List.all_eq_false] at h
    obtain ⟨x, hx, hp⟩ := h
    exact ⟨x, hx, by simpa using hp⟩
  have hlt := List.findIdx_lt_length_of_exists hex
  have hlt' : badAt n p < n := by simpa [badAt] using hlt
  refine ⟨hlt', ?_, fun i hi => ?_⟩
  · have := List.findIdx_getElem (w := hlt)
    simpa [badAt] using this
  · have := List.not_of_lt_findIdx (p := fun i => !p i) (xs := List.range n) hi
    simpa using this
theorem allN_getD {l : List Int} {p : Int → Bool} : allN l.length (fun i => p (l.getD i 0)) = l.all p := by
  rw [Bool.eq_iff_iff, allN_iff, List.all_eq_true]
  constructor
  · intro h x hx
    obtain ⟨i, hi, rfl⟩ := List.mem_iff_getElem.1 hx
    have := h i hi
    simpa [List.getD_eq_getElem?_getD, List.getElem?_eq_getElem hi] using this
  · intro h i hi
    have := h l[i] (List.getElem_mem hi)
    simpa [List.getD_eq_getElem?_getD, List.getElem?_eq_getElem hi] using this

/-- a loop over the places below n that leaves at the first one at which p fails -/
theorem all_rule {R : Type} {lo : Nat} {kp : Option (List Nat)} {b : Run R} {K : Kont R} (n : Nat) (p : Nat → Bool) (head : Nat → St) (id : Nat) (bad : Nat → Ex × St)
    (hb : ∀ i, (∃ j, (bad i).1 = .exit j) ∨ (bad i).1 = .ret)
    (hs : ∀ i, i < n → p i = true → ∀ K' : Kont R, b (head i) (kRes lo kp K') = K' .normal (head (i + 1)))
    (hf : ∀ i, i < n → p i = false → ∀ K' : Kont R, b (head i) (kRes lo kp K') = K' (bad i).1 (bad i).2)
    (he : ∀ K' : Kont R, b (head n) (kRes lo kp K') = K' (.exit id) (head n)) :
    (allN n p = true → ∃ m, loopK lo kp b m (head 0) K = K (.exit id) (head n)) ∧ (allN n p = false → ∃ m, loopK lo kp b m (head 0) K = K (bad (badAt n p)).1 (bad (badAt n p)).2) := by
  constructor
  · intro h
    rw [allN_iff] at h
    refine loop_rule head (fun i => i ≤ n) (fun i => n - i) (fun _ => (.exit id, head n)) (fun i hi => ?_) 0 (Nat.zero_le _)
    by_cases hlt : i < n
    · exact .inl ⟨i + 1, hlt, by omega, rfl, hs i hlt (h i hlt)⟩
    · have : i = n := by omega
      subst this
      exact .inr ⟨⟨id, .inl rfl⟩, he⟩
  · intro h
    obtain ⟨h1, h2, h3⟩ := badAt_spec h
    refine loop_rule head (fun i => i ≤ badAt n p) (fun i => badAt n p - i) (fun _ => bad (badAt n p)) (fun i hi => ?_) 0 (Nat.zero_le _)
    by_cases hlt : i < badAt n p
    · exact .inl ⟨i + 1, hlt, by omega, rfl, hs i (by omega) (h3 i hlt)⟩
    · have : i = badAt n p := by omega
      subst this
      refine .inr ⟨?_, hf _ h1 h2⟩
      rcases hb (badAt n p) with ⟨j, hj⟩ | hj
      · exact ⟨j, .inl hj⟩
      · exact ⟨0, .inr hj⟩

theorem condCases {α : Type} {c : Bool} {X Y Z : α} (h1 : c = true → X = Z) (h2 : c = false → Y = Z) : (bif c then X else Y) = Z := by
  cases c
  · exact h2 rfl
  · exact h1 rfl
end Am
end Go.Proofs.Ytooiechjanmdjaa
