/- The mirror machine: values told without names. -/
import Derived.Test.YtooiechjanmdjaaAmBack
namespace Go.Proofs.Ytooiechjanmdjaa
namespace Am
set_option linter.unusedVariables false
set_option linter.unusedSimpArgs false

/-- the blocks of some names are written no more -/
def Gh.freeze (g : Gh) (U : List Nat) : Gh :=
  { g with own := fun b => match g.own b with
    | some x => bif memN x U then none else some x
    | none => none }

theorem lookB_freeze {s : Sto} {lo : Nat} : ∀ {l : List Nat} {x : Nat} {b : Box}, lookB x (freeze s lo l) = some b → lo ≤ x ∧ ∃ c, lookB x s = some (.fix c) ∧ b = .ro c
  | [], x, b, h => by simp [Am.freeze, lookB] at h
  | y :: l, x, b, h => by
    unfold Am.freeze at h
    cases hle : Nat.ble lo y with
    | false => simp only [hle, cond_false] at h; exact lookB_freeze h
    | true =>
      simp only [hle, cond_true] at h
      split at h
      · rename_i c hl
        simp only [lookB] at h
        cases hb : Nat.beq y x with
        | true =>
          obtain rfl := Nat.beq_true hb
          simp [hb] at h
          exact ⟨Nat.le_of_ble_eq_true hle, c, hl, h.symm⟩
        | false => simp only [hb, cond_false] at h; exact lookB_freeze h
      · exact lookB_freeze h

section freeze
variable {g : Gh} {w : World} {s : Sto} {lo : Nat} {l : List Nat}

theorem freeze_fix (hb : ∀ x, x ∈ l → ∀ b, lookB x s = some b → RelB g w x b) {x : Nat} (hx : x ∈ (freeze s lo l).map (·.1)) (hl : ∀ x, x ∈ (freeze s lo l).map (·.1) → x ∈ l) :
    lo ≤ x ∧ ∃ c, lookB x s = some (.fix c) ∧ RelB g w x (.fix c) := by
  obtain ⟨b, h⟩ := mem_lookB hx
  obtain ⟨h1, c, h2, _⟩ := lookB_freeze h
  exact ⟨h1, c, h2, hb x (hl x hx) _ h2⟩

theorem freeze_mem {x : Nat} : ∀ {l : List Nat}, x ∈ (freeze s lo l).map (·.1) → x ∈ l
  | [], h => by simp [Am.freeze] at h
  | y :: l, h => by
    unfold Am.freeze at h
    cases hle : Nat.ble lo y with
    | false => simp only [hle, cond_false] at h; exact List.mem_cons_of_mem _ (freeze_mem h)
    | true =>
      simp only [hle, cond_true] at h
      split at h
      · simp only [List.map_cons, List.mem_cons] at h
        rcases h with h | h
        · subst h; simp
        · exact List.mem_cons_of_mem _ (freeze_mem h)
      · exact List.mem_cons_of_mem _ (freeze_mem h)

theorem post_freeze {base nx : Nat} (hi : Inv g w) (hlo : g.lo ≤ lo) (hb : ∀ x, x ∈ l → ∀ b, lookB x s = some b → RelB g w x b) :
    Post base nx g w .undef (freeze s lo l) undef (g.freeze ((freeze s lo l).map (·.1))) w := by
  have hfix : ∀ x, x ∈ (freeze s lo l).map (·.1) → lo ≤ x ∧ ∃ c, lookB x s = some (.fix c) ∧ RelB g w x (.fix c) := fun x hx => freeze_fix hb hx fun _ => freeze_mem
  have hother : ∀ b x, g.own b = some x → x ∉ (freeze s lo l).map (·.1) → (g.freeze ((freeze s lo l).map (·.1))).own b = some x := by
    intro b x ho hx
    have hm : memN x ((freeze s lo l).map (·.1)) = false := by
      cases hm : memN x ((freeze s lo l).map (·.1)) with
      | false => rfl
      | true => exact absurd (memN_iff.1 hm) hx
    simp only [Gh.freeze, ho, hm, cond_false]
  have hnone : ∀ b, g.own b = none → (g.freeze ((freeze s lo l).map (·.1))).own b = none := fun b h => by simp only [Gh.freeze, h]
  have hstep : Step g w (g.freeze ((freeze s lo l).map (·.1))) w := {
    S := rfl
    s0 := rfl
    lo := rfl
    size := Nat.le_refl _
    os := rfl
    out := rfl
    shape := fun b C e fr h => ⟨C, h, rfl⟩
    free := fun b _ h => ⟨hnone b h, rfl⟩
    keep := fun b x i _ h1 h2 h3 => ⟨rfl, .inr ⟨x, hother b x h1 (fun hm => by
      obtain ⟨_, c, _, hr⟩ := hfix x hm
      rw [hr.2.1] at h2; cases h2), h2, h3⟩⟩
    names := fun x h => ⟨h, rfl, rfl, rfl, Nat.le_refl _, fun _ => rfl⟩
    rows := fun b x h1 _ h2 => ⟨hother b x h1 (fun hm => by
      obtain ⟨_, c, _, hr⟩ := hfix x hm
      rw [hr.2.1] at h2; cases h2), fun _ => rfl⟩
    own := fun b x _ h _ => by
      by_cases hx : x ∈ (freeze s lo l).map (·.1)
      · right; simp only [Gh.freeze, h, memN_iff.2 hx, cond_true]
      · exact .inl (hother b x h hx) }
  refine ⟨hstep, ⟨fun b x ho hx => ⟨hother b x ho hx, rfl, rfl⟩, fun b x ho hu hx => ?_, fun x _ _ => ⟨rfl, rfl⟩⟩, ⟨hi.s0, fun b h => hnone b (hi.fresh b h), fun b x h => ?_, fun b x h hx => ?_⟩, rel2_undef _, fun x b h => ?_, fun x h => .inl h⟩
  · simp only [Gh.freeze] at ho
    cases hog : g.own b with
    | none => simp [hog] at ho
    | some z =>
      rw [hog] at ho
      cases hm : memN z ((freeze s lo l).map (·.1)) <;> simp [hm] at ho
      rw [ho]
  · simp only [Gh.freeze] at h
    cases hog : g.own b with
    | none => simp [hog] at h
    | some z =>
      rw [hog] at h
      cases hm : memN z ((freeze s lo l).map (·.1)) <;> simp [hm] at h
      subst h
      exact hi.owner b z hog
  · simp only [Gh.freeze] at h
    cases hog : g.own b with
    | none => simp [hog] at h
    | some z =>
      rw [hog] at h
      cases hm : memN z ((freeze s lo l).map (·.1)) <;> simp [hm] at h
      subst h
      exact hi.loc b z hog hx
  · obtain ⟨h1, c, h2, rfl⟩ := lookB_freeze h
    obtain ⟨r1, r2, r3, r4⟩ := hb x (freeze_mem (lookB_mem h)) _ h2
    have hown : (g.freeze ((freeze s lo l).map (·.1))).own (g.bk x) = none := by
      simp only [Gh.freeze, r3, memN_iff.2 (lookB_mem h), cond_true]
    exact ⟨r1, r2, fun i hi' => ⟨r4.lt, .inl ⟨hown, .inr (hi.loc _ x r3 (Nat.le_trans hlo h1))⟩⟩, r4.stay hstep rfl⟩

end freeze

theorem lookB_append {x : Nat} {s : Sto} : ∀ {u : Upd}, lookB x (u ++ s) = match lookB x u with | some b => some b | none => lookB x s
  | [] => rfl
  | (y, b) :: u => by
    simp only [List.cons_append, lookB]
    cases Nat.beq y x with
    | true => rfl
    | false => simp only [cond_false]; exact lookB_append

theorem lookB_none {x : Nat} {u : Upd} (h : lookB x u = none) : x ∉ u.map (·.1) := fun hm => by
  obtain ⟨b, hb⟩ := mem_lookB hm
  rw [h] at hb; cases hb

/-- boxes behind a change -/
theorem Post.sto {base nx : Nat} {g g' : Gh} {w w' : World} {v : AV} {u : Upd} {V : Value} (h : Post base nx g w v u V g' w') {s : Sto} {x : Nat} (hb : ∀ b, lookB x s = some b → RelB g w x b) :
    ∀ b, lookB x (u ++ s) = some b → RelB g' w' x b := by
  intro b hx
  rw [lookB_append] at hx
  cases hu : lookB x u with
  | some b' => rw [hu] at hx; simp at hx; subst hx; exact h.boxes x b' hu
  | none => rw [hu] at hx; exact (hb b hx).stay h.step h.only (lookB_none hu)

/-- slices seen with cells of any kind -/
def SeenC (g : Gh) (w : World) (V : Value) (z n : Nat) (l : List AV) : Prop :=
  ∃ (a : Option Addr) (cap : Nat) (us : List Value), V = .slice a n cap ∧ n ≤ cap ∧ l.length = n * z ∧ us.length = l.length ∧ (∀ i, i < l.length → Rel0 g w (l.getD i .undef) (us.getD i undef)) ∧
    (0 < l.length → ∃ b o, a = some ⟨b, o, none⟩ ∧ ∀ i, i < l.length → Safe g w b (o + i) ∧ w.cell? ⟨b, o + i, none⟩ = some (us.getD i undef))

theorem viewS_ok {g : Gh} {w : World} {s : Sto} {v v' : AV} {V : Value} (h : viewS s v = some v') (hv : Rel0 g w v V) (hb : ∀ x, x ∈ v.refs0 → ∀ b, lookB x s = some b → RelB g w x b) :
    (∃ z n l, v' = .vc z n l ∧ SeenC g w V z n l) ∨ RelP (Safe g w) w v' V := by
  unfold viewS at h
  split at h
  · rename_i x ver
    obtain ⟨hu, hg, hle, ⟨_, _, _, _⟩, hv⟩ := hv
    have common : ∀ sz v c, lookB x s = some (.grow sz v c) → v = ver → ∃ a cap, V = .slice a (c.count sz) cap ∧ c.count sz ≤ cap ∧ c.size = c.count sz * sz ∧
        (0 < c.size → ∃ b, a = some ⟨b, 0, none⟩ ∧ ∀ i, i < c.size → Safe g w b i ∧ ∃ U, w.cell? ⟨b, i, none⟩ = some U ∧ RelP (Safe g w) w (c.get i) U) := by
      intro sz v c hl hver
      subst hver
      obtain ⟨h1, h2, h3, h4, h5, h6, h7, h8⟩ := hb x (by simp [AV.refs0]) _ hl
      obtain ⟨a, cap, rfl, hcap, ha⟩ := hv h3
      refine ⟨a, cap, by rw [h5], by rw [← h5]; exact hcap, h6, fun hp => ?_⟩
      have hcap0 : 0 < cap := by
        rcases Nat.eq_zero_or_pos cap with h0 | h0
        · rw [h6, ← h5, show g.cnt x = 0 by omega] at hp; simp at hp
        · exact h0
      obtain ⟨b, C, e', rfl, ho, hf, hC, hcs⟩ := ha hcap0
      obtain ⟨C', e'', hC', q1, q2, q3⟩ := h8 b ho
      rw [hC] at hC'
      obtain rfl : C = C' := by simp at hC'; exact hC'.1
      have hfill : g.fill b = c.size := by rw [hf, h6, h5, h4]
      refine ⟨b, rfl, fun i hi => ⟨⟨block_lt hC, .inr ⟨x, ho, hg, by omega⟩⟩, C.getD i undef, cell_of_block hC (by omega), q3 i (by omega)⟩⟩
    split at h
    · rename_i sz v k l hl
      cases hbv : Nat.beq v ver with
      | false => simp [hbv] at h
      | true =>
        simp [hbv] at h
        subst h
        right
        obtain ⟨a, cap, rfl, hcap, hs, hc⟩ := common sz v _ hl (Nat.beq_true hbv)
        simp only [Ct.count, Ct.size] at *
        refine .vi k l a cap hcap fun hp => ?_
        obtain ⟨b, rfl, hcc⟩ := hc hp
        refine ⟨b, 0, rfl, fun i hi => ?_⟩
        obtain ⟨c1, U, c2, c3⟩ := hcc i hi
        simp only [Ct.get] at c3
        cases c3
        rw [Nat.zero_add]
        exact ⟨c1, c2⟩
    · rename_i sz v l hl
      cases hbv : Nat.beq v ver with
      | false => simp [hbv] at h
      | true =>
        simp [hbv] at h
        subst h
        right
        obtain ⟨a, cap, rfl, hcap, hs, hc⟩ := common sz v _ hl (Nat.beq_true hbv)
        simp only [Ct.count, Ct.size] at *
        rcases Nat.eq_zero_or_pos l.length with h0 | h0
        · exact .vc sz _ l [] a cap hcap hs (by rw [h0]; rfl) (fun i hi => by omega) (fun hp => by omega)
        · obtain ⟨b, rfl, hcc⟩ := hc h0
          refine .vc sz _ l ((List.range l.length).map fun j => (w.cell? ⟨b, j, none⟩).getD undef) _ cap hcap hs (by simp) (fun i hi => ?_) (fun _ => ⟨b, 0, rfl, fun i hi => ?_⟩)
          · obtain ⟨c1, U, c2, c3⟩ := hcc i hi
            have : ((List.range l.length).map fun j => (w.cell? ⟨b, j, none⟩).getD undef).getD i undef = U := by simp [List.getD, hi, c2]
            rw [this]; exact c3
          · obtain ⟨c1, U, c2, c3⟩ := hcc i hi
            have : ((List.range l.length).map fun j => (w.cell? ⟨b, j, none⟩).getD undef).getD i undef = U := by simp [List.getD, hi, c2]
            rw [this, Nat.zero_add]; exact ⟨c1, c2⟩
    · rename_i sz v k P hl
      cases hbv : Nat.beq v ver && Nat.beq sz 2 with
      | false => simp [hbv] at h
      | true =>
        simp only [hbv, cond_true, Option.some.injEq] at h
        subst h
        rw [Bool.and_eq_true] at hbv
        obtain rfl := Nat.beq_true hbv.2
        right
        obtain ⟨a, cap, rfl, hcap, hs, hc⟩ := common 2 v _ hl (Nat.beq_true hbv.1)
        have hcnt : (Ct.blks k P).count 2 = P.length := rfl
        have hsz : (Ct.blks k P).size = P.length * 2 := rfl
        rw [hcnt] at hcap ⊢
        rw [hsz] at hc
        have hrec : ∀ i, i < P.length → (recB k P i).length = 2 := fun _ _ => rfl
        have hL := flat_len P.length hrec
        have hget : ∀ i, i < P.length * 2 → ((List.range P.length).flatMap (recB k P)).getD i .undef = (Ct.blks k P).get i := fun i hi => by
          have := flat_get P.length hrec (i / 2) (i % 2) (by omega) (by omega)
          rw [show i / 2 * 2 + i % 2 = i by omega] at this
          exact this
        refine .vb _ _ _ ?_
        rcases Nat.eq_zero_or_pos P.length with h0 | h0
        · exact .vc 2 _ _ [] a cap hcap hL (by rw [hL]; simp [h0]) (fun i hi => by rw [hL] at hi; omega) (fun hp => by rw [hL] at hp; omega)
        · obtain ⟨b, rfl, hcc⟩ := hc (by omega)
          refine .vc 2 _ _ ((List.range (P.length * 2)).map fun j => (w.cell? ⟨b, j, none⟩).getD undef) _ cap hcap hL (by rw [hL]; simp) (fun i hi => ?_) (fun _ => ⟨b, 0, rfl, fun i hi => ?_⟩)
          · rw [hL] at hi
            obtain ⟨c1, U, c2, c3⟩ := hcc i hi
            have : ((List.range (P.length * 2)).map fun j => (w.cell? ⟨b, j, none⟩).getD undef).getD i undef = U := by simp [List.getD, hi, c2]
            rw [this, hget i hi]; exact c3
          · rw [hL] at hi
            obtain ⟨c1, U, c2, c3⟩ := hcc i hi
            have : ((List.range (P.length * 2)).map fun j => (w.cell? ⟨b, j, none⟩).getD undef).getD i undef = U := by simp [List.getD, hi, c2]
            rw [this, Nat.zero_add]; exact ⟨c1, c2⟩
    · simp at h
  · rename_i x sz off n
    obtain ⟨hu, hg, ⟨C', e'', fr, hC', hle⟩, a, cap, rfl, hcap, ha⟩ := hv
    split at h
    · rename_i k l hl
      cases hs1 : Nat.beq sz 1 with
      | false => simp [hs1] at h
      | true =>
        obtain rfl := Nat.beq_true hs1
        simp [hs1] at h
        subst h
        right
        obtain ⟨h1, h2, h3, C, e, hC, hCs, hcells⟩ := hb x (by simp [AV.refs0]) _ hl
        rw [hC] at hC'
        obtain rfl : C = C' := by simp at hC'; exact hC'.1
        simp only [Ct.size, Ct.get] at *
        have hlen : ((l.drop off).take n).length = n := by simp; omega
        have := RelP.vi (S := Safe g w) (w := w) k ((l.drop off).take n) a cap (by omega) (fun hp => by
          obtain rfl := ha (by omega)
          refine ⟨_, _, rfl, fun i hi => ⟨h3 _ (by omega), ?_⟩⟩
          rw [cell_of_block hC (by omega)]
          have := hcells (off + i) (by omega)
          rw [getD_drop_take l off n i 0 (by omega)]
          simp only [Rel0] at this
          cases hq : C.getD (off + i) undef <;> rw [hq] at this <;> cases this
          rfl)
        rwa [hlen] at this
    · rename_i l hl
      simp at h
      subst h
      left
      obtain ⟨h1, h2, h3, C, e, hC, hCs, hcells⟩ := hb x (by simp [AV.refs0]) _ hl
      rw [hC] at hC'
      obtain rfl : C = C' := by simp at hC'; exact hC'.1
      simp only [Ct.size, Ct.get] at *
      have hlen : ((l.drop off).take (n * sz)).length = n * sz := by simp; omega
      refine ⟨sz, n, _, rfl, a, cap, (List.range (n * sz)).map fun j => C.getD (off + j) undef, rfl, hcap, hlen, by simp [hlen], fun i hi => ?_, fun hp => ?_⟩
      · have e1 : ((List.range (n * sz)).map fun j => C.getD (off + j) undef).getD i undef = C.getD (off + i) undef := by
          have : i < n * sz := by omega
          rw [List.getD_eq_getElem?_getD, List.getElem?_map, List.getElem?_range this]; rfl
        rw [e1, getD_drop_take l off (n * sz) i _ (by omega)]
        exact hcells (off + i) (by omega)
      · obtain rfl := ha (by omega)
        refine ⟨_, _, rfl, fun i hi => ⟨h3 _ (by omega), ?_⟩⟩
        have e1 : ((List.range (n * sz)).map fun j => C.getD (off + j) undef).getD i undef = C.getD (off + i) undef := by
          have : i < n * sz := by omega
          rw [List.getD_eq_getElem?_getD, List.getElem?_map, List.getElem?_range this]; rfl
        rw [e1]
        exact cell_of_block hC (by omega)
    · simp at h
  · cases hp : v.plain0 with
    | false => simp [hp] at h
    | true => simp [hp] at h; subst h; exact .inr (hv.plain hp)

theorem pureL_spec {f : AV → Option AV} : ∀ {l l' : List AV}, pureL f l = some l' → l'.length = l.length ∧ ∀ i, i < l.length → f (l.getD i .undef) = some (l'.getD i .undef)
  | [], l', h => by simp [pureL] at h; subst h; simp
  | v :: l, l', h => by
    unfold pureL at h
    split at h
    · rename_i a b ha hb
      simp at h
      subst h
      obtain ⟨h1, h2⟩ := pureL_spec hb
      refine ⟨by simp [h1], fun i hi => ?_⟩
      cases i with
      | zero => simpa using ha
      | succ i => simpa using h2 i (by simpa using hi)
    · simp at h

theorem pureC_ok {g : Gh} {w : World} {s : Sto} (hb : ∀ x, g.used x → ∀ b, lookB x s = some b → RelB g w x b) : ∀ (d : Nat) {v v' : AV} {V : Value}, pureC s d v = some v' → Rel0 g w v V → RelP (Safe g w) w v' V
  | 0, v, v', V, h, hv => by
    unfold pureC at h
    cases hp : v.plain0 with
    | false => simp [hp] at h
    | true => simp [hp] at h; subst h; exact hv.plain hp
  | d + 1, v, v', V, h, hv => by
    unfold pureC at h
    split at h
    · rename_i z n l hview
      cases hl : pureL (pureC s d) l with
      | none => simp [hl] at h
      | some l' =>
        simp [hl] at h
        subst h
        obtain ⟨p1, p2⟩ := pureL_spec hl
        rcases viewS_ok hview hv (fun x hx => hb x (hv.used x hx)) with ⟨z', n', l0, he, hs⟩ | hr
        · simp only [AV.vc.injEq] at he
          obtain ⟨rfl, rfl, rfl⟩ := he
          obtain ⟨a, cap, us, rfl, hcap, hl1, hl2, hl3, hl4⟩ := hs
          exact .vc z n l' us a cap hcap (p1.trans hl1) (hl2.trans p1.symm) (fun i hi => pureC_ok hb d (p2 i (by omega)) (hl3 i (by omega))) (fun hp => by
            obtain ⟨b, o, ha, hc⟩ := hl4 (by omega)
            exact ⟨b, o, ha, fun i hi => hc i (by omega)⟩)
        · cases hr with
          | vc _ _ _ us a cap hcap hl1 hl2 hr hc =>
            exact .vc z n l' us a cap hcap (p1.trans hl1) (hl2.trans p1.symm) (fun i hi => pureC_ok hb d (p2 i (by omega)) (hr i (by omega)).to0) (fun hp => by
              obtain ⟨b, o, ha, hc⟩ := hc (by omega)
              exact ⟨b, o, ha, fun i hi => hc i (by omega)⟩)
    · rename_i o hno
      rcases viewS_ok h hv (fun x hx => hb x (hv.used x hx)) with ⟨z', n', l0, he, hs⟩ | hr
      · subst he
        exact absurd h (hno z' n' l0)
      · exact hr

theorem pureL_rel {f : AV → Option AV} {r : AV → Value → Prop} (hf : ∀ v v' V, f v = some v' → r v V → r v' V) : ∀ {l l' : List AV} {L : List Value}, pureL f l = some l' → AllR r l L → AllR r l' L
  | [], l', L, h, ha => by simp [pureL] at h; subst h; exact ha
  | v :: l, l', L, h, ha => by
    unfold pureL at h
    split at h
    · rename_i a b h1 h2
      simp at h
      subst h
      cases ha with
      | cons hv hl => exact .cons (hf _ _ _ h1 hv) (pureL_rel hf h2 hl)
    · simp at h

section pureV
variable {g : Gh} {w : World} {s : Sto} {lo : Nat} (hb : ∀ x, g.used x → ∀ b, lookB x s = some b → RelB g w x b)
include hb

theorem pure0_ok {v v' : AV} {V : Value} (h : pure0 s lo v = some v') (hv : Rel0 g w v V) : Rel0 g w v' V := by
  unfold pure0 at h
  split at h
  · cases hle : Nat.ble lo _ with
    | true => rw [hle] at h; exact (pureC_ok hb 3 h hv).to0
    | false => rw [hle] at h; simp at h; subst h; exact hv
  · cases hle : Nat.ble lo _ with
    | true =>
      rw [hle] at h
      simp only [cond_true] at h
      split at h
      · rename_i v1 hp
        simp only [Option.some.injEq] at h; subst h
        exact (pureC_ok hb 3 hp hv).to0
      · simp only [Option.some.injEq] at h; subst h; exact hv
    | false => rw [hle] at h; simp at h; subst h; exact hv
  · simp at h; subst h; exact hv

theorem pure1_ok {v v' : AV} {V : Value} (h : pure1 s lo v = some v') (hv : Rel1 g w v V) : Rel1 g w v' V := by
  unfold pure1 at h
  split at h
  · rename_i vs
    cases hl : pureL (pure0 s lo) vs with
    | none => simp [hl] at h
    | some l' =>
      simp [hl] at h
      subst h
      obtain ⟨us, rfl, ha⟩ := hv
      exact ⟨us, rfl, pureL_rel (r := Rel0 g w) (fun v v' V h hv => pure0_ok hb h hv) hl ha⟩
  · rename_i hno
    cases hf : v with
    | func f a b => subst hf; simp [pure0] at h; subst h; exact hv
    | agg vs => exact absurd hf (hno vs)
    | _ =>
      subst hf
      simp only [Rel1] at hv
      exact (pure0_ok hb h hv).to1

theorem pureV_ok {v v' : AV} {V : Value} (h : pureV s lo v = some v') (hv : Rel2 g w v V) : Rel2 g w v' V := by
  unfold pureV at h
  split at h
  · rename_i vs
    cases hl : pureL (pure1 s lo) vs with
    | none => simp [hl] at h
    | some l' =>
      simp [hl] at h
      subst h
      obtain ⟨us, rfl, ha⟩ := hv
      exact ⟨us, rfl, pureL_rel (r := Rel1 g w) (fun v v' V h hv => pure1_ok hb h hv) hl ha⟩
  · rename_i hno
    cases hf : v with
    | tuple vs => exact absurd hf (hno vs)
    | _ =>
      subst hf
      simp only [Rel2] at hv
      exact (pure1_ok hb h hv).to2'
end pureV

end Am
end Go.Proofs.Ytooiechjanmdjaa
