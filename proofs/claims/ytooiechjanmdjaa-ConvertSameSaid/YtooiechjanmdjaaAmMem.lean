/- The mirror machine: slices as they are seen, memory that is read. -/
import Derived.Test.YtooiechjanmdjaaAmOps
import Derived.Laws.Slices
import Derived.Laws.BytesArg
namespace Go.Proofs.Ytooiechjanmdjaa
namespace Am
set_option linter.unusedVariables false
set_option linter.unusedSimpArgs false

theorem RelP.to0 {g : Gh} {w : World} {v : AV} {V : Value} (h : RelP (Safe g w) w v V) : Rel0 g w v V := by
  cases h <;> simp only [Rel0] <;> first
    | exact .bool _
    | exact .int _ _
    | exact .str _
    | exact .nilptr
    | exact .nilfunc
    | exact .niliface
    | exact .nilsl
    | exact .esl _
    | exact .em _ _
    | exact .vi _ _ _ _ ‹_› ‹_›
    | exact .vr _ _ _ ‹_›
    | exact .vb _ _ _ ‹_›
    | exact .vc _ _ _ _ _ _ ‹_› ‹_› ‹_› ‹_› ‹_›

theorem RelP.to2 {g : Gh} {w : World} {v : AV} {V : Value} (h : RelP (Safe g w) w v V) : Rel2 g w v V := h.to0.to2

theorem Rel0.plain {g : Gh} {w : World} {v : AV} {V : Value} (h : Rel0 g w v V) (hp : v.plain0 = true) : RelP (Safe g w) w v V := by
  cases v <;> first | exact h | (simp [AV.plain0] at hp)

/-- a list of equal parts: where a part's cell stands -/
theorem flat_len {f : Nat → List AV} {sz : Nat} : ∀ n, (∀ i, i < n → (f i).length = sz) → ((List.range n).flatMap f).length = n * sz
  | 0, _ => by simp
  | n + 1, h => by
    rw [List.range_succ, List.flatMap_append, List.length_append, flat_len n fun i hi => h i (by omega), List.flatMap_singleton, h n (by omega), Nat.add_mul, Nat.one_mul]
theorem flat_get {f : Nat → List AV} {sz : Nat} : ∀ n, (∀ i, i < n → (f i).length = sz) → ∀ i j, i < n → j < sz → ((List.range n).flatMap f).getD (i * sz + j) .undef = (f i).getD j .undef
  | 0, _, _, _, h, _ => by omega
  | n + 1, h, i, j, hi, hj => by
    have hlen := flat_len n fun i hi => h i (by omega)
    rw [List.range_succ, List.flatMap_append, List.flatMap_singleton, List.getD_eq_getElem?_getD, List.getD_eq_getElem?_getD]
    by_cases hlt : i < n
    · have : i * sz + sz ≤ n * sz := by rw [← Nat.succ_mul]; exact Nat.mul_le_mul_right _ hlt
      rw [List.getElem?_append_left (by omega)]
      have := flat_get n (fun i hi => h i (by omega)) i j hlt hj
      rwa [List.getD_eq_getElem?_getD, List.getD_eq_getElem?_getD] at this
    · obtain rfl : i = n := by omega
      rw [List.getElem?_append_right (by omega), hlen, Nat.add_sub_cancel_left]

theorem mkCt_tab {P : Program} {e : TypeId} {l : List AV} {x n k : Nat} (h : mkCt P e l = .tab x n k) : False := by
  unfold mkCt at h
  split at h
  · rename_i k' _
    cases hq : l.all (AV.isInt k') <;> rw [hq] at h <;> cases h
  · cases h

theorem mkCt_blks {P : Program} {e : TypeId} {l : List AV} {k : IntKind} {Q : List (Int × List Int)} (h : mkCt P e l = .blks k Q) : False := by
  unfold mkCt at h
  split at h
  · rename_i k' _
    cases hq : l.all (AV.isInt k') <;> rw [hq] at h <;> cases h
  · cases h

theorem Ct.size_mkNil (P : Program) (e : TypeId) : (mkCt P e []).size = 0 := by
  unfold mkCt
  split <;> simp [Ct.size]

theorem info_of_size {P : Program} {t : TypeId} {n : Nat} (h : sizeT P t = some n) : ∃ i, P.info? t = some i ∧ i.size = n := by
  simp only [sizeT] at h
  cases hh : P.info? t with
  | none => simp [hh] at h
  | some i => simp [hh] at h; exact ⟨i, rfl, h⟩

theorem cell_of_block {w : World} {b i : Nat} {C : Array Value} {e : TypeId} {fr : Nat × Nat} (hb : w.heap[b]? = some (.cells C e fr)) (hi : i < C.size) :
    w.cell? ⟨b, i, none⟩ = some (C.getD i undef) := by
  simp [World.cell?, hb, hi]

theorem Nat.beq_true {a b : Nat} (h : Nat.beq a b = true) : a = b := Nat.eq_of_beq_eq_true h

/-- a box of cells of the call's own: its cells can be read -/
theorem rowB_ok {g : Gh} {w : World} {x : Nat} {s : Sto} {c : Ct} (h : rowB (lookB x s) = some c) (hb : ∀ b, lookB x s = some b → RelB g w x b) :
    g.used x ∧ g.grow x = false ∧ RowR g w (g.bk x) c := by
  cases hl : lookB x s with
  | none => simp [hl, rowB] at h
  | some b =>
    have := hb b hl
    cases b <;> simp [hl, rowB] at h
    · subst h; exact ⟨this.1, this.2.1, this.2.2.2⟩
    · subst h; exact ⟨this.1, this.2.1, this.2.2.2⟩

/-- a slice's cells -/
def Seen (g : Gh) (w : World) (V : Value) (c : Ct) (n sz : Nat) (safe : Prop) : Prop :=
  ∃ a cap, V = .slice a n cap ∧ n ≤ cap ∧ c.size = n * sz ∧ (0 < c.size → ∃ b o, a = some ⟨b, o, none⟩ ∧
    ∀ i, i < c.size → ∃ U, w.cell? ⟨b, o + i, none⟩ = some U ∧ RelP (Safe g w) w (c.get i) U ∧ (safe → Safe g w b (o + i)))

theorem getD_drop_take {α : Type} (l : List α) (o m i : Nat) (d : α) (h : i < m) : ((l.drop o).take m).getD i d = l.getD (o + i) d := by
  simp [List.getD, List.getElem?_take, h]

theorem view_ok {P : Program} {e : TypeId} {sz n : Nat} {s : Sto} {v : AV} {c : Ct} {g : Gh} {w : World} {V : Value}
    (h : viewA P e sz s v = some (c, n)) (hv : Rel2 g w v V) (hb : ∀ x, x ∈ v.refs → ∀ b, lookB x s = some b → RelB g w x b) : Seen g w V c n sz (v.isSl = false) := by
  unfold viewA at h
  split at h
  · rename_i k l
    cases hsz : Nat.beq sz 1 with
    | false => simp [hsz] at h
    | true =>
      obtain rfl := Nat.beq_true hsz
      simp [hsz] at h
      obtain ⟨rfl, rfl⟩ := h
      simp only [Rel2, Rel1, Rel0] at hv
      cases hv with
      | vi _ _ a cap hcap hc =>
        refine ⟨a, cap, rfl, hcap, by simp [Ct.size], fun hp => ?_⟩
        obtain ⟨b, o, ha, hcc⟩ := hc (by simpa [Ct.size] using hp)
        exact ⟨b, o, ha, fun i hi => ⟨_, (hcc i (by simpa [Ct.size] using hi)).2, .int _ _, fun _ => (hcc i (by simpa [Ct.size] using hi)).1⟩⟩
  · rename_i z m l
    cases hsz : Nat.beq z sz with
    | false => simp [hsz] at h
    | true =>
      obtain rfl := Nat.beq_true hsz
      simp [hsz] at h
      obtain ⟨rfl, rfl⟩ := h
      simp only [Rel2, Rel1, Rel0] at hv
      cases hv with
      | vc _ _ _ us a cap hcap hl hu hr hc =>
        refine ⟨a, cap, rfl, hcap, by simpa [Ct.size] using hl, fun hp => ?_⟩
        obtain ⟨b, o, ha, hcc⟩ := hc (by simpa [Ct.size] using hp)
        exact ⟨b, o, ha, fun i hi => ⟨_, (hcc i (by simpa [Ct.size] using hi)).2, hr i (by simpa [Ct.size] using hi), fun _ => (hcc i (by simpa [Ct.size] using hi)).1⟩⟩
  · simp at h
    obtain ⟨rfl, rfl⟩ := h
    simp only [Rel2, Rel1, Rel0] at hv
    cases hv
    exact ⟨none, 0, rfl, Nat.le_refl _, by simp [Ct.size_mkNil], fun hp => by simp [Ct.size_mkNil] at hp⟩
  · simp at h
    obtain ⟨rfl, rfl⟩ := h
    simp only [Rel2, Rel1, Rel0] at hv
    cases hv
    exact ⟨_, 0, rfl, Nat.le_refl _, by simp [Ct.size_mkNil], fun hp => by simp [Ct.size_mkNil] at hp⟩
  · simp at h
    obtain ⟨rfl, rfl⟩ := h
    simp only [Rel2, Rel1, Rel0] at hv
    cases hv
    exact ⟨_, _, rfl, Nat.zero_le _, by simp [Ct.size_mkNil], fun hp => by simp [Ct.size_mkNil] at hp⟩
  · rename_i x ver
    split at h
    · rename_i z v' c' hl
      cases hbv : Nat.beq v' ver && Nat.beq z sz with
      | false => simp [hbv] at h
      | true =>
        simp only [hbv, cond_true, Option.some.injEq, Prod.mk.injEq] at h
        obtain ⟨rfl, rfl⟩ := h
        simp only [Bool.and_eq_true] at hbv
        obtain rfl := Nat.beq_true hbv.1
        obtain rfl := Nat.beq_true hbv.2
        obtain ⟨hu, hg, hver, hz, hcnt, hsize, hz1, hrows⟩ := hb x (by simp [AV.refs, AV.refs1, AV.refs0]) _ hl
        simp only [Rel2, Rel1, Rel0] at hv
        obtain ⟨_, _, _, _, hv⟩ := hv
        obtain ⟨a, cap, rfl, hcap, ha⟩ := hv hver
        refine ⟨a, cap, by rw [hcnt], by rw [← hcnt]; exact hcap, hsize, fun hp => ?_⟩
        have hcap0 : 0 < cap := by
          rcases Nat.eq_zero_or_pos cap with h0 | h0
          · rw [hsize, ← hcnt, show g.cnt x = 0 by omega] at hp; simp at hp
          · exact h0
        obtain ⟨b, C, e', rfl, ho, hf, hC, hcs⟩ := ha hcap0
        obtain ⟨C', e'', hC', h1, h2, h3⟩ := hrows b ho
        rw [hC] at hC'
        obtain ⟨rfl, rfl, _⟩ : C = C' ∧ e' = e'' ∧ True := by simp at hC'; exact ⟨hC'.1, hC'.2, trivial⟩
        have hfill : g.fill b = c'.size := by rw [hf, hsize, hcnt, hz]
        refine ⟨b, 0, rfl, fun i hi => ⟨C.getD i undef, ?_, h3 i (by omega), fun _ => ?_⟩⟩
        · rw [Nat.zero_add]; exact cell_of_block hC (by omega)
        · rw [Nat.zero_add]
          refine ⟨?_, .inr ⟨x, ho, hg, by omega⟩⟩
          rcases Nat.lt_or_ge b w.heap.size with hlt | hge
          · exact hlt
          · simp [Array.getElem?_eq_none hge] at hC
    · simp at h
  · rename_i x z off m
    split at h
    · rename_i k l hrow
      cases hbv : Nat.beq z sz && Nat.beq sz 1 with
      | false => simp [hbv] at h
      | true =>
        simp only [hbv, cond_true, Option.some.injEq, Prod.mk.injEq] at h
        obtain ⟨rfl, rfl⟩ := h
        simp only [Bool.and_eq_true] at hbv
        obtain rfl := Nat.beq_true hbv.1
        obtain rfl := Nat.beq_true hbv.2
        obtain ⟨hu, hg, C, e', hC, hCs, hcells⟩ := rowB_ok hrow (hb x (by simp [AV.refs, AV.refs1, AV.refs0]))
        simp only [Rel2, Rel1, Rel0] at hv
        obtain ⟨_, _, ⟨C', e'', fr, hC', hle⟩, a, cap, rfl, hcap, ha⟩ := hv
        rw [hC] at hC'
        obtain rfl : C = C' := by simp at hC'; exact hC'.1
        simp only [Ct.size] at hCs hcells
        have hlen : ((l.drop off).take m).length = m := by simp; omega
        refine ⟨a, cap, rfl, hcap, by simp only [Ct.size]; omega, fun hp => ?_⟩
        simp only [Ct.size] at hp
        obtain rfl := ha (by omega)
        refine ⟨_, _, rfl, fun i hi => ?_⟩
        simp only [Ct.size] at hi
        refine ⟨_, cell_of_block hC (by omega), ?_, fun hf => by simp [AV.isSl] at hf⟩
        have := hcells (off + i) (by omega)
        have hget : (Ct.ints k (List.take m (List.drop off l))).get i = (Ct.ints k l).get (off + i) := by
          simp only [Ct.get]
          rw [getD_drop_take l off m i 0 (by omega)]
        rw [hget]
        simp only [Ct.get] at this ⊢
        exact this.plain rfl
    · rename_i l hrow
      cases hbv : Nat.beq z sz && ((l.drop off).take (m * sz)).all AV.plain0 with
      | false => simp [hbv] at h
      | true =>
        simp only [hbv, cond_true, Option.some.injEq, Prod.mk.injEq] at h
        obtain ⟨rfl, rfl⟩ := h
        simp only [Bool.and_eq_true] at hbv
        obtain rfl := Nat.beq_true hbv.1
        obtain ⟨hu, hg, C, e', hC, hCs, hcells⟩ := rowB_ok hrow (hb x (by simp [AV.refs, AV.refs1, AV.refs0]))
        simp only [Rel2, Rel1, Rel0] at hv
        obtain ⟨_, _, ⟨C', e'', fr, hC', hle⟩, a, cap, rfl, hcap, ha⟩ := hv
        rw [hC] at hC'
        obtain rfl : C = C' := by simp at hC'; exact hC'.1
        simp only [Ct.size] at hCs hcells
        have hlen : ((l.drop off).take (m * z)).length = m * z := by simp; omega
        refine ⟨a, cap, rfl, hcap, by simp only [Ct.size]; omega, fun hp => ?_⟩
        simp only [Ct.size] at hp
        obtain rfl := ha (by omega)
        refine ⟨_, _, rfl, fun i hi => ?_⟩
        simp only [Ct.size] at hi
        refine ⟨_, cell_of_block hC (by omega), ?_, fun hf => by simp [AV.isSl] at hf⟩
        have := hcells (off + i) (by omega)
        have hget : (Ct.cells (List.take (m * z) (List.drop off l))).get i = (Ct.cells l).get (off + i) := by
          simp only [Ct.get]
          rw [getD_drop_take l off (m * z) i _ (by omega)]
        have hpl : ((Ct.cells (List.take (m * z) (List.drop off l))).get i).plain0 = true := by
          have hall := hbv.2
          rw [List.all_eq_true] at hall
          simp only [Ct.get, List.getD]
          rw [List.getElem?_eq_getElem (by omega)]
          exact hall _ (List.getElem_mem _)
        rw [hget] at hpl ⊢
        exact this.plain hpl
    · cases h
    · cases h
    · cases h
  · simp at h


theorem block_lt {w : World} {b : Nat} {o : Obj} (h : w.heap[b]? = some o) : b < w.heap.size := by
  rcases Nat.lt_or_ge b w.heap.size with hlt | hge
  · exact hlt
  · simp [Array.getElem?_eq_none hge] at h

theorem quiet_len {P : Program} {w : World} {g : Gh} {s : Sto} {a : AV} {A : Value} {n : Int} {ts : Array TypeId} {t ty : TypeId} (ha : Rel2 g w a A)
    (hb : ∀ x, x ∈ a.refs → ∀ b, lookB x s = some b → RelB g w x b) (ht : ∃ e, P.underlying t = some (.slice e)) (h : lenA s a = some n) :
    (Builtin.len_ #[t] ty #[A]).run P w = .ok (.int .i64 n) w := by
  obtain ⟨e, ht⟩ := ht
  have key : ∀ (p : Option Addr) (m c : Nat), (Builtin.len_ #[t] ty #[.slice p m c]).run P w = .ok (.int .i64 m) w := by
    intro p m c
    simp [Builtin.len_, run_underlying ht, goInt]
  unfold lenA at h
  split at h
  · simp at h; subst h; simp only [Rel2, Rel1, Rel0] at ha; cases ha; exact key _ _ _
  · simp at h; subst h; simp only [Rel2, Rel1, Rel0] at ha; cases ha; exact key _ _ _
  · simp at h; subst h; simp only [Rel2, Rel1, Rel0] at ha; cases ha; rename_i ha; cases ha; exact key _ _ _
  · simp at h; subst h; simp only [Rel2, Rel1, Rel0] at ha; cases ha; rename_i ha; cases ha; exact key _ _ _
  · simp at h; subst h; simp only [Rel2, Rel1, Rel0] at ha; obtain ⟨_, _, _, a', cap, rfl, _⟩ := ha; exact key _ _ _
  · simp at h; subst h; simp only [Rel2, Rel1, Rel0] at ha; cases ha; exact key _ _ _
  · simp at h; subst h; simp only [Rel2, Rel1, Rel0] at ha; cases ha; exact key _ _ _
  · simp at h; subst h; simp only [Rel2, Rel1, Rel0] at ha; cases ha; exact key _ _ _
  · rename_i x ver
    split at h
    · rename_i z v' c' hl
      cases hbv : Nat.beq v' ver with
      | false => simp [hbv] at h
      | true =>
        obtain rfl := Nat.beq_true hbv
        simp [hbv] at h
        subst h
        obtain ⟨hu, hg, hver, hz, hcnt, hsize, hz1, hrows⟩ := hb x (by simp [AV.refs, AV.refs1, AV.refs0]) _ hl
        simp only [Rel2, Rel1, Rel0] at ha
        obtain ⟨_, _, _, _, ha⟩ := ha
        obtain ⟨a, cap, rfl, hcap, _⟩ := ha hver
        rw [← hcnt]
        exact key _ _ _
    · simp at h
  · simp at h

theorem quiet_minmax {P : Program} {w : World} {g : Gh} {mx : Bool} {as : List AV} {A : List Value} {v : AV} {u : Upd} {ts : Array TypeId} {ty : TypeId}
    (ha : AllR (Rel2 g w) as A) (h : minmaxA mx as = some (true, v, u)) :
    Quiet P g w (if mx then Builtin.max_ ts ty A.toArray else Builtin.min_ ts ty A.toArray) v u := by
  unfold minmaxA at h
  split at h
  · rename_i k a k' b
    simp only [ret, Option.some.injEq, Prod.mk.injEq, true_and] at h
    obtain ⟨rfl, rfl⟩ := h
    cases ha with
    | cons h1 h2 =>
      cases h2 with
      | cons h2 h3 =>
        cases h3
        obtain rfl := rel_int h1
        obtain rfl := rel_int h2
        cases mx
        · exact ⟨_, by simp [Builtin.min_, Builtin.min2, List.foldlM], rel2_int _ _, rfl⟩
        · exact ⟨_, by simp [Builtin.max_, Builtin.max2, List.foldlM], rel2_int _ _, rfl⟩
  · simp at h

theorem run_sizeOfA {P : Program} {w : World} {t : TypeId} {n : Nat} (h : sizeT P t = some n) : (sizeOf t).run P w = .ok n w := by
  obtain ⟨i, hi, rfl⟩ := info_of_size h
  simp [sizeOf, typeInfo, hi]

theorem quiet_fieldAddr {P : Program} {w : World} {g : Gh} {t : TypeId} {f : Nat} {a v : AV} {A : Value} {u : Upd} (ha : Rel2 g w a A) (h : fieldAddrA P t a f = some (true, v, u)) :
    Quiet P g w (Instr.fieldAt t A f) v u := by
  unfold fieldAddrA at h
  split at h
  · rename_i o n hf
    obtain ⟨fs, d, hu, hd, hn, rfl⟩ : ∃ fs d, P.underlying t = some (.struct fs) ∧ fs[f]? = some d ∧ sizeT P d.type = some n ∧ d.offset = o := by
      unfold fieldOf at hf
      split at hf
      · rename_i fs hu
        cases hd : fs[f]? with
        | none => simp [hd] at hf
        | some d =>
          simp [hd] at hf
          obtain ⟨hn, h1⟩ := hf
          exact ⟨fs, d, hu, hd, hn, h1⟩
      · simp at hf
    cases hn1 : Nat.ble 1 n with
    | false => simp [hn1] at h
    | true =>
      have hn1' : 1 ≤ n := Nat.le_of_ble_eq_true hn1
      have hn0 : ¬ n = 0 := by omega
      simp only [hn1, cond_true] at h
      have key : ∀ b o', (Instr.fieldAt t (.pointer (some ⟨b, o', none⟩)) f).run P w = .ok (.pointer (some ⟨b, o' + d.offset, none⟩)) w := by
        intro b o'
        simp [Instr.fieldAt, run_underlying hu, hd, Instr.sureAddr, fieldPlace, run_sizeOfA hn, hn0, Addr.add_lit]
      split at h
      · rename_i b off s
        cases hle : Nat.ble (d.offset + n) s with
        | false => simp [hle] at h
        | true =>
          have hle' := Nat.le_of_ble_eq_true hle
          simp only [hle, cond_true, ret, Option.some.injEq, Prod.mk.injEq, true_and] at h
          obtain ⟨rfl, rfl⟩ := h
          simp only [Rel2, Rel1, Rel0] at ha
          obtain ⟨h1, h2, ⟨C, e, fr, hC, hs⟩, rfl⟩ := ha
          exact ⟨_, key _ _, ⟨h1, h2, ⟨C, e, fr, hC, by omega⟩, rfl⟩, rfl⟩
      · rename_i l i s
        cases hle : Nat.ble (d.offset + n) s with
        | false => simp [hle] at h
        | true =>
          have hle' := Nat.le_of_ble_eq_true hle
          simp only [hle, cond_true, ret, Option.some.injEq, Prod.mk.injEq, true_and] at h
          obtain ⟨rfl, rfl⟩ := h
          simp only [Rel2, Rel1, Rel0] at ha
          obtain ⟨h1, b, o, us, rfl, h2, h3⟩ := ha
          exact ⟨_, key _ _, ⟨by omega, b, o, us, by rw [Nat.add_assoc], h2, h3⟩, rfl⟩
      · simp at h
  · simp at h

theorem quiet_field {P : Program} {w : World} {g : Gh} {t : TypeId} {f : Nat} {a v : AV} {A : Value} {u : Upd} (ha : Rel2 g w a A) (h : fieldA P t a f = some (true, v, u)) :
    Quiet P g w (Instr.field t A f) v u := by
  unfold fieldA at h
  split at h
  · rename_i fs cs ht
    split at h
    · rename_i d hd
      split at h
      · rename_i n hn
        cases hu : (P.underlying d.type).isSome with
        | false => simp [hu] at h
        | true =>
          obtain ⟨us, rfl, hcs⟩ := rel_agg ha
          have hlen := hcs.length
          have hrun : ∀ (h1 : isAggT P d.type = false → 1 ≤ n ∧ d.offset < us.size), (Instr.field t (.agg us) f).run P w = .ok (asVal (isAggT P d.type) ((us.toList.drop d.offset).take n)) w := fun h1 => by
            unfold Instr.field
            simp only [Sem.run_bind, run_underlying ht, Result.andThen_ok, hd, asAgg, Sem.run_pure]
            exact run_part hn hu h1
          simp only [hu, Bool.not_true, cond_false] at h
          cases hg : isAggT P d.type with
          | true =>
            simp only [hg, cond_true] at h
            cases hb : Nat.ble (d.offset + n) cs.length with
            | false => simp [hb] at h
            | true =>
              simp only [hb, cond_true, ret, Option.some.injEq, Prod.mk.injEq, true_and] at h
              obtain ⟨rfl, rfl⟩ := h
              refine ⟨_, hrun (fun h => by rw [hg] at h; cases h), ?_, rfl⟩
              rw [hg]
              exact ⟨_, rfl, by simpa using (hcs.drop d.offset).take n⟩
          | false =>
            simp only [hg, cond_false] at h
            cases hb : (Nat.ble 1 n && Nat.ble (d.offset + 1) cs.length) with
            | false => simp [hb] at h
            | true =>
              simp only [hb, cond_true, ret, Option.some.injEq, Prod.mk.injEq, true_and] at h
              obtain ⟨rfl, rfl⟩ := h
              rw [Bool.and_eq_true] at hb
              have h1 := Nat.le_of_ble_eq_true hb.1
              have h2 := Nat.le_of_ble_eq_true hb.2
              have hsz : us.size = cs.length := by simpa using hlen
              refine ⟨_, hrun (fun _ => ⟨h1, by omega⟩), ?_, rfl⟩
              have hval : asVal false ((us.toList.drop d.offset).take n) = us.toList.getD d.offset undef := by
                have hlt : d.offset < us.toList.length := by simp; omega
                obtain ⟨m, rfl⟩ : ∃ m, n = m + 1 := ⟨n - 1, by omega⟩
                rw [List.drop_eq_getElem_cons hlt]
                simp [asVal, List.getD_eq_getElem?_getD, List.getElem?_eq_getElem hlt]
              rw [hg, hval]
              exact (hcs.get d.offset (by omega)).to2
      · cases h
    · cases h
  · cases h

theorem quiet_indexAddr {P : Program} {w : World} {g : Gh} {s : Sto} {t : TypeId} {a i v : AV} {A I : Value} {u : Upd} (ha : Rel2 g w a A) (hi : Rel2 g w i I)
    (hb : ∀ x, x ∈ a.refs → ∀ b, lookB x s = some b → RelB g w x b) (h : indexAddrA P s t a i = some (true, v, u)) :
    Quiet P g w (Instr.indexAt t A I) v u := by
  unfold indexAddrA at h
  split at h
  · rename_i e k n ht
    obtain rfl := rel_int hi
    have key : ∀ (p : Option Addr) (len cap sz b o : Nat), sizeT P e = some sz → 0 ≤ n → n < len → p = some ⟨b, o, none⟩ →
        (Instr.indexAt t (.slice p len cap) (.int k n)).run P w = .ok (.pointer (some ⟨b, o + n.toNat * sz, none⟩)) w := by
      intro p len cap sz b o hsz h0 h1 hp
      subst hp
      simp [Instr.indexAt, run_underlying ht, asIntOf, h0, h1, run_sizeOfA hsz, Addr.add_lit]
    split at h
    · simp at h
    · rename_i sz hsz
      cases hz1 : Nat.ble 1 sz with
      | false => simp [hz1] at h
      | true =>
      have hz1' := Nat.le_of_ble_eq_true hz1
      simp only [hz1, Bool.not_true, cond_false] at h
      have hmul : ∀ m, n < (m : Nat) → 0 ≤ n → n.toNat * sz + sz ≤ m * sz := by
        intro m h1 h0
        have := Nat.mul_le_mul_right sz (show n.toNat + 1 ≤ m by omega)
        rwa [Nat.add_mul, Nat.one_mul] at this
      cases hsl : a.isSl with
      | true =>
        simp only [hsl, cond_true] at h
        split at h
        · rename_i b z off m
          cases hz : Nat.beq z sz with
          | false => simp [hz] at h
          | true =>
            obtain rfl := Nat.beq_true hz
            simp only [hz, cond_true, Option.some.injEq, Prod.mk.injEq, Bool.and_eq_true, decide_eq_true_eq] at h
            obtain ⟨⟨h0, h1⟩, rfl, rfl⟩ := h
            simp only [Rel2, Rel1, Rel0] at ha
            obtain ⟨r1, r2, ⟨C, e', fr, hC, hs⟩, p, cap, rfl, hcap, hp⟩ := ha
            have hm := hmul m h1 h0
            obtain rfl := hp (by omega)
            exact ⟨_, key _ _ _ _ _ _ hsz h0 h1 rfl, ⟨r1, r2, ⟨C, e', fr, hC, by omega⟩, rfl⟩, rfl⟩
        · simp at h
      | false =>
        simp only [hsl, cond_false] at h
        split at h
        · rename_i k' l m hview
          cases hz : Nat.beq sz 1 with
          | false => simp [hz] at h
          | true =>
            obtain rfl := Nat.beq_true hz
            simp only [hz, cond_true, Option.some.injEq, Prod.mk.injEq, Bool.and_eq_true, decide_eq_true_eq] at h
            obtain ⟨⟨h0, h1⟩, rfl, rfl⟩ := h
            obtain ⟨p, cap, rfl, hcap, hsz', hcells⟩ := view_ok hview ha hb
            simp only [Ct.size, Nat.mul_one] at hsz' hcells
            obtain ⟨b, o, rfl, hc⟩ := hcells (by omega)
            refine ⟨_, key _ _ _ _ _ _ hsz h0 h1 rfl, ⟨by omega, b, o, by rw [Nat.mul_one], fun j hj => ?_⟩, rfl⟩
            obtain ⟨U, hU, hR, hS⟩ := hc j hj
            simp only [Ct.get] at hR
            cases hR
            exact ⟨hS hsl, hU⟩
        · rename_i l m hview
          simp only [Option.some.injEq, Prod.mk.injEq, Bool.and_eq_true, decide_eq_true_eq] at h
          obtain ⟨⟨h0, h1⟩, rfl, rfl⟩ := h
          obtain ⟨p, cap, rfl, hcap, hsz', hcells⟩ := view_ok hview ha hb
          simp only [Ct.size] at hsz' hcells
          have hm := hmul m h1 h0
          obtain ⟨b, o, rfl, hc⟩ := hcells (by omega)
          refine ⟨_, key _ _ _ _ _ _ hsz h0 h1 rfl, ⟨by omega, b, o, (List.range l.length).map fun j => (w.cell? ⟨b, o + j, none⟩).getD undef, rfl, by simp, fun j hj => ?_⟩, rfl⟩
          obtain ⟨U, hU, hR, hS⟩ := hc j hj
          have hget : ((List.range l.length).map fun j => (w.cell? ⟨b, o + j, none⟩).getD undef).getD j undef = U := by
            simp [List.getD, hj, hU]
          rw [hget]
          exact ⟨hS hsl, hU, hR⟩
        · cases h
        · cases h
        · split at h
          · rename_i k' rs _
            cases hz : Nat.beq sz 1 with
            | false => simp [hz] at h
            | true =>
              obtain rfl := Nat.beq_true hz
              simp only [hz, cond_true, Option.some.injEq, Prod.mk.injEq, Bool.and_eq_true, decide_eq_true_eq] at h
              obtain ⟨⟨h0, h1⟩, rfl, rfl⟩ := h
              simp only [Rel2, Rel1, Rel0] at ha
              cases ha with
              | vr _ _ _ ha =>
              cases ha with
              | vc _ _ _ us p cap hcap hl hu hr hc =>
              obtain ⟨b, o, rfl, hq⟩ := hc (by simp; omega)
              refine ⟨_, key _ _ _ _ _ _ hsz h0 h1 rfl, ⟨by omega, b, o, us, by rw [Nat.mul_one], fun j hj => ?_⟩, rfl⟩
              have hj' : j < (rs.map (AV.vi k')).length := by simpa using hj
              have hx := hr j hj'
              rw [show (rs.map (AV.vi k')).getD j .undef = .vi k' (rs.getD j []) by simp [List.getD, hj]] at hx
              exact ⟨(hq j hj').1, (hq j hj').2, hx⟩
          · rename_i k' Q _
            cases hz : Nat.beq 2 sz with
            | false => simp [hz] at h
            | true =>
              obtain rfl := Nat.beq_true hz
              simp only [hz, cond_true, Option.some.injEq, Prod.mk.injEq, Bool.and_eq_true, decide_eq_true_eq] at h
              obtain ⟨⟨h0, h1⟩, rfl, rfl⟩ := h
              have hf : ∀ i, i < Q.length → (recB k' Q i).length = 2 := fun _ _ => rfl
              simp only [Rel2, Rel1, Rel0] at ha
              cases ha with
              | vb _ _ _ ha =>
              cases ha with
              | vc _ _ _ us p cap hcap hl hu hr hc =>
              rw [flat_len _ hf] at hl
              have hm := hmul Q.length h1 h0
              have hi' : n.toNat < Q.length := by omega
              obtain ⟨b, o, rfl, hqq⟩ := hc (by rw [flat_len _ hf]; omega)
              refine ⟨_, key _ _ _ _ _ _ hsz h0 h1 rfl, ⟨by rw [hf _ hi']; omega, b, o + n.toNat * 2, (List.range 2).map fun j => us.getD (n.toNat * 2 + j) undef, rfl, by rw [hf _ hi']; simp, fun j hj => ?_⟩, rfl⟩
              rw [hf _ hi'] at hj
              have hj' : n.toNat * 2 + j < ((List.range Q.length).flatMap (recB k' Q)).length := by rw [flat_len _ hf]; omega
              have hx := hr _ hj'
              rw [flat_get Q.length hf _ _ hi' hj] at hx
              rw [show ((List.range 2).map fun j => us.getD (n.toNat * 2 + j) undef).getD j undef = us.getD (n.toNat * 2 + j) undef by simp [List.getD, hj], Nat.add_assoc]
              exact ⟨(hqq _ hj').1, (hqq _ hj').2, hx⟩
          · simp at h
  · rename_i m e k n ht
    obtain rfl := rel_int hi
    split at h
    · rename_i b off s' sz hsz
      cases hz : Nat.ble (m * sz) s' && Nat.ble 2 m with
      | false => simp [hz] at h
      | true =>
        simp only [hz, cond_true, Option.some.injEq, Prod.mk.injEq, Bool.and_eq_true, decide_eq_true_eq] at h
        obtain ⟨⟨h0, h1⟩, rfl, rfl⟩ := h
        simp only [Bool.and_eq_true] at hz
        have hz1 := Nat.le_of_ble_eq_true hz.1
        have hz2 := Nat.le_of_ble_eq_true hz.2
        simp only [Rel2, Rel1, Rel0] at ha
        obtain ⟨r1, r2, ⟨C, e', fr, hC, hs⟩, rfl⟩ := ha
        have hm : n.toNat * sz + sz ≤ m * sz := by
          have := Nat.mul_le_mul_right sz (show n.toNat + 1 ≤ m by omega)
          rwa [Nat.add_mul, Nat.one_mul] at this
        refine ⟨_, ?_, ⟨r1, r2, ⟨C, e', fr, hC, by omega⟩, rfl⟩, rfl⟩
        simp [Instr.indexAt, run_underlying ht, asIntOf, Instr.sureAddr, h0, h1, run_sizeOfA hsz, Addr.add_lit]
    · simp at h
  · simp at h


theorem Ct.range_length (c : Ct) : ∀ (n i : Nat), (c.range i n).length = n
  | 0, i => rfl
  | n + 1, i => by simp [Ct.range, Ct.range_length c n (i + 1)]

theorem Ct.range_getD (c : Ct) : ∀ (n i j : Nat), j < n → (c.range i n).getD j .undef = c.get (i + j)
  | 0, i, j, h => by omega
  | n + 1, i, 0, h => by simp [Ct.range]
  | n + 1, i, j + 1, h => by
    have := Ct.range_getD c n (i + 1) j (by omega)
    simp only [Ct.range, List.getD_cons_succ, this]
    congr 1
    omega

theorem underlying_of_agg {P : Program} {t : TypeId} (h : isAggT P t = true) : ∃ d, P.underlying t = some d := by
  unfold isAggT at h
  cases hu : P.underlying t with
  | none => simp [hu] at h
  | some d => exact ⟨d, rfl⟩

theorem run_isAgg {P : Program} {w : World} {t : TypeId} (h : (P.underlying t).isSome = true) : (isAgg t).run P w = .ok (isAggT P t) w := by
  obtain ⟨d, hd⟩ := Option.isSome_iff_exists.1 h
  unfold isAgg isAggT
  simp only [Sem.run_bind, run_underlying hd, Result.andThen_ok, hd]
  cases d <;> rfl

/-- a variable is read: its cells -/
theorem run_loadA {P : Program} {w : World} {t : TypeId} {n b o : Nat} {U : Nat → Value} (hn : sizeT P t = some n) (hu : (P.underlying t).isSome = true)
    (hc : ∀ j, j < (if isAggT P t then n else 1) → w.cell? ⟨b, o + j, none⟩ = some (U j)) :
    (loadVar t ⟨b, o, none⟩).run P w = .ok (if isAggT P t then .agg ((List.range n).map U).toArray else U 0) w := by
  unfold loadVar
  simp only [Sem.run_bind, run_isAgg hu, Result.andThen_ok]
  cases ha : isAggT P t with
  | true =>
    simp only [ha, if_true] at hc ⊢
    simp only [Sem.run_bind, run_sizeOfA hn, Result.andThen_ok]
    rw [run_loadCells w ⟨b, o, none⟩ n U (fun j hj => by rw [Addr.add_lit]; exact hc j hj)]
    simp
  | false =>
    simp only [ha, Bool.false_eq_true, if_false] at hc ⊢
    have := hc 0 (by omega)
    simp only [Nat.add_zero] at this
    simp only [run_load, this]

theorem quiet_load {P : Program} {w : World} {g : Gh} {s : Sto} {t : TypeId} {a v : AV} {A : Value} {u : Upd} (ha : Rel2 g w a A)
    (hb : ∀ x, x ∈ a.refs → ∀ b, lookB x s = some b → RelB g w x b) (h : loadA P s t a = some (true, v, u)) :
    Quiet P g w (Instr.loadAt t A) v u := by
  unfold loadA at h
  split at h
  · simp at h
  · rename_i n hn
    have step : ∀ b o, (Instr.loadAt t (.pointer (some ⟨b, o, none⟩))).run P w = (loadVar t ⟨b, o, none⟩).run P w := by
      intro b o; simp [Instr.loadAt, Instr.sureAddr]
    have row : ∀ x off m c, Rel2 g w (.ptr x off m) A → a = .ptr x off m → rowB (lookB x s) = some c →
        ∃ U : Nat → Value, A = .pointer (some ⟨g.bk x, off, none⟩) ∧ ∀ j, j < m → w.cell? ⟨g.bk x, off + j, none⟩ = some (U j) ∧ Rel0 g w (c.get (off + j)) (U j) := by
      intro x off m c hA hax hrow
      obtain ⟨hu, hg, C, e', hC, hCs, hcells⟩ := rowB_ok hrow (hb x (by rw [hax]; simp [AV.refs, AV.refs1, AV.refs0]))
      simp only [Rel2, Rel1, Rel0] at hA
      obtain ⟨_, _, ⟨C', e'', fr, hC', hle⟩, rfl⟩ := hA
      rw [hC] at hC'
      obtain rfl : C = C' := by simp at hC'; exact hC'.1
      exact ⟨fun j => C.getD (off + j) undef, rfl, fun j hj => ⟨cell_of_block hC (by omega), hcells _ (by omega)⟩⟩
    have rcs : ∀ l i m, Rel2 g w (.rc l i m) A → ∃ (b o : Nat) (U : Nat → Value), A = .pointer (some ⟨b, o, none⟩) ∧ ∀ j, j < m → w.cell? ⟨b, o + j, none⟩ = some (U j) ∧ Rel0 g w (l.getD (i + j) .undef) (U j) := by
      intro l i m hA
      simp only [Rel2, Rel1, Rel0] at hA
      obtain ⟨hle, b, o, us, rfl, _, hcs⟩ := hA
      refine ⟨b, o + i, fun j => us.getD (i + j) undef, rfl, fun j hj => ?_⟩
      obtain ⟨_, h2, h3⟩ := hcs (i + j) (by omega)
      exact ⟨by rw [Nat.add_assoc]; exact h2, h3.to0⟩
    cases hag : isAggT P t with
    | true =>
      have hu : (P.underlying t).isSome = true := by obtain ⟨d, hd⟩ := underlying_of_agg hag; simp [hd]
      simp only [hag, cond_true] at h
      have fin : ∀ b o (U : Nat → Value) (c : Ct) i, A = .pointer (some ⟨b, o, none⟩) → (∀ j, j < n → w.cell? ⟨b, o + j, none⟩ = some (U j) ∧ Rel0 g w (c.get (i + j)) (U j)) →
          Quiet P g w (Instr.loadAt t A) (.agg (c.range i n)) [] := by
        intro b o U c i hA hc
        subst hA
        refine ⟨.agg ((List.range n).map U).toArray, ?_, ⟨_, rfl, ?_⟩, rfl⟩
        · rw [step, run_loadA (U := U) hn hu (fun j hj => (hc j (by simpa [hag] using hj)).1)]
          simp [hag]
        · refine AllR.of_get (by simp [Ct.range_length]) fun j hj => ?_
          rw [Ct.range_length] at hj
          rw [Ct.range_getD c n i j hj]
          have : ((List.range n).map U).toArray.toList.getD j undef = U j := by simp [List.getD, hj]
          rw [this]
          exact (hc j hj).2
      split at h
      · rename_i x off m
        cases hle : Nat.ble n m with
        | false => simp [hle] at h
        | true =>
          have hle' := Nat.le_of_ble_eq_true hle
          simp only [hle, cond_true] at h
          split at h
          · rename_i c hrow
            simp only [ret, Option.some.injEq, Prod.mk.injEq, true_and] at h
            obtain ⟨rfl, rfl⟩ := h
            obtain ⟨U, hA, hU⟩ := row x off m c ha rfl hrow
            exact fin _ _ U c off hA (fun j hj => hU j (by omega))
          · simp at h
      · rename_i l i m
        cases hle : Nat.ble n m with
        | false => simp [hle] at h
        | true =>
          have hle' := Nat.le_of_ble_eq_true hle
          simp only [hle, cond_true, ret, Option.some.injEq, Prod.mk.injEq, true_and] at h
          obtain ⟨rfl, rfl⟩ := h
          obtain ⟨b, o, U, hA, hU⟩ := rcs l i m ha
          exact fin b o U (.cells l) i hA (fun j hj => hU j (by omega))
      · simp at h
    | false =>
      simp only [hag, cond_false] at h
      cases hu : (P.underlying t).isSome with
      | false => simp [hu] at h
      | true =>
        simp only [hu, Bool.not_true, cond_false] at h
        have fin : ∀ b o (U : Value) v', A = .pointer (some ⟨b, o, none⟩) → w.cell? ⟨b, o, none⟩ = some U → Rel0 g w v' U → Quiet P g w (Instr.loadAt t A) v' [] := by
          intro b o U v' hA hc hr
          subst hA
          refine ⟨U, ?_, hr.to2, rfl⟩
          rw [step, run_loadA (U := fun _ => U) hn hu (fun j hj => by
            rw [hag] at hj
            simp at hj
            subst hj
            exact hc)]
          simp [hag]
        split at h
        · rename_i x off m
          cases hle : Nat.ble 1 m with
          | false => simp [hle] at h
          | true =>
            have hle' := Nat.le_of_ble_eq_true hle
            simp only [hle, cond_true] at h
            split at h
            · rename_i c hrow
              simp only [ret, Option.some.injEq, Prod.mk.injEq, true_and] at h
              obtain ⟨rfl, rfl⟩ := h
              obtain ⟨U, hA, hU⟩ := row x off m c ha rfl hrow
              obtain ⟨h1, h2⟩ := hU 0 (by omega)
              exact fin _ _ (U 0) _ hA h1 h2
            · simp at h
        · rename_i k l i
          simp only [ret, Option.some.injEq, Prod.mk.injEq, true_and] at h
          obtain ⟨rfl, rfl⟩ := h
          simp only [Rel2, Rel1, Rel0] at ha
          obtain ⟨hi, b, o, hA, hcs⟩ := ha
          exact fin b (o + i) _ _ hA (hcs i hi).2 (rel0_int k _)
        · rename_i l i m
          cases hle : Nat.ble 1 m with
          | false => simp [hle] at h
          | true =>
            have hle' := Nat.le_of_ble_eq_true hle
            simp only [hle, cond_true, ret, Option.some.injEq, Prod.mk.injEq, true_and] at h
            obtain ⟨rfl, rfl⟩ := h
            obtain ⟨b, o, U, hA, hU⟩ := rcs l i m ha
            obtain ⟨h1, h2⟩ := hU 0 (by omega)
            exact fin b o (U 0) _ hA h1 h2
        · rename_i k rs i
          simp only [ret, Option.some.injEq, Prod.mk.injEq, true_and] at h
          obtain ⟨rfl, rfl⟩ := h
          simp only [Rel2, Rel1, Rel0] at ha
          obtain ⟨hi, b, o, us, hA, hcs⟩ := ha
          exact fin b (o + i) _ _ hA (hcs i hi).2.1 (hcs i hi).2.2.to0
        · simp at h

/-! ### cells put into place -/
theorem AllR.set {r : AV → Value → Prop} {l : List AV} {L : List Value} (h : AllR r l L) {v : AV} {V : Value} (hv : r v V) : ∀ i, AllR r (l.set i v) (L.set i V) := by
  induction h with
  | nil => intro i; simp; exact .nil
  | cons a h ih => intro i; cases i with
    | zero => exact .cons hv h
    | succ i => exact .cons a (ih i)

theorem AllR.put {r : AV → Value → Prop} {vs : List AV} {VS : List Value} (hv : AllR r vs VS) : ∀ {l : List AV} {L : Array Value} (off k : Nat), AllR r l L.toList →
    AllR r (putCells l (off + k) vs) ((VS.zipIdx k).foldl (fun cs (p : Value × Nat) => cs.setIfInBounds (off + p.2) p.1) L).toList := by
  induction hv with
  | nil => intro l L off k h; simpa [putCells] using h
  | cons a _ ih =>
    intro l L off k h
    simp only [putCells, List.zipIdx_cons, List.foldl_cons]
    exact ih off (k + 1) (by simpa using h.set a (off + k))

theorem putCells_length : ∀ (vs l : List AV) (off : Nat), (putCells l off vs).length = l.length
  | [], l, off => rfl
  | v :: vs, l, off => by simp [putCells, putCells_length vs]

theorem rel_cells {g : Gh} {w : World} {v : AV} {V : Value} (h : Rel2 g w v V) (hc : v.isPart = true) : AllR (Rel0 g w) v.cellsOf V.cells.toList := by
  cases v <;> simp only [AV.isPart, AV.isCell, Bool.false_eq_true] at hc
  case agg vs => obtain ⟨us, rfl, hu⟩ := rel_agg h; exact hu
  case func f a b =>
    obtain ⟨A, B, rfl, ha, hb⟩ := h
    have hall : ∀ v, v ∈ a ++ b → v.isPtr = true := List.all_eq_true.1 hc
    exact .cons ⟨A, B, rfl, ha.mono' fun v V hm hv => PtrR.of (hall v (by simp [hm])) hv, hb.mono' fun v V hm hv => PtrR.of (hall v (by simp [hm])) hv⟩ .nil
  all_goals
    simp only [Rel2, Rel1] at h
    have h0 := h
    simp only [Rel0] at h
  case ptr x o s => obtain ⟨_, _, _, rfl⟩ := h; exact .cons h0 .nil
  case sl x z o n => obtain ⟨_, _, _, a, cap, rfl, _⟩ := h; exact .cons h0 .nil
  case gsl x v => obtain ⟨_, _, _, ⟨a, n, cap, rfl⟩, _⟩ := h; exact .cons h0 .nil
  case vr k rs => cases h; rename_i h; cases h; exact .cons h0 .nil
  case vb => cases h; rename_i h; cases h; exact .cons h0 .nil
  all_goals (cases h; exact .cons h0 .nil)


inductive PartsR (g : Gh) (w : World) : List (Nat × AV) → List (Nat × Value) → Prop
  | nil : PartsR g w [] []
  | cons {i : Nat} {v : AV} {V : Value} {l : List (Nat × AV)} {L : List (Nat × Value)} : Rel2 g w v V → PartsR g w l L → PartsR g w ((i, v) :: l) ((i, V) :: L)

theorem rel_fill {g : Gh} {w : World} {pl : Nat → Option (Nat × Nat)} {parts : List (Nat × AV)} {PS : List (Nat × Value)} (hp : PartsR g w parts PS) :
    ∀ {cells cs : List AV} {CS : Array Value}, AllR (Rel0 g w) cells CS.toList → fillA pl cells parts = some cs → ∃ CS', Instr.fill pl CS PS = some CS' ∧ AllR (Rel0 g w) cs CS'.toList := by
  induction hp with
  | nil => intro cells cs CS hc h; simp [fillA] at h; subst h; exact ⟨CS, rfl, hc⟩
  | @cons i v V parts PS hv _ ih =>
    intro cells cs CS hc h
    unfold fillA at h
    split at h
    · simp at h
    · rename_i off size hpl
      cases hb : v.isPart && Nat.beq v.cellsOf.length size && Nat.ble (off + size) cells.length with
      | false => simp [hb] at h
      | true =>
        simp only [hb, cond_true] at h
        simp only [Bool.and_eq_true] at hb
        obtain ⟨⟨hp, hsz⟩, hle⟩ := hb
        obtain rfl := Nat.beq_true hsz
        have hle' := Nat.le_of_ble_eq_true hle
        have hcs := rel_cells hv hp
        have hlen := hcs.length
        have hclen := hc.length
        simp only [Array.length_toList] at hlen hclen
        have hput := AllR.put hcs (l := cells) (L := CS) off 0 hc
        have hfold : (V.cells.zipIdx.foldl (fun cs (x : Value × Nat) => cs.setIfInBounds (off + x.2) x.1) CS) =
            ((V.cells.toList.zipIdx 0).foldl (fun cs (p : Value × Nat) => cs.setIfInBounds (off + p.2) p.1) CS) := by
          rw [← Array.foldl_toList]
          simp
        obtain ⟨CS', hf, hr⟩ := ih (cells := putCells cells off v.cellsOf) (cs := cs)
          (CS := V.cells.zipIdx.foldl (fun cs (x : Value × Nat) => cs.setIfInBounds (off + x.2) x.1) CS) (by rw [hfold]; simpa using hput) h
        refine ⟨CS', ?_, hr⟩
        unfold Instr.fill
        simp only [hpl]
        rw [if_neg (by simp; omega)]
        exact hf


/-- an operand that may be missing -/
inductive OptR (g : Gh) (w : World) : Option AV → Option Value → Prop
  | none : OptR g w none none
  | some {v : AV} {V : Value} : Rel2 g w v V → OptR g w (some v) (some V)

theorem OptR.of_map {g : Gh} {w : World} {e : Env} {a : Act} (h : ∀ d, Rel2 g w (look d e) (a.tmps.getD d undef)) (o : Option Operand) : OptR g w (o.map (opv e)) (o.map a.eval) := by
  cases o with
  | none => exact .none
  | some x => exact .some (rel_opv h x)

theorem elem_of {P : Program} {t e : TypeId} (h : P.underlying t = some (.slice e)) : P.elem t = e := by simp only [Program.elem, h]

/-- a slice expression within the length -/
theorem run_slice_gen {P : Program} {w : World} {g : Gh} {t e : TypeId} {sz n cap l h : Nat} {a : Option Addr} {lo hi mx : Option AV} {LO HI MX : Option Value}
    (ht : P.underlying t = some (.slice e)) (hsz : sizeT P e = some sz) (hcap : n ≤ cap) (h1 : OptR g w lo LO) (h2 : OptR g w hi HI) (h3 : OptR g w mx MX)
    (hb : boundsA n lo hi mx = some (true, l, h)) :
    l ≤ h ∧ h ≤ n ∧ ∃ m, h ≤ m ∧ m ≤ cap ∧
      (Instr.sliceAt t (.slice a n cap) LO HI MX).run P w = .ok (sliced a l h m sz) w := by
  have hel := elem_of ht
  have ht' : P.underlying t = some (.slice (P.elem t)) := by rw [hel]; exact ht
  rw [run_sliceAt_slice w t _ LO HI MX ht']
  have hs : (sizeOf (P.elem t)).run P w = .ok sz w := by rw [hel]; exact run_sizeOfA hsz
  unfold boundsA at hb
  split at hb
  · simp at hb; obtain ⟨rfl, rfl⟩ := hb
    cases h1; cases h2; cases h3
    refine ⟨Nat.zero_le _, Nat.le_refl _, cap, hcap, Nat.le_refl _, ?_⟩
    rw [run_slice_all w t a n cap ht', hs]; rfl
  · rename_i k x
    simp at hb; obtain ⟨⟨b1, b2⟩, rfl, rfl⟩ := hb
    cases h1 with | some r => cases h2; cases h3; obtain rfl := rel_int r
                              refine ⟨by omega, Nat.le_refl _, cap, hcap, Nat.le_refl _, ?_⟩
                              rw [run_slice_l w t a n cap ht' k x b1 b2, hs]; rfl
  · rename_i k x
    simp at hb; obtain ⟨⟨b1, b2⟩, rfl, rfl⟩ := hb
    cases h2 with | some r => cases h1; cases h3; obtain rfl := rel_int r
                              refine ⟨by omega, by omega, cap, by omega, Nat.le_refl _, ?_⟩
                              rw [run_slice_h w t a n cap ht' k x b1 (by omega), hs]; rfl
  · rename_i k x k' y
    simp at hb; obtain ⟨⟨⟨b1, b2⟩, b3⟩, rfl, rfl⟩ := hb
    cases h1 with | some r => cases h2 with | some r2 => cases h3; obtain rfl := rel_int r; obtain rfl := rel_int r2
                                                         refine ⟨by omega, by omega, cap, by omega, Nat.le_refl _, ?_⟩
                                                         rw [run_slice_lh w t a n cap ht' k k' x y b1 b2 (by omega), hs]; rfl
  · rename_i k y k' z
    simp at hb; obtain ⟨⟨⟨b1, b2⟩, b3⟩, rfl, rfl⟩ := hb
    cases h2 with | some r => cases h3 with | some r2 => cases h1; obtain rfl := rel_int r; obtain rfl := rel_int r2
                                                         refine ⟨by omega, by omega, z.toNat, by omega, by omega, ?_⟩
                                                         rw [run_slice_hm w t a n cap ht' k k' y z b1 b2 (by omega), hs]; rfl
  · rename_i k x k' y k'' z
    simp at hb; obtain ⟨⟨⟨⟨b1, b2⟩, b3⟩, b4⟩, rfl, rfl⟩ := hb
    cases h1 with | some r => cases h2 with | some r2 => cases h3 with | some r3 =>
                                                         obtain rfl := rel_int r; obtain rfl := rel_int r2; obtain rfl := rel_int r3
                                                         refine ⟨by omega, by omega, z.toNat, by omega, by omega, ?_⟩
                                                         rw [run_slice_lhm w t a n cap ht' k k' k'' x y z b1 b2 b3 (by omega), hs]; rfl
  · simp at hb

theorem sliced_none (l h m s : Nat) : sliced none l h m s = .slice none (h - l) (m - l) := by
  unfold sliced; split <;> rfl

theorem sliced_pos {b o l h m s : Nat} (hp : l < h) (hm : h ≤ m) : sliced (some ⟨b, o, none⟩) l h m s = .slice (some ⟨b, o + l * s, none⟩) (h - l) (m - l) := by
  unfold sliced
  rw [if_neg (by omega)]
  simp [Addr.add_lit]

theorem boundsA_len {n l h : Nat} {lo hi mx : Option AV} (hb : boundsA n lo hi mx = some (true, l, h)) :
    (lo = none → l = 0) ∧ (hi = none → h = n) := by
  unfold boundsA at hb
  split at hb <;> simp at hb <;> simp_all

theorem cutL_spec {α : Type} (L : List α) (lo hi : Option AV) (l h n sz : Nat) (d : α) (hL : L.length = n * sz) (hlh : l ≤ h) (hhn : h ≤ n) (h0 : lo = none → l = 0) (h1 : hi = none → h = n) :
    (cutL L lo hi l h sz).length = (h - l) * sz ∧ ∀ i, i < (h - l) * sz → (cutL L lo hi l h sz).getD i d = L.getD (l * sz + i) d := by
  have hm1 : h * sz ≤ n * sz := Nat.mul_le_mul_right sz hhn
  have hm2 : l * sz ≤ h * sz := Nat.mul_le_mul_right sz hlh
  have hm3 : (h - l) * sz = h * sz - l * sz := Nat.sub_mul _ _ _
  cases lo with
  | none =>
    have := h0 rfl; subst this
    cases hi with
    | none => have := h1 rfl; subst this; simp [cutL, hL]
    | some y =>
      simp only [cutL]
      refine ⟨by simp; omega, fun i hi => ?_⟩
      have := getD_drop_take L 0 (h * sz) i d (by simpa using hi)
      simpa using this
  | some x =>
    cases hi with
    | none =>
      have := h1 rfl; subst this
      simp only [cutL]
      refine ⟨by simp; omega, fun i hi => ?_⟩
      simp [List.getD]
    | some y =>
      simp only [cutL]
      refine ⟨by simp; omega, fun i hi => ?_⟩
      exact getD_drop_take L (l * sz) ((h - l) * sz) i d hi

theorem quiet_slice {P : Program} {w : World} {g : Gh} {s : Sto} {t : TypeId} {a v : AV} {A : Value} {u : Upd} {lo hi mx : Option AV} {LO HI MX : Option Value} (ha : Rel2 g w a A)
    (h1 : OptR g w lo LO) (h2 : OptR g w hi HI) (h3 : OptR g w mx MX)
    (hb : ∀ x, x ∈ a.refs → ∀ b, lookB x s = some b → RelB g w x b) (h : sliceA P s t a lo hi mx = some (true, v, u)) :
    Quiet P g w (Instr.sliceAt t A LO HI MX) v u := by
  unfold sliceA at h
  split at h
  · rename_i e ht
    cases hsz : sizeT P e with
    | none => simp [hsz] at h
    | some sz =>
    simp only [hsz, Option.isSome_some, Bool.not_true, cond_false] at h
    cases hz : lo.isNone && zeroCap hi mx with
    | true =>
      simp only [hz, cond_true] at h
      have hzz : ∃ k k', hi = some (.int k 0) ∧ mx = some (.int k' 0) ∧ lo = none := by
        simp only [Bool.and_eq_true] at hz
        obtain ⟨hz2, hz1⟩ := hz
        unfold zeroCap at hz1
        split at hz1
        · split at hz1
          · simp only [Bool.and_eq_true, decide_eq_true_eq] at hz1
            obtain ⟨rfl, rfl⟩ := hz1
            exact ⟨_, _, rfl, rfl, by simpa using hz2⟩
          · cases hz1
        · cases hz1
      obtain ⟨k, k', rfl, rfl, rfl⟩ := hzz
      have fin : ∀ p n cap, A = .slice p n cap → Quiet P g w (Instr.sliceAt t A LO HI MX) .esl [] := by
        intro p n cap hA
        subst hA
        have hel := elem_of ht
        have ht' : P.underlying t = some (.slice (P.elem t)) := by rw [hel]; exact ht
        cases h1
        cases h2 with | some r2 => cases h3 with | some r3 =>
          obtain rfl := rel_int r2
          obtain rfl := rel_int r3
          refine ⟨.slice p 0 0, ?_, RelP.to2 (.esl p), rfl⟩
          rw [run_sliceAt_slice w t _ _ _ _ ht', run_slice_hm w t p n cap ht' k k' 0 0 (by omega) (by omega) (by omega), hel, run_sizeOfA hsz]
          simp [Result.andThen, sliced]
      split at h <;> simp only [ret, Option.some.injEq, Prod.mk.injEq, true_and, reduceCtorEq] at h <;> obtain ⟨rfl, rfl⟩ := h <;> simp only [Rel2, Rel1, Rel0] at ha
      · cases ha; exact fin _ _ _ rfl
      · cases ha; exact fin _ _ _ rfl
      · obtain ⟨_, _, _, ⟨p, n, cap, rfl⟩, _⟩ := ha; exact fin _ _ _ rfl
      · obtain ⟨_, _, _, p, cap, rfl, _⟩ := ha; exact fin _ _ _ rfl
    | false =>
      simp only [hz, cond_false] at h
      split at h
      · -- nil
        split at h
        · rename_i c l' h' hbd
          simp only [Option.some.injEq, Prod.mk.injEq] at h
          obtain ⟨rfl, rfl, rfl⟩ := h
          simp only [Rel2, Rel1, Rel0] at ha
          cases ha
          obtain ⟨q1, q2, m, q3, q4, hrun⟩ := run_slice_gen (a := none) (cap := 0) ht hsz (Nat.le_refl _) h1 h2 h3 hbd
          refine ⟨_, hrun, ?_, rfl⟩
          rw [sliced_none, show h' - l' = 0 by omega, show m - l' = 0 by omega]
          exact RelP.to2 .nilsl
        · simp at h
      · split at h
        · rename_i c l' h' hbd
          simp only [Option.some.injEq, Prod.mk.injEq] at h
          obtain ⟨rfl, rfl, rfl⟩ := h
          simp only [Rel2, Rel1, Rel0] at ha
          cases ha
          obtain ⟨q1, q2, m, q3, q4, hrun⟩ := run_slice_gen (cap := 0) ht hsz (Nat.le_refl _) h1 h2 h3 hbd
          refine ⟨_, hrun, ?_, rfl⟩
          unfold sliced
          rw [show h' - l' = 0 by omega, show m - l' = 0 by omega]
          exact RelP.to2 (.esl _)
        · simp at h
      · cases hsl : a.isSl with
        | true =>
          simp only [hsl, cond_true] at h
          split at h
          · rename_i b z off n _ _
            split at h
            · rename_i c l' h' hbd
              cases hz' : Nat.beq z sz with
              | false => simp [hz'] at h
              | true =>
                obtain rfl := Nat.beq_true hz'
                simp only [hz', cond_true, Option.some.injEq, Prod.mk.injEq] at h
                obtain ⟨rfl, rfl, rfl⟩ := h
                simp only [Rel2, Rel1, Rel0] at ha
                obtain ⟨r1, r2, ⟨C, e', fr, hC, hs⟩, p, cap, rfl, hcap, hp⟩ := ha
                obtain ⟨q1, q2, m, q3, q4, hrun⟩ := run_slice_gen (a := p) ht hsz hcap h1 h2 h3 hbd
                have hm1 : h' * z ≤ n * z := Nat.mul_le_mul_right z q2
                have hm2 : l' * z ≤ h' * z := Nat.mul_le_mul_right z q1
                have hm3 : (h' - l') * z = h' * z - l' * z := Nat.sub_mul _ _ _
                refine ⟨_, hrun, ⟨r1, r2, ⟨C, e', fr, hC, by omega⟩, ?_⟩, rfl⟩
                refine ⟨(if m = l' then p else p.map (·.add (l' * z))), m - l', rfl, by omega, fun hpos => ?_⟩
                have hlt : l' < h' := by
                  rcases Nat.lt_or_ge l' h' with h | h
                  · exact h
                  · rw [show h' - l' = 0 by omega] at hpos; simp at hpos
                obtain rfl := hp (by omega)
                rw [if_neg (by omega)]
                simp [Addr.add_lit]
            · simp at h
          · simp at h
        | false =>
          simp only [hsl, cond_false] at h
          split at h
          · rename_i k L n hview
            split at h
            · rename_i c l' h' hbd
              cases hz' : Nat.beq sz 1 with
              | false => simp [hz'] at h
              | true =>
                obtain rfl := Nat.beq_true hz'
                simp only [hz', cond_true, Option.some.injEq, Prod.mk.injEq] at h
                obtain ⟨rfl, rfl, rfl⟩ := h
                obtain ⟨p, cap, rfl, hcap, hs', hcells⟩ := view_ok hview ha hb
                simp only [Ct.size] at hs' hcells
                obtain ⟨q1, q2, m, q3, q4, hrun⟩ := run_slice_gen (a := p) ht hsz hcap h1 h2 h3 hbd
                obtain ⟨c1, c2⟩ := cutL_spec L lo hi l' h' n 1 0 hs' q1 q2 (boundsA_len hbd).1 (boundsA_len hbd).2
                simp only [Nat.mul_one] at c1 c2 hs'
                refine ⟨_, hrun, RelP.to2 ?_, rfl⟩
                have hgoal : sliced p l' h' m 1 = .slice (if m = l' then p else p.map (·.add (l' * 1))) (cutL L lo hi l' h' 1).length (m - l') := by rw [c1]; rfl
                rw [hgoal]
                refine .vi k _ _ _ (by omega) fun hpos => ?_
                obtain ⟨b, o, rfl, hc⟩ := hcells (by omega)
                refine ⟨b, o + l', by rw [if_neg (by omega)]; simp [Addr.add_lit], fun i hi => ?_⟩
                obtain ⟨U, hU, hR, hS⟩ := hc (l' + i) (by omega)
                rw [c2 i (by omega)]
                simp only [Ct.get] at hR
                cases hR
                rw [Nat.add_assoc]
                exact ⟨hS hsl, hU⟩
            · simp at h
          · rename_i L n hview
            split at h
            · rename_i c l' h' hbd
              simp only [Option.some.injEq, Prod.mk.injEq] at h
              obtain ⟨rfl, rfl, rfl⟩ := h
              obtain ⟨p, cap, rfl, hcap, hs', hcells⟩ := view_ok hview ha hb
              simp only [Ct.size] at hs' hcells
              obtain ⟨q1, q2, m, q3, q4, hrun⟩ := run_slice_gen (a := p) ht hsz hcap h1 h2 h3 hbd
              obtain ⟨c1, c2⟩ := cutL_spec L lo hi l' h' n sz .undef hs' q1 q2 (boundsA_len hbd).1 (boundsA_len hbd).2
              have hm1 : h' * sz ≤ n * sz := Nat.mul_le_mul_right sz q2
              have hm2 : l' * sz ≤ h' * sz := Nat.mul_le_mul_right sz q1
              have hm3 : (h' - l') * sz = h' * sz - l' * sz := Nat.sub_mul _ _ _
              refine ⟨_, hrun, RelP.to2 ?_, rfl⟩
              rcases Nat.eq_zero_or_pos ((h' - l') * sz) with h0 | h0
              · exact .vc sz (h' - l') _ [] _ (m - l') (by omega) c1 (by rw [c1, h0]; rfl) (fun i hi => by omega) (fun hp => by omega)
              · obtain ⟨b, o, rfl, hc⟩ := hcells (by omega)
                have hlt : l' < h' := by
                  rcases Nat.lt_or_ge l' h' with h | h
                  · exact h
                  · rw [show h' - l' = 0 by omega] at h0; simp at h0
                rw [sliced_pos hlt q3]
                refine .vc sz (h' - l') _ ((List.range ((h' - l') * sz)).map fun j => (w.cell? ⟨b, o + (l' * sz + j), none⟩).getD undef) _ (m - l') (by omega) c1 (by simp [c1]) (fun i hi => ?_) (fun _ => ?_)
                · obtain ⟨U, hU, hR, hS⟩ := hc (l' * sz + i) (by omega)
                  rw [c2 i (by omega)]
                  have : ((List.range ((h' - l') * sz)).map fun j => (w.cell? ⟨b, o + (l' * sz + j), none⟩).getD undef).getD i undef = U := by
                    simp [List.getD, show i < (h' - l') * sz by omega, hU]
                  rw [this]
                  exact hR
                · refine ⟨b, o + l' * sz, rfl, fun i hi => ?_⟩
                  obtain ⟨U, hU, hR, hS⟩ := hc (l' * sz + i) (by omega)
                  have : ((List.range ((h' - l') * sz)).map fun j => (w.cell? ⟨b, o + (l' * sz + j), none⟩).getD undef).getD i undef = U := by
                    simp [List.getD, show i < (h' - l') * sz by omega, hU]
                  rw [this, Nat.add_assoc]
                  exact ⟨hS hsl, hU⟩
            · simp at h
          · cases h
          · cases h
          · cases h
  · simp at h

theorem quiet_convert {P : Program} {w : World} {g : Gh} {s : Sto} {t t' : TypeId} {a v : AV} {A : Value} {u : Upd} (ha : Rel2 g w a A)
    (hb : ∀ x, x ∈ a.refs → ∀ b, lookB x s = some b → RelB g w x b) (h : convertA P s t t' a = some (true, v, u)) :
    Quiet P g w (convert t t' A) v u := by
  unfold convertA at h
  split at h
  · rename_i k0 k k1 n hs hd
    simp only [ret, Option.some.injEq, Prod.mk.injEq, true_and] at h
    obtain ⟨rfl, rfl⟩ := h
    obtain rfl := rel_int ha
    exact ⟨_, by simp [convert, run_underlying hs, run_underlying hd, Conv.intToInt], rel2_int _ _, rfl⟩
  · rename_i e hs hd
    split at h
    · rename_i l n he hview
      simp only [ret, Option.some.injEq, Prod.mk.injEq, true_and] at h
      obtain ⟨rfl, rfl⟩ := h
      obtain ⟨p, cap, rfl, hcap, hs', hcells⟩ := view_ok hview ha hb
      simp only [Ct.size, Nat.mul_one] at hs' hcells
      refine ⟨.string (bytesOf l), ?_, RelP.to2 (.str _), rfl⟩
      cases p with
      | none =>
        have h0 : l = [] := by
          cases l with
          | nil => rfl
          | cons x l => obtain ⟨b, o, hh, _⟩ := hcells (by simp); cases hh
        subst h0
        rw [run_convert_bytes_nil w t e hs he n cap t' hd]
        rfl
      | some q =>
        rcases Nat.eq_zero_or_pos l.length with h0 | h0
        · have hnil : l = [] := by simpa using h0
          subst hnil
          have hn : n = 0 := by simpa using hs'.symm
          subst hn
          rw [run_convert_bytes_string w t t' e _ 0 cap hs he hd]
          simp [Conv.bytesToString, loadCells, loadCellsFrom]
          rfl
        · obtain ⟨b, o, hh, hc⟩ := hcells h0
          obtain rfl : q = ⟨b, o, none⟩ := by simpa using hh
          exact run_convert_bytes_arg w t e hs he b o n cap l hs' (fun i hi => by
            obtain ⟨U, hU, hR, _⟩ := hc i (by omega)
            simp only [Ct.get] at hR
            cases hR
            exact hU) t' hd
    · simp at h
  · simp at h

end Am
end Go.Proofs.Ytooiechjanmdjaa
