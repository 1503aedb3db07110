/- The mirror machine: operations that make or write memory. -/
import Derived.Test.YtooiechjanmdjaaAmMem
namespace Go.Proofs.Ytooiechjanmdjaa
namespace Am
set_option linter.unusedVariables false
set_option linter.unusedSimpArgs false

/-- what is changed belongs to the names of U -/
structure Only (U : List Nat) (g : Gh) (w : World) (g' : Gh) (w' : World) : Prop where
  blocks : ∀ b x, g.own b = some x → x ∉ U → g'.own b = some x ∧ w'.heap[b]? = w.heap[b]? ∧ g'.fill b = g.fill b
  owners : ∀ b x, g'.own b = some x → g.used x → x ∉ U → g.own b = some x
  vers : ∀ x, g.used x → x ∉ U → g'.ver x = g.ver x ∧ g'.cnt x = g.cnt x

/-- what an operation leaves -/
structure Post (base nx : Nat) (g : Gh) (w : World) (v : AV) (u : Upd) (V : Value) (g' : Gh) (w' : World) : Prop where
  step : Step g w g' w'
  only : Only (u.map (·.1)) g w g' w'
  inv : Inv g' w'
  val : Rel2 g' w' v V
  boxes : ∀ x b, lookB x u = some b → RelB g' w' x b
  used : ∀ x, g'.used x → g.used x ∨ (base ≤ x ∧ x < nx)

theorem RowR.stay {g g' : Gh} {w w' : World} (h : Step g w g' w') {b b' : Nat} {c : Ct} (hr : RowR g w b c) (hb : w'.heap[b']? = w.heap[b]?) : RowR g' w' b' c := by
  obtain ⟨C, e, hC, hs, hc⟩ := hr
  exact ⟨C, e, by rw [hb]; exact hC, hs, fun i hi => h.stay0 (hc i hi)⟩

theorem RowR.lt {g : Gh} {w : World} {b : Nat} {c : Ct} (hr : RowR g w b c) : b < w.heap.size := by
  obtain ⟨C, e, hC, _⟩ := hr; exact block_lt hC

/-- cells that nobody writes stay as they are -/
theorem RowR.safe {N : Nat → Prop} {g g' : Gh} {w w' : World} (h : Ext N g w g' w') {b : Nat} {c : Ct} (hs : ∀ i, i < c.size → Safe g w b i) (hr : RowR g w b c)
    (hv : ∀ i V, i < c.size → Rel0 g w (c.get i) V → Rel0 g' w' (c.get i) V) : RowR g' w' b c := by
  obtain ⟨C, e, hC, hsz, hc⟩ := hr
  obtain ⟨C', hC', hsz'⟩ := h.shape b C e (0, 0) hC
  refine ⟨C', e, hC', hsz'.trans hsz, fun i hi => ?_⟩
  have h1 := (h.safe (hs i hi)).2
  rw [cell_of_block hC (by omega), cell_of_block hC' (by omega)] at h1
  have h2 : C'.getD i undef = C.getD i undef := by simpa using h1
  rw [h2]
  exact hv i _ hi (hc i hi)

theorem RelB.stay {g g' : Gh} {w w' : World} {U : List Nat} (h : Step g w g' w') (ho : Only U g w g' w') {x : Nat} {b : Box} (hr : RelB g w x b) (hx : x ∉ U) : RelB g' w' x b := by
  cases b with
  | fix c =>
    obtain ⟨h1, h2, h3, h4⟩ := hr
    obtain ⟨n1, n2, n3, n4, n5, n6⟩ := h.names x h1
    obtain ⟨b1, b2, b3⟩ := ho.blocks _ _ h3 hx
    exact ⟨n1, n3.trans h2, by rw [n2]; exact b1, by rw [n2]; exact h4.stay h b2⟩
  | ro c =>
    obtain ⟨h1, h2, h3, h5⟩ := hr
    obtain ⟨n1, n2, n3, n4, n5, n6⟩ := h.names x h1
    exact ⟨n1, n3.trans h2, fun i hi => by rw [n2]; exact (h.safe (h3 i hi)).1, by rw [n2]; exact h5.safe h h3 fun i V _ hv => h.stay0 hv⟩
  | grow sz ver c =>
    obtain ⟨h1, h2, h3, h4, h5, h6, h7, h8⟩ := hr
    obtain ⟨n1, n2, n3, n4, n5, n6⟩ := h.names x h1
    obtain ⟨v1, v2⟩ := ho.vers x h1 hx
    refine ⟨n1, n3.trans h2, v1.trans h3, n4.trans h4, v2.trans h5, h6, h7, fun b hb => ?_⟩
    have hb0 := ho.owners b x hb h1 hx
    obtain ⟨b1, b2, b3⟩ := ho.blocks b x hb0 hx
    obtain ⟨C, e, hC, f1, f2, f3⟩ := h8 b hb0
    exact ⟨C, e, by rw [b2]; exact hC, by rw [b3]; exact f1, by rw [b3]; exact f2, fun i hi => h.relP (f3 i (by rw [b3] at hi; exact hi))⟩

def upd {α : Type} (f : Nat → α) (a : Nat) (v : α) : Nat → α := fun y => if y = a then v else f y
theorem upd_same {α : Type} (f : Nat → α) (a : Nat) (v : α) : upd f a v a = v := by simp [upd]
theorem upd_ne {α : Type} (f : Nat → α) {a y : Nat} (v : α) (h : y ≠ a) : upd f a v y = f y := by simp [upd, h]

theorem alloc_old {w : World} {o : Obj} {b : Nat} (h : b < w.heap.size) : (w.alloc o).heap[b]? = w.heap[b]? := by
  simp only [World.alloc, Array.getElem?_push]
  rw [if_neg (by omega)]
theorem alloc_new {w : World} {o : Obj} : (w.alloc o).heap[w.heap.size]? = some o := by
  show (w.heap.push o)[w.heap.size]? = some o
  simp

/-! ### nothing is turned -/
theorem Post.quiet {base nx : Nat} {P : Program} {g : Gh} {w : World} {m : Sem Value} {v : AV} {u : Upd} (h : Quiet P g w m v u) (hi : Inv g w) :
    ∃ V, m.run P w = .ok V w ∧ Post base nx g w v u V g w := by
  obtain ⟨V, h1, h2, rfl⟩ := h
  exact ⟨V, h1, Ext.refl _ _ _ fun _ h => h, ⟨fun b x h _ => ⟨h, rfl, rfl⟩, fun b x h _ _ => h, fun x _ _ => ⟨rfl, rfl⟩⟩, hi, h2, fun x b h => by simp [lookB] at h, fun x h => .inl h⟩

/-! ### a new block that nobody owns -/
theorem step_free {g : Gh} {w : World} (hi : Inv g w) (o : Obj) : Step g w g (w.alloc o) where
  S := rfl
  s0 := rfl
  lo := rfl
  size := by simp
  os := rfl
  out := rfl
  shape := fun b C e fr h => ⟨C, by rw [alloc_old (block_lt h)]; exact h, rfl⟩
  free := fun b hb h => ⟨h, alloc_old hb⟩
  keep := fun b x i hb h1 h2 h3 => ⟨by simp only [World.cell?, alloc_old hb], .inr ⟨x, h1, h2, h3⟩⟩
  names := fun x h => ⟨h, rfl, rfl, rfl, Nat.le_refl _, fun _ => rfl⟩
  rows := fun b x h _ _ => ⟨h, fun _ => rfl⟩
  own := fun b x _ h _ => .inl h

theorem inv_free {g : Gh} {w : World} (hi : Inv g w) (o : Obj) : Inv g (w.alloc o) where
  s0 := by have := hi.s0; simp; omega
  fresh := fun b hb => hi.fresh b (by simp at hb; omega)
  owner := hi.owner
  loc := hi.loc

theorem only_free {g : Gh} {w : World} (hi : Inv g w) (o : Obj) : Only [] g w g (w.alloc o) where
  blocks := fun b x h _ => ⟨h, alloc_old (by
    rcases Nat.lt_or_ge b w.heap.size with hlt | hge
    · exact hlt
    · rw [hi.fresh b hge] at h; cases h), rfl⟩
  owners := fun b x h _ _ => h
  vers := fun x _ _ => ⟨rfl, rfl⟩

/-- its cells are safe -/
theorem safe_free {g : Gh} {w : World} (hi : Inv g w) (o : Obj) (i : Nat) : Safe g (w.alloc o) w.heap.size i :=
  ⟨by simp, .inl ⟨hi.fresh _ (Nat.le_refl _), .inr hi.s0⟩⟩

/-! ### a new block of the call's own -/
def Gh.addFix (g : Gh) (x b : Nat) : Gh :=
  { g with used := fun y => g.used y ∨ y = x, bk := upd g.bk x b, own := upd g.own b (some x), grow := upd g.grow x false }

theorem step_addFix {g : Gh} {w : World} (hi : Inv g w) {x : Nat} (hx : ¬ g.used x) (o : Obj) : Step g w (g.addFix x w.heap.size) (w.alloc o) where
  S := rfl
  s0 := rfl
  lo := rfl
  size := by simp
  os := rfl
  out := rfl
  shape := fun b C e fr h => ⟨C, by rw [alloc_old (block_lt h)]; exact h, rfl⟩
  free := fun b hb h => ⟨by simp only [Gh.addFix]; rw [upd_ne _ _ (by omega)]; exact h, alloc_old hb⟩
  keep := fun b y i hb h1 h2 h3 => by
    have hy : y ≠ x := fun he => hx (he ▸ hi.owner b y h1)
    refine ⟨by simp only [World.cell?, alloc_old hb], .inr ⟨y, ?_, ?_, h3⟩⟩
    · simp only [Gh.addFix]; rw [upd_ne _ _ (by omega)]; exact h1
    · simp only [Gh.addFix]; rw [upd_ne _ _ hy]; exact h2
  names := fun y h => by
    have hy : y ≠ x := fun he => hx (he ▸ h)
    simp only [Gh.addFix]
    exact ⟨.inl h, upd_ne _ _ hy, upd_ne _ _ hy, (by first | rfl | trivial), Nat.le_refl _, fun _ => (by first | rfl | trivial)⟩
  rows := fun b y h hy _ => by
    have hb : b ≠ w.heap.size := fun he => by rw [hi.fresh b (by omega)] at h; cases h
    simp only [Gh.addFix]
    exact ⟨by rw [upd_ne _ _ hb]; exact h, fun _ => (by first | rfl | trivial)⟩
  own := fun b y hb h _ => .inl (by simp only [Gh.addFix]; rw [upd_ne _ _ (by omega)]; exact h)

theorem inv_addFix {g : Gh} {w : World} (hi : Inv g w) {x : Nat} (o : Obj) : Inv (g.addFix x w.heap.size) (w.alloc o) where
  s0 := by have := hi.s0; simp [Gh.addFix]; omega
  fresh := fun b hb => by
    simp at hb
    simp only [Gh.addFix]
    rw [upd_ne _ _ (by omega)]
    exact hi.fresh b (by omega)
  owner := fun b y h => by
    simp only [Gh.addFix, upd] at h ⊢
    split at h
    · simp at h; exact .inr h.symm
    · exact .inl (hi.owner b y h)
  loc := fun b y h hy => by
    simp only [Gh.addFix, upd] at h
    split at h
    · rename_i hb; rw [hb]; exact hi.s0
    · exact hi.loc b y h hy

theorem only_addFix {g : Gh} {w : World} (hi : Inv g w) {x : Nat} (o : Obj) : Only [x] g w (g.addFix x w.heap.size) (w.alloc o) where
  blocks := fun b y h _ => by
    have hb : b < w.heap.size := by
      rcases Nat.lt_or_ge b w.heap.size with hlt | hge
      · exact hlt
      · rw [hi.fresh b hge] at h; cases h
    simp only [Gh.addFix]
    exact ⟨by rw [upd_ne _ _ (by omega)]; exact h, alloc_old hb, (by first | rfl | trivial)⟩
  owners := fun b y h _ hy => by
    simp only [Gh.addFix, upd] at h
    split at h
    · simp at h; subst h; simp at hy
    · exact h
  vers := fun y _ _ => ⟨rfl, rfl⟩

/-- a new block with known cells -/
theorem post_new {base : Nat} {g : Gh} {w : World} (hi : Inv g w) (hx : ¬ g.used base) {C : Array Value} {e : TypeId} {c : Ct} {v : AV} {V : Value}
    (hs : C.size = c.size) (hc : ∀ i, i < c.size → Rel0 g w (c.get i) (C.getD i undef))
    (hv : Rel2 (g.addFix base w.heap.size) (w.alloc (.cells C e)) v V) :
    Post base (base + 1) g w v [(base, .fix c)] V (g.addFix base w.heap.size) (w.alloc (.cells C e)) where
  step := step_addFix hi hx _
  only := only_addFix hi _
  inv := inv_addFix hi _
  val := hv
  boxes := fun x b h => by
    simp only [lookB] at h
    cases hb : Nat.beq base x with
    | false => simp [hb] at h
    | true =>
      obtain rfl := Nat.beq_true hb
      simp [hb] at h
      subst h
      refine ⟨.inr rfl, upd_same _ _ _, by simp only [Gh.addFix, upd_same], C, e, by simp only [Gh.addFix, upd_same]; exact alloc_new, hs, fun i hi' => ?_⟩
      exact (step_addFix hi hx _).stay0 (hc i hi')
  used := fun x h => by
    rcases h with h | h
    · exact .inl h
    · subst h; exact .inr ⟨Nat.le_refl _, by omega⟩

theorem ptr_new {base : Nat} {g : Gh} {w : World} {C : Array Value} {e : TypeId} {n : Nat} (hn : n ≤ C.size) :
    Rel2 (g.addFix base w.heap.size) (w.alloc (.cells C e)) (.ptr base 0 n) (.pointer (some ⟨w.heap.size, 0, none⟩)) := by
  simp only [Rel2, Rel1, Rel0, Gh.addFix, upd_same]
  exact ⟨.inr (by first | rfl | trivial), (by first | rfl | trivial), ⟨C, e, (0, 0), alloc_new, by omega⟩, (by first | rfl | trivial)⟩

/-- a value's cells into a variable of its own -/
theorem post_box {P : Program} {base : Nat} {g : Gh} {w : World} (hi : Inv g w) (hx : ¬ g.used base) {t : TypeId} {x v : AV} {X : Value} {u : Upd}
    (hX : Rel2 g w x X) (h : boxA P base t x = some (true, v, u)) :
    ∃ V w' g', (Instr.box t X).run P w = .ok V w' ∧ Post base (base + 1) g w v u V g' w' := by
  unfold boxA at h
  split at h
  · rename_i n hn
    cases hb : x.isPart && Nat.beq x.cellsOf.length n && x.cellsOf.all AV.isCell with
    | false => simp [hb] at h
    | true =>
      simp only [hb, cond_true, Option.some.injEq, Prod.mk.injEq, true_and] at h
      obtain ⟨rfl, rfl⟩ := h
      simp only [Bool.and_eq_true] at hb
      obtain ⟨⟨hp, hsz⟩, hcell⟩ := hb
      obtain rfl := Nat.beq_true hsz
      have hcs := rel_cells hX hp
      have hlen := hcs.length
      simp only [Array.length_toList] at hlen
      refine ⟨_, w.alloc (.cells X.cells t), g.addFix base w.heap.size, ?_, post_new hi hx (by simpa [Ct.size] using hlen) (fun i hi' => ?_) (ptr_new (by omega))⟩
      · simp [Instr.box, newVar, newRow]
      · have := hcs.get i (by simpa [Ct.size] using hi')
        simpa [Ct.get, List.getD, Array.getD_eq_getD_getElem?] using this
  · simp at h

theorem run_mapM {P : Program} {w : World} {α β : Type} (f : α → Sem β) (h : α → β) : ∀ (l : List α), (∀ x, x ∈ l → (f x).run P w = .ok (h x) w) → (l.mapM f).run P w = .ok (l.map h) w
  | [], _ => by simp
  | x :: l, hf => by
    simp only [List.mapM_cons, Sem.run_bind, hf x (by simp), Result.andThen_ok, run_mapM f h l (fun y hy => hf y (by simp [hy])), Sem.run_pure, List.map_cons]

theorem run_mapM_array {P : Program} {w : World} {α β : Type} (f : α → Sem β) (h : α → β) (a : Array α) (hf : ∀ x, x ∈ a.toList → (f x).run P w = .ok (h x) w) :
    (a.mapM f).run P w = .ok (a.map h) w := by
  rw [Array.mapM_eq_mapM_toList, Sem.run_map, run_mapM f h _ hf]
  simp only [Result.andThen_ok]
  congr 1
  apply Array.ext'
  simp

theorem zero_of {P : Program} {t : TypeId} {z : AV} (hz : zeroT P t = some z) : ∃ i, P.info? t = some i ∧ ∃ Z, i.zero = some Z ∧ ofConst Z = z := by
  unfold zeroT at hz
  cases hh : P.info? t with
  | none => simp [hh] at hz
  | some i =>
    simp [hh] at hz
    obtain ⟨Z, h1, h2⟩ := hz
    exact ⟨i, rfl, Z, h1, h2⟩

theorem run_zero {P : Program} {w : World} {t : TypeId} {i : TypeInfo} {Z : Value} (h : P.info? t = some i) (hz : i.zero = some Z) : (zeroValue t).run P w = .ok Z w := by
  simp [zeroValue, typeInfo, h, hz]

theorem quiet_build {P : Program} {w : World} {g : Gh} {t : TypeId} {parts : List (Nat × AV)} {PS : Array (Nat × Value)} {v : AV} {u : Upd} (hp : PartsR g w parts PS.toList)
    (h : buildA P t parts = some (true, v, u)) : Quiet P g w (Instr.build t PS) v u := by
  unfold buildA at h
  split at h
  · rename_i z fs hz ht
    cases hb : (!z.isPart || !z.isAgg || !fs.toList.all (fun f => (sizeT P f.type).isSome)) with
    | true => simp only [hb, cond_true, reduceCtorEq] at h
    | false =>
      simp only [hb, cond_false] at h
      split at h
      · rename_i cs hf
        simp only [ret, Option.some.injEq, Prod.mk.injEq, true_and] at h
        obtain ⟨rfl, rfl⟩ := h
        simp only [Bool.or_eq_false_iff, Bool.not_eq_false'] at hb
        obtain ⟨⟨hb1, hb2⟩, hb3⟩ := hb
        obtain ⟨i, hinfo, Z, hZ, rfl⟩ := zero_of hz
        have hzr := rel_cells (rel_const (g := g) (w := w) Z) hb1
        let pl : Field → Nat × Nat := fun f => (f.offset, (sizeT P f.type).getD 0)
        have hpl : (fs.mapM fun f => do pure (f.offset, ← sizeOf f.type) : Sem (Array (Nat × Nat))).run P w = .ok (fs.map pl) w := by
          refine run_mapM_array _ pl fs fun f hf => ?_
          rw [List.all_eq_true] at hb3
          obtain ⟨n, hn⟩ := Option.isSome_iff_exists.1 (hb3 f hf)
          simp [run_sizeOfA hn, pl, hn]
        have hplace : ∀ i, (fs.map pl)[i]? = fieldOf P t i := by
          intro i
          simp only [fieldOf, ht, Array.getElem?_map]
          cases hfi : fs[i]? with
          | none => rfl
          | some f =>
            rw [List.all_eq_true] at hb3
            obtain ⟨n, hn⟩ := Option.isSome_iff_exists.1 (hb3 f (by
              have := Array.mem_of_getElem? hfi
              simpa using this))
            simp [pl, hn]
        obtain ⟨CS', h1, h2⟩ := rel_fill hp (pl := fun i => fieldOf P t i) hzr hf
        refine ⟨.agg CS', ?_, ⟨CS', rfl, h2⟩, rfl⟩
        unfold Instr.build
        simp only [Sem.run_bind, run_zero hinfo hZ, Result.andThen_ok, run_underlying ht, hpl]
        have : (fun i => (fs.map pl)[i]?) = fun i => fieldOf P t i := funext hplace
        rw [this, h1]
        simp
      · simp at h
  · rename_i z k e hz ht
    split at h
    · rename_i n hn
      cases hb : (!z.isPart || !z.isAgg) with
      | true => simp only [hb, cond_true, reduceCtorEq] at h
      | false =>
        simp only [hb, cond_false] at h
        split at h
        · rename_i cs hf
          simp only [ret, Option.some.injEq, Prod.mk.injEq, true_and] at h
          obtain ⟨rfl, rfl⟩ := h
          simp only [Bool.or_eq_false_iff, Bool.not_eq_false'] at hb
          obtain ⟨hb1, hb2⟩ := hb
          obtain ⟨i, hinfo, Z, hZ, rfl⟩ := zero_of hz
          have hzr := rel_cells (rel_const (g := g) (w := w) Z) hb1
          obtain ⟨CS', h1, h2⟩ := rel_fill hp (pl := fun i => some (i * n, n)) hzr hf
          refine ⟨.agg CS', ?_, ⟨CS', rfl, h2⟩, rfl⟩
          unfold Instr.build
          simp only [Sem.run_bind, run_zero hinfo hZ, Result.andThen_ok, run_underlying ht, run_sizeOfA hn]
          rw [h1]
          simp
        · simp at h
    · simp at h
  · simp at h


theorem post_alloc {P : Program} {base : Nat} {g : Gh} {w : World} (hi : Inv g w) (hx : ¬ g.used base) {t : TypeId} {z v : AV} {u : Upd}
    (hz : zeroT P t = some z) (h : boxA P base t z = some (true, v, u)) :
    ∃ V w' g', (Instr.alloc t true (.tuple #[])).run P w = .ok V w' ∧ Post base (base + 1) g w v u V g' w' := by
  obtain ⟨i, hinfo, Z, hZ, rfl⟩ := zero_of hz
  obtain ⟨V, w', g', h1, h2⟩ := post_box hi hx (rel_const Z) h
  refine ⟨V, w', g', ?_, h2⟩
  rw [← h1]
  simp [Instr.alloc, Instr.box, run_zero hinfo hZ]

/-! ### a slice literal: a new block that is only read -/
theorem AllR.replicate {r : AV → Value → Prop} {l : List AV} {L : List Value} (h : AllR r l L) : ∀ n, AllR r (List.replicate n l).flatten (List.replicate n L).flatten
  | 0 => by simp; exact .nil
  | n + 1 => by
    simp only [List.replicate_succ, List.flatten_cons]
    exact h.append (AllR.replicate h n)

theorem flatten_replicate_getD {α : Type} (l : List α) (d : α) : ∀ (n i : Nat), i < n * l.length → ((List.replicate n l).flatten).getD i d = l.getD (i % l.length) d
  | 0, i, h => by simp at h
  | n + 1, i, h => by
    simp only [List.replicate_succ, List.flatten_cons]
    rw [Nat.add_mul, Nat.one_mul] at h
    rcases Nat.lt_or_ge i l.length with hlt | hge
    · rw [Nat.mod_eq_of_lt hlt]
      simp [List.getD, List.getElem?_append_left hlt]
    · have ih := flatten_replicate_getD l d n (i - l.length) (by omega)
      have hm : i % l.length = (i - l.length) % l.length := by
        rw [Nat.mod_eq_sub_mod hge]
      rw [hm, ← ih]
      simp [List.getD, List.getElem?_append_right hge]

theorem zeros_eq (Z : Array Value) (n : Nat) (hz : 0 < Z.size) : (((Array.range (n * Z.size)).map (fun x => Z[x % Z.size]!)).toList) = (List.replicate n Z.toList).flatten := by
  apply List.ext_getElem?
  intro i
  by_cases hi : i < n * Z.size
  · have hlen : ((List.replicate n Z.toList).flatten).length = n * Z.size := by simp
    have h1 := flatten_replicate_getD Z.toList default n i (by simpa using hi)
    rw [List.getElem?_eq_getElem (by simpa using hi), List.getElem?_eq_getElem (by rw [hlen]; exact hi)]
    have hmod : i % Z.size < Z.size := Nat.mod_lt _ hz
    have h2 : ((List.replicate n Z.toList).flatten)[i]'(by rw [hlen]; exact hi) = ((List.replicate n Z.toList).flatten).getD i default := by
      simp only [List.getD]
      rw [List.getElem?_eq_getElem (by rw [hlen]; exact hi)]
      rfl
    rw [h2, h1]
    simp [List.getD, hmod]
  · rw [List.getElem?_eq_none (by simpa using hi), List.getElem?_eq_none (by simpa using hi)]

theorem mkCt_spec {g : Gh} {w : World} (P : Program) (e : TypeId) {l : List AV} {L : List Value} (h : AllR (Rel0 g w) l L) :
    (mkCt P e l).size = l.length ∧ ∀ i, i < l.length → Rel0 g w ((mkCt P e l).get i) (L.getD i undef) := by
  unfold mkCt
  split
  · rename_i k hk
    cases ha : l.all (AV.isInt k) with
    | false => simp [Ct.size, Ct.get]; exact h.get
    | true =>
      simp only [cond_true, Ct.size, List.length_map, Ct.get]
      refine ⟨trivial, fun i hi => ?_⟩
      have hg := h.get i hi
      rw [List.all_eq_true] at ha
      have hm := ha (l[i]) (List.getElem_mem hi)
      have hl : l.getD i .undef = l[i] := by simp [List.getD, hi]
      have hml : (l.map AV.num).getD i 0 = (l[i]).num := by simp [List.getD, hi]
      rw [hml]
      rw [hl] at hg
      cases hv : l[i] <;> rw [hv] at hm hg <;> simp [AV.isInt] at hm
      subst hm
      exact hg
  · simp only [Ct.size, Ct.get]; exact ⟨trivial, h.get⟩

theorem fillA_length {pl : Nat → Option (Nat × Nat)} : ∀ (pt : List (Nat × AV)) {a b : List AV} , True → fillA pl a pt = some b → b.length = a.length
  | [], a, b, _, h => by simp [fillA] at h; rw [h]
  | (i, v) :: pt, a, b, _, h => by
    unfold fillA at h
    split at h
    · simp at h
    · rename_i off size hos
      cases hbb : v.isPart && Nat.beq v.cellsOf.length size && Nat.ble (off + size) a.length with
      | false => simp [hbb] at h
      | true => simp only [hbb, cond_true] at h; rw [fillA_length pt trivial h, putCells_length]

theorem post_buildSlice {P : Program} {base nx : Nat} {g : Gh} {w : World} (hi : Inv g w) {t : TypeId} {n : Nat} {parts : List (Nat × AV)} {PS : Array (Nat × Value)} {v : AV} {u : Upd}
    (hp : PartsR g w parts PS.toList) (h : buildSliceA P t n parts = some (true, v, u)) :
    ∃ V w' g', (Instr.buildSlice t n PS).run P w = .ok V w' ∧ Post base nx g w v u V g' w' := by
  unfold buildSliceA at h
  split at h
  · rename_i e ht
    split at h
    · rename_i sz z hsz hz
      cases hb : z.isPart && Nat.beq z.cellsOf.length sz && Nat.ble (n * sz) 4096 && Nat.ble 1 sz with
      | false => simp [hb] at h
      | true =>
        simp only [hb, cond_true] at h
        simp only [Bool.and_eq_true] at hb
        obtain ⟨⟨⟨hb1, hb2⟩, hb3⟩, hb4⟩ := hb
        obtain rfl := Nat.beq_true hb2
        have hb3' := Nat.le_of_ble_eq_true hb3
        have hb4' := Nat.le_of_ble_eq_true hb4
        obtain ⟨i, hinfo, Z, hZ, rfl⟩ := zero_of hz
        have hzr := rel_cells (rel_const (g := g) (w := w) Z) hb1
        have hzl : Z.cells.size = (ofConst Z).cellsOf.length := by simpa using hzr.length
        split at h
        · rename_i cs hf
          have hrep := hzr.replicate n
          obtain ⟨CS', h1, h2⟩ := rel_fill hp (pl := fun i => some (i * (ofConst Z).cellsOf.length, (ofConst Z).cellsOf.length))
            (CS := ((List.replicate n Z.cells.toList).flatten).toArray) (by simpa using hrep) hf
          have hlen := h2.length
          have hcsl : cs.length = n * (ofConst Z).cellsOf.length := by
            rw [fillA_length _ trivial hf]
            simp
          have hrun : (Instr.buildSlice t n PS).run P w = .ok (.slice (some ⟨w.heap.size, 0, none⟩) n n) (w.alloc (.cells CS' e)) := by
            unfold Instr.buildSlice
            simp only [Sem.run_bind, run_underlying ht, Result.andThen_ok, run_sizeOfA hsz]
            have hno : ¬ (n * (ofConst Z).cellsOf.length > 2 ^ 24) := by omega
            simp only [hno, if_false]
            by_cases h0 : n * (ofConst Z).cellsOf.length = 0
            · have hn0 : n = 0 := by
                rcases Nat.eq_zero_or_pos n with h | h
                · exact h
                · have := Nat.mul_pos h hb4'; omega
              subst hn0
              simp only [Nat.zero_mul, if_true, Sem.run_bind, Sem.run_pure, Result.andThen_ok]
              have hz0 : ((Array.range 0).map fun x => (#[] : Array Value)[x % (#[] : Array Value).size]!) = ((List.replicate 0 Z.cells.toList).flatten).toArray := by simp
              rw [hz0, h1]
              simp [newRow]
            · have hcells : ((Array.range (n * (ofConst Z).cellsOf.length)).map fun x => Z.cells[x % Z.cells.size]!) = ((List.replicate n Z.cells.toList).flatten).toArray := by
                apply Array.ext'
                rw [← hzl, zeros_eq Z.cells n (by omega)]
              simp only [h0, if_false, Sem.run_bind, run_zero hinfo hZ, Sem.run_pure, Result.andThen_ok]
              rw [hcells, h1]
              simp [newRow]
          cases hn0 : Nat.beq n 0 with
          | true =>
            obtain rfl := Nat.beq_true hn0
            simp only [hn0, cond_true, ret, Option.some.injEq, Prod.mk.injEq, true_and] at h
            obtain ⟨rfl, rfl⟩ := h
            exact ⟨_, _, g, hrun, step_free hi _, only_free hi _, inv_free hi _, RelP.to2 (.esl _), fun x b h => by simp [lookB] at h, fun x h => .inl h⟩
          | false =>
            simp only [hn0, cond_false] at h
            cases hall : cs.all AV.plain0 with
            | false => simp [hall] at h
            | true =>
            cases hctok : ctOk (ofConst Z).cellsOf.length (mkCt P e cs) with
            | false => simp [hctok] at h
            | true =>
              simp only [hall, hctok, Bool.and_self, cond_true, ret, Option.some.injEq, Prod.mk.injEq, true_and] at h
              obtain ⟨rfl, rfl⟩ := h
              have hst := step_free hi (.cells CS' e)
              refine ⟨_, _, g, hrun, hst, only_free hi _, inv_free hi _, ?_, fun x b h => by simp [lookB] at h, fun x h => .inl h⟩
              obtain ⟨m1, m2⟩ := mkCt_spec P e h2
              have hcell : ∀ i, i < cs.length → Safe g (w.alloc (.cells CS' e)) w.heap.size i ∧ (w.alloc (.cells CS' e)).cell? ⟨w.heap.size, i, none⟩ = some (CS'.toList.getD i undef) := by
                intro i hi'
                refine ⟨safe_free hi _ i, ?_⟩
                rw [World.cell?_alloc_new]
                have : i < CS'.size := by simpa using (show i < CS'.toList.length by omega)
                simp [List.getD, this]
              have hcont : ∀ i, i < cs.length → RelP (Safe g (w.alloc (.cells CS' e))) (w.alloc (.cells CS' e)) ((mkCt P e cs).get i) (CS'.toList.getD i undef) := by
                intro i hi'
                have h0 := hst.stay0 (m2 i hi')
                refine h0.plain ?_
                cases hm : mkCt P e cs with
                | ints k l => rfl
                | tab x n k => exact (mkCt_tab hm).elim
                | blks k Q => exact (mkCt_blks hm).elim
                | cells l =>
                  have hl : l = cs := by
                    unfold mkCt at hm
                    split at hm
                    · rename_i k' _
                      cases hq : cs.all (AV.isInt k') with
                      | false => rw [hq] at hm; simp only [cond_false, Ct.cells.injEq] at hm; exact hm.symm
                      | true => rw [hq] at hm; simp only [cond_true, reduceCtorEq] at hm
                    · simp at hm; exact hm.symm
                  subst hl
                  rw [List.all_eq_true] at hall
                  simp only [Ct.get, List.getD]
                  rw [List.getElem?_eq_getElem hi']
                  exact hall _ (List.getElem_mem hi')
              refine RelP.to2 ?_
              cases hm : mkCt P e cs with
              | tab x n k => exact (mkCt_tab hm).elim
              | blks k Q => exact (mkCt_blks hm).elim
              | ints k l =>
                rw [hm] at hcont m1
                simp only [Ct.size] at m1
                have hln : l.length = n := by
                  rw [hm] at hctok
                  have := Nat.beq_true hctok
                  rw [this] at hcsl
                  omega
                simp only [viewV]
                have := RelP.vi (S := Safe g (w.alloc (.cells CS' e))) (w := w.alloc (.cells CS' e)) k l (some ⟨w.heap.size, 0, none⟩) n (by omega) (fun _ => ⟨w.heap.size, 0, rfl, fun i hi' => by
                  obtain ⟨c1, c2⟩ := hcell i (by omega)
                  have hc := hcont i (by omega)
                  simp only [Ct.get] at hc
                  rw [Nat.zero_add]
                  refine ⟨c1, ?_⟩
                  rw [c2]
                  cases hq : CS'.toList.getD i undef <;> rw [hq] at hc <;> cases hc
                  rfl⟩)
                rwa [hln] at this
              | cells l =>
                rw [hm] at hcont m1
                simp only [Ct.size] at m1
                simp only [viewV]
                refine .vc _ n l CS'.toList _ n (Nat.le_refl _) (by omega) (by omega) (fun i hi' => by have hq := hcont i (by omega); simp only [Ct.get] at hq; exact hq) (fun _ => ⟨w.heap.size, 0, rfl, fun i hi' => by
                  rw [Nat.zero_add]; exact hcell i (by omega)⟩)
        · simp at h
    · simp at h
  · simp at h

theorem post_buildSliceB {P : Program} {base : Nat} {g : Gh} {w : World} (hi : Inv g w) (hx : ¬ g.used base) {t : TypeId} {n : Nat} {parts : List (Nat × AV)} {PS : Array (Nat × Value)} {v : AV} {u : Upd}
    (hp : PartsR g w parts PS.toList) (h : buildSliceB P base t n parts = some (true, v, u)) :
    ∃ V w' g', (Instr.buildSlice t n PS).run P w = .ok V w' ∧ Post base (base + 1) g w v u V g' w' := by
  unfold buildSliceB at h
  split at h
  · rename_i e ht
    split at h
    · rename_i sz z hsz hz
      cases hb : z.isPart && Nat.beq z.cellsOf.length sz && Nat.ble (n * sz) 4096 && Nat.ble 1 sz with
      | false => simp [hb] at h
      | true =>
        simp only [hb, cond_true] at h
        simp only [Bool.and_eq_true] at hb
        obtain ⟨⟨⟨hb1, hb2⟩, hb3⟩, hb4⟩ := hb
        obtain rfl := Nat.beq_true hb2
        have hb3' := Nat.le_of_ble_eq_true hb3
        have hb4' := Nat.le_of_ble_eq_true hb4
        obtain ⟨i, hinfo, Z, hZ, rfl⟩ := zero_of hz
        have hzr := rel_cells (rel_const (g := g) (w := w) Z) hb1
        have hzl : Z.cells.size = (ofConst Z).cellsOf.length := by simpa using hzr.length
        split at h
        · rename_i cs hf
          have hrep := hzr.replicate n
          obtain ⟨CS', h1, h2⟩ := rel_fill hp (pl := fun i => some (i * (ofConst Z).cellsOf.length, (ofConst Z).cellsOf.length))
            (CS := ((List.replicate n Z.cells.toList).flatten).toArray) (by simpa using hrep) hf
          have hlen := h2.length
          have hcsl : cs.length = n * (ofConst Z).cellsOf.length := by
            rw [fillA_length _ trivial hf]
            simp
          have hrun : (Instr.buildSlice t n PS).run P w = .ok (.slice (some ⟨w.heap.size, 0, none⟩) n n) (w.alloc (.cells CS' e)) := by
            unfold Instr.buildSlice
            simp only [Sem.run_bind, run_underlying ht, Result.andThen_ok, run_sizeOfA hsz]
            have hno : ¬ (n * (ofConst Z).cellsOf.length > 2 ^ 24) := by omega
            simp only [hno, if_false]
            by_cases h0 : n * (ofConst Z).cellsOf.length = 0
            · have hn0 : n = 0 := by
                rcases Nat.eq_zero_or_pos n with h | h
                · exact h
                · have := Nat.mul_pos h hb4'; omega
              subst hn0
              simp only [Nat.zero_mul, if_true, Sem.run_bind, Sem.run_pure, Result.andThen_ok]
              have hz0 : ((Array.range 0).map fun x => (#[] : Array Value)[x % (#[] : Array Value).size]!) = ((List.replicate 0 Z.cells.toList).flatten).toArray := by simp
              rw [hz0, h1]
              simp [newRow]
            · have hcells : ((Array.range (n * (ofConst Z).cellsOf.length)).map fun x => Z.cells[x % Z.cells.size]!) = ((List.replicate n Z.cells.toList).flatten).toArray := by
                apply Array.ext'
                rw [← hzl, zeros_eq Z.cells n (by omega)]
              simp only [h0, if_false, Sem.run_bind, run_zero hinfo hZ, Sem.run_pure, Result.andThen_ok]
              rw [hcells, h1]
              simp [newRow]
          cases hn0 : (Nat.beq n 0 || !cs.all AV.isCell) with
          | true => simp [hn0] at h
          | false =>
            simp only [hn0, cond_false, Option.some.injEq, Prod.mk.injEq, true_and] at h
            obtain ⟨rfl, rfl⟩ := h
            have hs : CS'.size = cs.length := by simpa using hlen
            refine ⟨_, _, g.addFix base w.heap.size, hrun, post_new hi hx (by simpa [Ct.size] using hs) (fun i hi' => ?_) ?_⟩
            · have := h2.get i (by simpa [Ct.size] using hi')
              simpa [Ct.get, List.getD, Array.getD_eq_getD_getElem?] using this
            · simp only [Rel2, Rel1, Rel0, Gh.addFix, upd_same]
              exact ⟨.inr trivial, trivial, ⟨_, e, (0, 0), alloc_new, by omega⟩, _, n, rfl, Nat.le_refl _, fun _ => rfl⟩
        · simp at h
    · simp at h
  · simp at h

end Am
end Go.Proofs.Ytooiechjanmdjaa
