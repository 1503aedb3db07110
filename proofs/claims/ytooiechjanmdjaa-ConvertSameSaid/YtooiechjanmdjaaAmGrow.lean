/- The mirror machine: make and append. -/
import Derived.Test.YtooiechjanmdjaaAmStore
namespace Go.Proofs.Ytooiechjanmdjaa
namespace Am
set_option linter.unusedVariables false
set_option linter.unusedSimpArgs false

/-- a block b of the row x: filled to n elements of z cells; f: x is new -/
def Gh.row (g : Gh) (x b n z v : Nat) : Gh :=
  { g with used := fun y => g.used y ∨ y = x, own := upd g.own b (some x), grow := upd g.grow x true, fill := upd g.fill b (n * z), ver := upd g.ver x v, cnt := upd g.cnt x n, sz := upd g.sz x z }

/-- a new block for a row, or more of the row's block: w' differs from w at b alone, behind what was filled -/
theorem step_row {g : Gh} {w w' : World} (hi : Inv g w) {x b n z v : Nat}
    (hx : g.used x → g.grow x = true ∧ g.sz x = z ∧ g.ver x < v)
    (hb : w.heap.size ≤ b ∨ g.own b = some x)
    (hsize : w.heap.size ≤ w'.heap.size) (hother : ∀ b', b' < w.heap.size → b' ≠ b → w'.heap[b']? = w.heap[b']?)
    (hshape : ∀ C e fr, b < w.heap.size → w.heap[b]? = some (.cells C e fr) → ∃ C', w'.heap[b]? = some (.cells C' e fr) ∧ C'.size = C.size)
    (hfill : b < w.heap.size → g.fill b ≤ n * z ∧ ∀ i, i < g.fill b → w'.cell? ⟨b, i, none⟩ = w.cell? ⟨b, i, none⟩) (ho : w'.os = w.os := by rfl) (hou : w'.output = w.output := by rfl) :
    Step g w (g.row x b n z v) w' where
  S := rfl
  s0 := rfl
  lo := rfl
  os := ho
  out := hou
  size := hsize
  shape := fun b' C e fr h => by
    by_cases hbb : b' = b
    · subst hbb; exact hshape C e fr (block_lt h) h
    · exact ⟨C, by rw [hother b' (block_lt h) hbb]; exact h, rfl⟩
  free := fun b' hlt h => by
    have hbb : b' ≠ b := fun he => by
      subst he
      rcases hb with hb | hb
      · omega
      · rw [hb] at h; cases h
    exact ⟨by simp only [Gh.row]; rw [upd_ne _ _ hbb]; exact h, hother b' hlt hbb⟩
  keep := fun b' y i hlt h1 h2 h3 => by
    by_cases hbb : b' = b
    · subst hbb
      obtain ⟨f1, f2⟩ := hfill hlt
      exact ⟨f2 i h3, .inr ⟨x, by simp only [Gh.row, upd_same], by simp only [Gh.row, upd_same], by simp only [Gh.row, upd_same]; omega⟩⟩
    · refine ⟨by simp only [World.cell?, hother b' hlt hbb], .inr ⟨y, by simp only [Gh.row]; rw [upd_ne _ _ hbb]; exact h1, ?_, by simp only [Gh.row]; rw [upd_ne _ _ hbb]; exact h3⟩⟩
      simp only [Gh.row, upd]
      split
      · rfl
      · exact h2
  names := fun y hy => by
    simp only [Gh.row]
    by_cases hyx : y = x
    · subst hyx
      obtain ⟨a, b, c⟩ := hx hy
      simp only [upd_same]
      exact ⟨.inl hy, trivial, a.symm, b.symm, by omega, fun h => by omega⟩
    · simp only [upd_ne _ _ hyx]
      exact ⟨.inl hy, trivial, trivial, trivial, Nat.le_refl _, fun _ => trivial⟩
  rows := fun b' y h1 hy h2 => by
    simp only [Gh.row]
    by_cases hbb : b' = b
    · subst hbb
      have hxy : y = x := by
        rcases hb with hb | hb
        · rw [hi.fresh b' hb] at h1; cases h1
        · rw [hb] at h1; simp at h1; exact h1.symm
      subst hxy
      obtain ⟨a, b, c⟩ := hx hy
      simp only [upd_same]
      exact ⟨trivial, fun h => by omega⟩
    · simp only [upd_ne _ _ hbb]
      exact ⟨h1, fun _ => trivial⟩
  own := fun b' y hb' h1 hy => by
    by_cases hbb : b' = b
    · subst hbb
      left
      rcases hb with hb | hb
      · omega
      · rw [hb] at h1; simp only [Gh.row, upd_same]; exact h1
    · left; simp only [Gh.row]; rw [upd_ne _ _ hbb]; exact h1

theorem inv_row {g : Gh} {w w' : World} (hi : Inv g w) {x b n z v : Nat} (hbo : w.heap.size ≤ b ∨ g.own b = some x) (hsize : w.heap.size ≤ w'.heap.size) (hb : b < w'.heap.size) : Inv (g.row x b n z v) w' where
  s0 := by have := hi.s0; simp only [Gh.row]; omega
  fresh := fun b' h => by simp only [Gh.row]; rw [upd_ne _ _ (by omega)]; exact hi.fresh b' (by omega)
  owner := fun b' y h => by
    simp only [Gh.row, upd] at h ⊢
    split at h
    · simp at h; exact .inr h.symm
    · exact .inl (hi.owner b' y h)
  loc := fun b' y h hy => by
    simp only [Gh.row, upd] at h
    split at h
    · rename_i hbb
      subst hbb
      simp at h
      subst h
      rcases hbo with hbo | hbo
      · exact Nat.le_trans hi.s0 hbo
      · exact hi.loc _ _ hbo hy
    · exact hi.loc b' y h hy

theorem only_row {g : Gh} {w w' : World} (hi : Inv g w) {x b n z v : Nat} (hb : w.heap.size ≤ b ∨ g.own b = some x)
    (hother : ∀ b', b' < w.heap.size → b' ≠ b → w'.heap[b']? = w.heap[b']?) : Only [x] g w (g.row x b n z v) w' where
  blocks := fun b' y h hy => by
    have hlt : b' < w.heap.size := by
      rcases Nat.lt_or_ge b' w.heap.size with hlt | hge
      · exact hlt
      · rw [hi.fresh b' hge] at h; cases h
    have hbb : b' ≠ b := fun he => by
      subst he
      rcases hb with hb | hb
      · omega
      · rw [hb] at h; simp at h; subst h; simp at hy
    simp only [Gh.row, upd_ne _ _ hbb]
    exact ⟨h, hother b' hlt hbb, trivial⟩
  owners := fun b' y h _ hy => by
    simp only [Gh.row, upd] at h
    split at h
    · simp at h; subst h; simp at hy
    · exact h
  vers := fun y _ hy => by
    have hyx : y ≠ x := fun he => by subst he; simp at hy
    simp only [Gh.row, upd_ne _ _ hyx]
    exact ⟨trivial, trivial⟩

theorem Ct.range_zero_getD (c : Ct) (i : Nat) (h : i < c.size) : (c.range 0 c.size).getD i .undef = c.get i := by
  rw [Ct.range_getD c c.size 0 i h, Nat.zero_add]

/-- a seen slice's cells, as the model reads them -/
theorem run_firstCells {P : Program} {g : Gh} {w w' : World} {V : Value} {c : Ct} {n sz : Nat} {q : Prop} (h : Seen g w V c n sz q) (hw : ∀ a, w'.cell? a = w.cell? a) :
    ∃ L : List Value, L.length = c.size ∧ (∀ i, i < c.size → RelP (Safe g w) w (c.get i) (L.getD i undef)) ∧ (Builtin.firstCells sz n V).run P w' = .ok L.toArray w' := by
  obtain ⟨a, cap, rfl, hcap, hs, hc⟩ := h
  rcases Nat.eq_zero_or_pos c.size with h0 | h0
  · refine ⟨[], by rw [h0]; rfl, fun i hi => by omega, ?_⟩
    cases a with
    | none => simp [Builtin.firstCells]
    | some b =>
      have : n * sz = 0 := by omega
      simp [Builtin.firstCells, this, loadCells, loadCellsFrom]
  · obtain ⟨b, o, rfl, hcc⟩ := hc h0
    refine ⟨(List.range c.size).map fun j => (w.cell? ⟨b, o + j, none⟩).getD undef, by simp, fun i hi => ?_, ?_⟩
    · obtain ⟨U, hU, hR, _⟩ := hcc i hi
      have : ((List.range c.size).map fun j => (w.cell? ⟨b, o + j, none⟩).getD undef).getD i undef = U := by simp [List.getD, hi, hU]
      rw [this]; exact hR
    · refine run_firstCells_some w' sz n ⟨b, o, none⟩ n cap _ (by simp [hs]) fun j v hj => ?_
      have hjl : j < c.size := by
        rcases Nat.lt_or_ge j c.size with h | h
        · exact h
        · simp [h] at hj
      obtain ⟨U, hU, _, _⟩ := hcc j hjl
      rw [Addr.add_lit, hw]
      simp [hjl, hU] at hj
      rw [hU, hj]

theorem RelP.oneCell {S : Nat → Nat → Prop} {w : World} {v : AV} {V : Value} (h : RelP S w v V) : V.oneCell' = true := by
  cases h <;> first | rfl | (rename_i h; cases h; rfl)

theorem appCt_spec {c c' d : Ct} (h : appCt c c' = some d) : d.size = c.size + c'.size ∧ (∀ i, i < c.size → d.get i = c.get i) ∧ (∀ i, i < c'.size → d.get (c.size + i) = c'.get i) ∧
    (∀ z, ctOk z d = ctOk z c') := by
  unfold appCt at h
  split at h
  · rename_i k l k' l'
    cases hk : decide (k = k') with
    | false => simp [hk] at h
    | true =>
      simp at hk
      subst hk
      simp at h
      subst h
      simp only [Ct.size, Ct.get, List.length_append, ctOk]
      refine ⟨trivial, fun i hi => ?_, fun i hi => ?_, fun _ => trivial⟩
      · simp [List.getD, List.getElem?_append_left hi]
      · simp [List.getD, List.getElem?_append_right]
  · rename_i c k p
    simp at h
    subst h
    refine ⟨rfl, fun i hi => absurd hi (by simp [Ct.size]), fun i hi => ?_, fun _ => rfl⟩
    simp only [Ct.size, List.length_cons, List.length_nil] at hi ⊢
    match i with
    | 0 => rfl
    | 1 => rfl
  · rename_i k P c k' p
    cases hk : decide (k = k') with
    | false => simp [hk] at h
    | true =>
      simp at hk
      subst hk
      simp at h
      subst h
      refine ⟨by simp [Ct.size]; omega, fun i hi => ?_, fun i hi => ?_, fun _ => rfl⟩
      · simp only [Ct.size] at hi
        simp only [Ct.get, recB]
        rw [List.getD_eq_getElem?_getD (l := P ++ [(c, p)]), List.getElem?_append_left (by omega), ← List.getD_eq_getElem?_getD]
      · simp only [Ct.size, List.length_cons, List.length_nil] at hi ⊢
        simp only [Ct.get, recB]
        rw [show (P.length * 2 + i) / 2 = P.length by omega, show (P.length * 2 + i) % 2 = i by omega, List.getD_eq_getElem?_getD (l := P ++ [(c, p)]), List.getElem?_append_right (Nat.le_refl _)]
        match i with
        | 0 => simp
        | 1 => simp
  · rename_i l l' _
    simp at h
    subst h
    simp only [Ct.size, Ct.get, List.length_append, ctOk]
    refine ⟨trivial, fun i hi => ?_, fun i hi => ?_, fun _ => trivial⟩
    · simp [List.getD, List.getElem?_append_left hi]
    · simp [List.getD, List.getElem?_append_right]
  · simp at h

theorem count_of {c : Ct} {n z : Nat} (hz : 1 ≤ z) (hs : c.size = n * z) (hok : ctOk z c = true) : c.count z = n := by
  cases c with
  | tab x n k => cases hok
  | blks k P =>
    simp only [Ct.count, Ct.size] at *
    cases hb : Nat.beq z 2 with
    | true => obtain rfl := Nat.beq_true hb; simp only [cond_true]; omega
    | false => simp only [cond_false]; rw [hs]; exact Nat.mul_div_cancel _ (by omega)
  | ints k l =>
    have := Nat.beq_true hok
    subst this
    simpa [Ct.count, Ct.size] using hs
  | cells l =>
    simp only [Ct.count, Ct.size] at *
    rw [hs]
    exact Nat.mul_div_cancel n (by omega)

/-- the words that append reads off the program -/
structure AppT (P : Program) (t e : TypeId) (sz by_ : Nat) (i : TypeInfo) (Z : Value) : Prop where
  ht : P.underlying t = some (.slice e)
  hi : P.info? e = some i
  hsz : i.size = sz
  hby : i.bytes = by_
  hz : i.zero = some Z

theorem run_append_fit {P : Program} {t ty e : TypeId} {sz by_ : Nat} {i : TypeInfo} {Z : Value} (T : AppT P t e sz by_ i Z) {w : World} {V X : Value} {a : Option Addr} {n m cap : Nat} {L : List Value}
    (hV : V = .slice a n cap) (hX : Builtin.lenOf X = pure m) (hcells : (Builtin.firstCells sz m X).run P w = .ok L.toArray w) (hfit : n + m ≤ cap) :
    (Builtin.append_ #[t, t] ty #[V, X]).run P w =
      (match a with
       | some a => (storeCells (a.add (n * sz)) L).run P w
       | none => .ok () w).andThen fun _ w' => .ok (.slice a (n + m) cap) w' := by
  subst hV
  obtain ⟨ht, hi, rfl, rfl, hz⟩ := T
  cases a <;> simp [Builtin.append_, run_underlying ht, sizeOf, typeInfo, hi, hX, hfit, hcells]

theorem run_append_new {P : Program} {t ty e : TypeId} {sz by_ : Nat} {i : TypeInfo} {Z : Value} (T : AppT P t e sz by_ i Z) {w : World} {V X : Value} {a : Option Addr} {n m cap : Nat} {L O : List Value}
    (hV : V = .slice a n cap) (hX : Builtin.lenOf X = pure m) (hold : (Builtin.firstCells sz n V).run P w.drew = .ok O.toArray w.drew)
    (hcells : (Builtin.firstCells sz m X).run P w.drew = .ok L.toArray w.drew) (hfit : cap < n + m) (hmost : n + m ≤ 4294967296) (hb : by_ ≤ 16384) :
    ∃ nc, n + m ≤ nc ∧ (Builtin.append_ #[t, t] ty #[V, X]).run P w =
      .ok (.slice (some ⟨w.heap.size, 0, none⟩) (n + m) nc) (w.drew.alloc (.cells (O.toArray ++ L.toArray ++ Builtin.zeroCells Z.cells (nc - (n + m))) e)) := by
  subst hV
  obtain ⟨ht, hi, rfl, rfl, hz⟩ := T
  refine ⟨grownCap w (n + m) cap e, ?_, ?_⟩
  · simp only [grownCap, Question.cut]; exact Nat.le_add_right _ _
  · have hn : ¬ (n + m ≤ cap) := by omega
    have h63 : ¬ (9223372036854775807 < ((n : Int) + (m : Int))) := by omega
    have h48 : ¬ (281474976710656 < Builtin.nextslicecap (n + m) cap * i.bytes) := by
      have := growslice_fits (need := n + m) (old := cap) (bytes := i.bytes) hfit (by
        have := Nat.mul_le_mul hmost hb
        omega)
      omega
    simp [Builtin.append_, run_underlying ht, sizeOf, typeInfo, zeroValue, hi, hz, hX, hn, h63, h48, Question.forced, hold, hcells, newRow, grownCap]
    congr 2
    apply Array.ext'
    simp [List.append_assoc]


theorem relB_row {g : Gh} {w w' : World} {x b n z v : Nat} {c : Ct} {C : Array Value} {e : TypeId} (hst : Step g w (g.row x b n z v) w') (hz : 1 ≤ z) (hs : c.size = n * z) (hok : ctOk z c = true)
    (hb : w'.heap[b]? = some (.cells C e (0, 0))) (hC : n * z ≤ C.size) (hc : ∀ i, i < n * z → RelP (Safe g w) w (c.get i) (C.getD i undef))
    (hold : ∀ b', g.own b' = some x → b' ≠ b → ∃ C' e', w'.heap[b']? = some (.cells C' e' (0, 0)) ∧ g.fill b' ≤ c.size ∧ g.fill b' ≤ C'.size ∧ ∀ i, i < g.fill b' → RelP (Safe g w) w (c.get i) (C'.getD i undef)) :
    RelB (g.row x b n z v) w' x (.grow z v c) := by
  refine ⟨.inr rfl, by simp only [Gh.row, upd_same], by simp only [Gh.row, upd_same], by simp only [Gh.row, upd_same], by simp only [Gh.row, upd_same]; rw [count_of hz hs hok], by rw [count_of hz hs hok]; exact hs, hz, fun b' hb' => ?_⟩
  by_cases hbb : b' = b
  · subst hbb
    refine ⟨C, e, hb, ?_, ?_, ?_⟩
    · simp only [Gh.row, upd_same]; omega
    · simp only [Gh.row, upd_same]; exact hC
    · simp only [Gh.row, upd_same]; intro i hi; exact hst.relP (hc i hi)
  · have : g.own b' = some x := by simp only [Gh.row] at hb'; rwa [upd_ne _ _ hbb] at hb'
    obtain ⟨C', e', h1, h2, h3, h4⟩ := hold b' this hbb
    have hf : (g.row x b n z v).fill b' = g.fill b' := by simp only [Gh.row]; exact upd_ne _ _ hbb
    rw [hf]
    exact ⟨C', e', h1, h2, h3, fun i hi => hst.relP (h4 i hi)⟩

theorem rel_gsl_row {g : Gh} {w' : World} {x b n z v cap : Nat} {C : Array Value} {e : TypeId} (hb : w'.heap[b]? = some (.cells C e (0, 0))) (hn : n ≤ cap) (hC : cap * z ≤ C.size) :
    Rel2 (g.row x b n z v) w' (.gsl x v) (.slice (some ⟨b, 0, none⟩) n cap) := by
  simp only [Rel2, Rel1, Rel0, Gh.row, upd_same]
  exact ⟨.inr trivial, trivial, Nat.le_refl _, ⟨_, _, _, rfl⟩, fun _ => ⟨_, cap, rfl, hn, fun _ => ⟨b, C, e, rfl, upd_same _ _ _, upd_same _ _ _, hb, hC⟩⟩⟩

/-- a row that has no block yet (or none that counts) -/
def Gh.name (g : Gh) (x n z v : Nat) : Gh :=
  { g with used := fun y => g.used y ∨ y = x, grow := upd g.grow x true, ver := upd g.ver x v, cnt := upd g.cnt x n, sz := upd g.sz x z }

theorem step_name {g : Gh} {w : World} {x n z v : Nat} (hx : g.used x → g.grow x = true ∧ g.sz x = z ∧ g.ver x < v) (hi : Inv g w) : Step g w (g.name x n z v) w where
  S := rfl
  s0 := rfl
  lo := rfl
  size := Nat.le_refl _
  os := rfl
  out := rfl
  shape := fun b C e fr h => ⟨C, h, rfl⟩
  free := fun b _ h => ⟨h, rfl⟩
  keep := fun b y i _ h1 h2 h3 => ⟨rfl, .inr ⟨y, h1, by simp only [Gh.name, upd]; split <;> simp_all, h3⟩⟩
  names := fun y hy => by
    simp only [Gh.name]
    by_cases hyx : y = x
    · subst hyx
      obtain ⟨a, b, c⟩ := hx hy
      simp only [upd_same]
      exact ⟨.inl hy, trivial, a.symm, b.symm, by omega, fun h => by omega⟩
    · simp only [upd_ne _ _ hyx]
      exact ⟨.inl hy, trivial, trivial, trivial, Nat.le_refl _, fun _ => trivial⟩
  rows := fun b y h _ _ => ⟨h, fun _ => rfl⟩
  own := fun b y _ h _ => .inl h

theorem post_name {base nx : Nat} {g : Gh} {w : World} (hi : Inv g w) {x n z v : Nat} {a : Option Addr} {c : Ct} (hx : g.used x → g.grow x = true ∧ g.sz x = z ∧ g.ver x < v)
    (hn : n = 0) (hz : 1 ≤ z) (hs : c.size = n * z) (hok : ctOk z c = true)
    (hold : ∀ b', g.own b' = some x → ∃ C' e', w.heap[b']? = some (.cells C' e' (0, 0)) ∧ g.fill b' ≤ c.size ∧ g.fill b' ≤ C'.size ∧ ∀ i, i < g.fill b' → RelP (Safe g w) w (c.get i) (C'.getD i undef))
    (hnx : g.used x ∨ (base ≤ x ∧ x < nx)) :
    Post base nx g w (.gsl x v) [(x, .grow z v c)] (.slice a 0 0) (g.name x n z v) w where
  step := step_name hx hi
  only := {
    blocks := fun b y h _ => ⟨h, rfl, rfl⟩
    owners := fun b y h _ _ => h
    vers := fun y _ hy => by
      have hyx : y ≠ x := fun he => by subst he; simp at hy
      simp only [Gh.name, upd_ne _ _ hyx]
      exact ⟨trivial, trivial⟩ }
  inv := ⟨hi.s0, hi.fresh, fun b y h => .inl (hi.owner b y h), hi.loc⟩
  val := by
    subst hn
    simp only [Rel2, Rel1, Rel0, Gh.name, upd_same]
    exact ⟨.inr trivial, trivial, Nat.le_refl _, ⟨_, _, _, rfl⟩, fun _ => ⟨_, 0, rfl, Nat.le_refl _, fun h => by omega⟩⟩
  boxes := fun y b h => by
    simp only [lookB] at h
    cases hb : Nat.beq x y with
    | false => simp [hb] at h
    | true =>
      obtain rfl := Nat.beq_true hb
      simp [hb] at h
      subst h
      have hst := step_name (n := n) hx hi
      refine ⟨.inr rfl, by simp only [Gh.name, upd_same], by simp only [Gh.name, upd_same], by simp only [Gh.name, upd_same], by simp only [Gh.name, upd_same]; rw [count_of hz hs hok], by rw [count_of hz hs hok]; exact hs, hz, fun b' hb' => ?_⟩
      obtain ⟨C', e', h1, h2, h3, h4⟩ := hold b' hb'
      exact ⟨C', e', h1, h2, h3, fun i hi => hst.relP (h4 i hi)⟩
  used := fun y h => by
    rcases h with h | h
    · exact .inl h
    · subst h; exact hnx

theorem post_row {base nx : Nat} {g : Gh} {w w' : World} (hi : Inv g w) {x b n z v cap : Nat} {c : Ct} {C : Array Value} {e : TypeId}
    (hst : Step g w (g.row x b n z v) w') (hsize : w.heap.size ≤ w'.heap.size) (hbb : w.heap.size ≤ b ∨ g.own b = some x) (hother : ∀ b', b' < w.heap.size → b' ≠ b → w'.heap[b']? = w.heap[b']?)
    (hz : 1 ≤ z) (hs : c.size = n * z) (hok : ctOk z c = true) (hb : w'.heap[b]? = some (.cells C e (0, 0))) (hn : n ≤ cap) (hC : cap * z ≤ C.size)
    (hc : ∀ i, i < n * z → RelP (Safe g w) w (c.get i) (C.getD i undef))
    (hold : ∀ b', g.own b' = some x → b' ≠ b → ∃ C' e', w'.heap[b']? = some (.cells C' e' (0, 0)) ∧ g.fill b' ≤ c.size ∧ g.fill b' ≤ C'.size ∧ ∀ i, i < g.fill b' → RelP (Safe g w) w (c.get i) (C'.getD i undef))
    (hnx : g.used x ∨ (base ≤ x ∧ x < nx)) :
    Post base nx g w (.gsl x v) [(x, .grow z v c)] (.slice (some ⟨b, 0, none⟩) n cap) (g.row x b n z v) w' where
  step := hst
  only := only_row hi hbb hother
  inv := inv_row hi hbb hsize (block_lt hb)
  val := rel_gsl_row hb hn hC
  boxes := fun y bx h => by
    simp only [lookB] at h
    cases hbx : Nat.beq x y with
    | false => simp [hbx] at h
    | true =>
      obtain rfl := Nat.beq_true hbx
      simp [hbx] at h
      subst h
      have := Nat.mul_le_mul_right z hn
      exact relB_row hst hz hs hok hb (by omega) hc hold
  used := fun y h => by
    rcases h with h | h
    · exact .inl h
    · subst h; exact hnx

theorem lenOf_seen {g : Gh} {w : World} {V : Value} {c : Ct} {n sz : Nat} {q : Prop} (h : Seen g w V c n sz q) : Builtin.lenOf V = pure n := by
  obtain ⟨a, cap, rfl, _⟩ := h; rfl

/-- a new block for the old cells and the new ones -/
theorem post_grown {P : Program} {t ty e : TypeId} {sz by_ : Nat} {i : TypeInfo} {Z : Value} (T : AppT P t e sz by_ i Z) (hZs : Z.cells.size = sz) {base nx : Nat} {g : Gh} {w : World} (hi : Inv g w)
    {D X : Value} {co cx c' : Ct} {n m x v : Nat} {a : Option Addr} {cap : Nat} {q q' : Prop}
    (hD : Seen g w D co n sz q) (hDs : D = .slice a n cap) (hX : Seen g w X cx m sz q') (happ : appCt co cx = some c') (hsz1 : 1 ≤ sz) (hok : ctOk sz cx = true) (hby : by_ ≤ 16384)
    (hfit : cap < n + m) (hmost : n + m ≤ 4294967296) (hx : g.used x → g.grow x = true ∧ g.sz x = sz ∧ g.ver x < v)
    (hold : ∀ b', g.own b' = some x → ∃ C' e', w.heap[b']? = some (.cells C' e' (0, 0)) ∧ g.fill b' ≤ co.size ∧ g.fill b' ≤ C'.size ∧ ∀ i, i < g.fill b' → RelP (Safe g w) w (co.get i) (C'.getD i undef))
    (hnx : g.used x ∨ (base ≤ x ∧ x < nx)) :
    ∃ V w' g', (Builtin.append_ #[t, t] ty #[D, X]).run P w = .ok V w' ∧ Post base nx g w (.gsl x v) [(x, .grow sz v c')] V g' w' := by
  obtain ⟨a1, a2, a3, a4⟩ := appCt_spec happ
  have hDsz : co.size = n * sz := by obtain ⟨_, _, _, _, h, _⟩ := hD; exact h
  have hXsz : cx.size = m * sz := by obtain ⟨_, _, _, _, h, _⟩ := hX; exact h
  obtain ⟨O, hO1, hO2, hO3⟩ := run_firstCells (P := P) (w' := w.drew) hD (fun _ => rfl)
  obtain ⟨L, hL1, hL2, hL3⟩ := run_firstCells (P := P) (w' := w.drew) hX (fun _ => rfl)
  obtain ⟨nc, hnc, hrun⟩ := run_append_new (ty := ty) T hDs (lenOf_seen hX) hO3 hL3 hfit hmost hby
  let C := O.toArray ++ L.toArray ++ Builtin.zeroCells Z.cells (nc - (n + m))
  have hCsize : C.size = nc * sz := by
    have hzc : (Builtin.zeroCells Z.cells (nc - (n + m))).size = (nc - (n + m)) * sz := by simp [Builtin.zeroCells, hZs]
    have : C.size = O.length + L.length + (nc - (n + m)) * sz := by simp only [C, Array.size_append, hzc, List.size_toArray]
    rw [this, hO1, hL1, hDsz, hXsz, ← Nat.add_mul, ← Nat.add_mul]
    congr 1
    omega
  have hst : Step g w (g.row x w.heap.size (n + m) sz v) (w.drew.alloc (.cells C e)) := by
    refine step_row hi hx (.inl (Nat.le_refl _)) (by simp) (fun b' hb' _ => ?_) (fun _ _ _ h _ => by omega) (fun h => by omega)
    have := alloc_old (w := w.drew) (o := .cells C e) (b := b') hb'
    exact this
  have hnewb : (w.drew.alloc (.cells C e)).heap[w.heap.size]? = some (.cells C e (0, 0)) := by
    have := alloc_new (w := w.drew) (o := .cells C e)
    simpa using this
  have hget : ∀ i, i < (n + m) * sz → RelP (Safe g w) w (c'.get i) (C.getD i undef) := by
    intro i hi'
    rw [Nat.add_mul] at hi'
    rcases Nat.lt_or_ge i co.size with hlt | hge
    · rw [a2 i hlt]
      have : C.getD i undef = O.getD i undef := by
        have : i < O.length := by omega
        simp only [C, Array.getD_eq_getD_getElem?, List.getD]
        rw [Array.append_assoc, Array.getElem?_append_left (by simpa using this)]
        simp
      rw [this]
      exact hO2 i hlt
    · obtain ⟨j, rfl⟩ : ∃ j, i = co.size + j := ⟨i - co.size, by omega⟩
      have hj : j < cx.size := by omega
      rw [a3 j hj]
      have : C.getD (co.size + j) undef = L.getD j undef := by
        have hjl : j < L.length := by omega
        simp only [C, Array.getD_eq_getD_getElem?, List.getD]
        rw [Array.getElem?_append_left (by simp; omega), Array.getElem?_append_right (by simp; omega)]
        simp [hO1]
      rw [this]
      exact hL2 j hj
  refine ⟨_, _, _, hrun, post_row hi hst (by simp) (.inl (Nat.le_refl _)) (fun b' hb' _ => alloc_old (w := w.drew) (o := .cells C e) (b := b') hb') hsz1 ?_ (by rw [a4]; exact hok) hnewb hnc (by omega) hget ?_ hnx⟩
  · rw [a1, hDsz, hXsz, Nat.add_mul]
  · intro b' hb' hne
    obtain ⟨C', e', h1, h2, h3, h4⟩ := hold b' hb'
    refine ⟨C', e', ?_, by omega, h3, fun i hi' => ?_⟩
    · have := alloc_old (w := w.drew) (o := .cells C e) (b := b') (block_lt h1)
      rw [this]; exact h1
    · rw [a2 i (by omega)]; exact h4 i hi'

theorem post_append {P : Program} {base : Nat} {g : Gh} {w : World} {s : Sto} (hi : Inv g w) (hfresh : ¬ g.used base) {t ty : TypeId} {d x v : AV} {D X : Value} {u : Upd} (hD : Rel2 g w d D) (hX : Rel2 g w x X)
    (hbd : ∀ y, y ∈ d.refs → ∀ b, lookB y s = some b → RelB g w y b) (hbx : ∀ y, y ∈ x.refs → ∀ b, lookB y s = some b → RelB g w y b)
    (h : appendA P s base t d x = some (true, v, u)) :
    ∃ V w' g', (Builtin.append_ #[t, t] ty #[D, X]).run P w = .ok V w' ∧ Post base (base + 1) g w v u V g' w' := by
  unfold appendA at h
  split at h
  · rename_i e ht
    split at h
    · rename_i sz by_ z hsz hby hz
      split at h
      · simp at h
      · rename_i cx m hview
        cases hb : Nat.ble by_ 16384 && Nat.ble 1 sz && z.isPart && Nat.beq z.cellsOf.length sz && ctOk sz cx with
        | false => simp [hb] at h
        | true =>
          simp only [hb, cond_true] at h
          simp only [Bool.and_eq_true] at hb
          obtain ⟨⟨⟨⟨hb1, hb2⟩, hb3⟩, hb4⟩, hok⟩ := hb
          have hb1' := Nat.le_of_ble_eq_true hb1
          have hb2' := Nat.le_of_ble_eq_true hb2
          obtain ⟨i, hinfo, Z, hZ, rfl⟩ := zero_of hz
          have hzl : Z.cells.size = sz := by
            have := (rel_cells (rel_const (g := g) (w := w) Z) hb3).length
            simp only [Array.length_toList] at this
            rw [this]; exact Nat.beq_true hb4
          have T : AppT P t e sz by_ i Z := by
            refine ⟨ht, hinfo, ?_, ?_, hZ⟩
            · simp [sizeT, hinfo] at hsz; exact hsz
            · simp [bytesT, hinfo] at hby; exact hby
          have hseen := view_ok hview hX hbx
          -- an empty slice: a new row
          have empty : ∀ a c, D = .slice a 0 0 → appCt (mkCt P e []) cx = some c → m ≤ most →
              ∃ V w' g', (Builtin.append_ #[t, t] ty #[D, X]).run P w = .ok V w' ∧ Post base (base + 1) g w (.gsl base 0) [(base, .grow sz 0 c)] V g' w' := by
            intro a c hDa happ hmost
            have hnone : ∀ b', g.own b' ≠ some base := fun b' hh => hfresh (hi.owner b' base hh)
            have hcsz : cx.size = m * sz := by obtain ⟨_, _, _, _, h, _⟩ := hseen; exact h
            obtain ⟨a1, a2, a3, a4⟩ := appCt_spec happ
            rcases Nat.eq_zero_or_pos m with h0 | h0
            · subst h0
              obtain ⟨L, hL1, hL2, hL3⟩ := run_firstCells (P := P) (w' := w) hseen (fun _ => rfl)
              have hLnil : L = [] := by
                have : L.length = 0 := by omega
                simpa using this
              subst hLnil
              have hrun := run_append_fit (ty := ty) T hDa (lenOf_seen hseen) hL3 (Nat.le_refl _)
              refine ⟨.slice a 0 0, w, g.name base 0 sz 0, ?_, post_name hi (fun h => absurd h hfresh) rfl hb2' ?_ (by rw [a4]; exact hok) (fun b' hh => absurd hh (hnone b')) (.inr ⟨Nat.le_refl _, by omega⟩)⟩
              · rw [hrun]
                cases a <;> simp [storeCells]
              · rw [a1, Ct.size_mkNil]; omega
            · have hDseen : Seen g w D (mkCt P e []) 0 sz True := ⟨a, 0, hDa, Nat.le_refl _, by rw [Ct.size_mkNil]; simp, fun h => by rw [Ct.size_mkNil] at h; omega⟩
              exact post_grown T hzl hi hDseen hDa hseen happ hb2' hok hb1' (by omega) (by unfold most at hmost; omega) (fun h => absurd h hfresh) (fun b' hh => absurd hh (hnone b')) (.inr ⟨Nat.le_refl _, by omega⟩)
          split at h
          · -- nil
            split at h
            · rename_i c happ
              simp only [Option.some.injEq, Prod.mk.injEq] at h
              obtain ⟨hmost, rfl, rfl⟩ := h
              simp only [Rel2, Rel1, Rel0] at hD
              cases hD
              exact empty none c rfl happ (Nat.le_of_ble_eq_true hmost)
            · simp at h
          · split at h
            · rename_i c happ
              simp only [Option.some.injEq, Prod.mk.injEq] at h
              obtain ⟨hmost, rfl, rfl⟩ := h
              simp only [Rel2, Rel1, Rel0] at hD
              cases hD
              exact empty _ c rfl happ (Nat.le_of_ble_eq_true hmost)
            · simp at h
          · rename_i b ver
            split at h
            · rename_i sz' v' c hl
              cases hvv : Nat.beq v' ver && Nat.beq sz sz' with
              | false => simp [hvv] at h
              | true =>
                simp only [hvv, cond_true] at h
                simp only [Bool.and_eq_true] at hvv
                obtain rfl := Nat.beq_true hvv.1
                obtain rfl := Nat.beq_true hvv.2
                split at h
                · rename_i c' happ
                  simp only [Option.some.injEq, Prod.mk.injEq] at h
                  obtain ⟨hmost, rfl, rfl⟩ := h
                  have hmost' := Nat.le_of_ble_eq_true hmost
                  unfold most at hmost'
                  have hR := hbd b (by simp [AV.refs, AV.refs1, AV.refs0]) _ hl
                  have hview2 : viewA P e sz s (.gsl b v') = some (c, c.count sz) := by
                    have e1 : Nat.beq v' v' = true := Nat.beq_refl v'
                    have e2 : Nat.beq sz sz = true := Nat.beq_refl sz
                    simp [viewA, hl, e1, e2]
                  have hDseen := view_ok hview2 hD (fun y hy => hbd y hy)
                  obtain ⟨hu, hg, hver, hszx, hcnt, hsize, hz1, hrows⟩ := hR
                  obtain ⟨a1, a2, a3, a4⟩ := appCt_spec happ
                  have hcsz : cx.size = m * sz := by obtain ⟨_, _, _, _, h, _⟩ := hseen; exact h
                  simp only [Rel2, Rel1, Rel0] at hD
                  obtain ⟨_, _, _, _, hD⟩ := hD
                  obtain ⟨a, cap, rfl, hcap, ha⟩ := hD hver
                  rw [hcnt] at hcap ha hDseen ⊢
                  have hnewer : g.used b → g.grow b = true ∧ g.sz b = sz ∧ g.ver b < v' + 1 := fun _ => ⟨hg, hszx, by omega⟩
                  have holds : ∀ b', g.own b' = some b → ∃ C' e', w.heap[b']? = some (.cells C' e' (0, 0)) ∧ g.fill b' ≤ c.size ∧ g.fill b' ≤ C'.size ∧ ∀ i, i < g.fill b' → RelP (Safe g w) w (c.get i) (C'.getD i undef) := hrows
                  by_cases hfit : c.count sz + m ≤ cap
                  · obtain ⟨L, hL1, hL2, hL3⟩ := run_firstCells (P := P) (w' := w) hseen (fun _ => rfl)
                    have hrun := run_append_fit (ty := ty) T rfl (lenOf_seen hseen) hL3 hfit (a := a)
                    rcases Nat.eq_zero_or_pos cap with h0 | h0
                    · have hm0 : m = 0 := by omega
                      have hc0 : c.count sz = 0 := by omega
                      subst hm0
                      have hLnil : L = [] := by
                        have : L.length = 0 := by omega
                        simpa using this
                      subst hLnil
                      subst h0
                      rw [hc0] at hrun ⊢
                      refine ⟨.slice a 0 0, w, g.name b 0 sz (v' + 1), ?_, post_name hi hnewer rfl hz1 ?_ (by rw [a4]; exact hok) (fun b' hh => ?_) (.inl hu)⟩
                      · rw [hrun]
                        cases a <;> simp [storeCells]
                      · rw [a1, hsize, hc0]; omega
                      · obtain ⟨C', e', h1, h2, h3, h4⟩ := holds b' hh
                        exact ⟨C', e', h1, by omega, h3, fun i hi' => by rw [a2 i (by omega)]; exact h4 i hi'⟩
                    · obtain ⟨B, C, e', rfl, ho, hf, hB, hCs⟩ := ha h0
                      rw [hszx] at hf hCs
                      have hmul := Nat.mul_le_mul_right sz hfit
                      rw [Nat.add_mul] at hmul
                      have hone : ∀ V, V ∈ L → V.oneCell' = true := fun V hV => by
                        obtain ⟨j, hj, rfl⟩ := List.getElem_of_mem hV
                        have := hL2 j (by omega)
                        simp only [List.getD, List.getElem?_eq_getElem hj, Option.getD_some] at this
                        exact this.oneCell
                      have hst0 := run_storeCellsA (P := P) (off := c.count sz * sz) L 0 w C hB (by rw [hL1, hcsz]; omega) hone
                      simp only [Nat.add_zero] at hst0
                      have hrun2 : (Builtin.append_ #[t, t] ty #[.slice (some ⟨B, 0, none⟩) (c.count sz) cap, X]).run P w =
                          .ok (.slice (some ⟨B, 0, none⟩) (c.count sz + m) cap) (setRow w B (putArr C (c.count sz * sz) L) e') := by
                        rw [hrun]
                        simp [Addr.add_lit, hst0]
                      have hst : Step g w (g.row b B (c.count sz + m) sz (v' + 1)) (setRow w B (putArr C (c.count sz * sz) L) e') := by
                        refine step_row hi hnewer (.inr ho) (by rw [setRow_size]; exact Nat.le_refl _) (fun b' _ hne => setRow_other hne) (fun C1 e1 fr _ hh => ?_) (fun _ => ⟨?_, fun j hj => ?_⟩)
                        · rw [hB] at hh
                          simp at hh
                          obtain ⟨rfl, rfl, rfl⟩ := hh
                          exact ⟨_, setRow_at (block_lt hB), putArr_size _ _ _⟩
                        · rw [hf, Nat.add_mul]; omega
                        · rw [hf] at hj
                          simp only [World.cell?, setRow_at (block_lt hB), hB]
                          simp [putArr_before L C _ j hj]
                      refine ⟨_, _, _, hrun2, post_row hi hst (by rw [setRow_size]; exact Nat.le_refl _) (.inr ho) (fun b' _ hne => setRow_other hne) hz1 ?_ (by rw [a4]; exact hok) (setRow_at (block_lt hB)) hfit (by rw [putArr_size]; exact hCs) (fun j hj => ?_) (fun b' hh hne => ?_) (.inl hu)⟩
                      · rw [a1, hsize, hcsz, Nat.add_mul]
                      · rw [Nat.add_mul] at hj
                        rcases Nat.lt_or_ge j c.size with hlt | hge
                        · rw [a2 j hlt]
                          obtain ⟨C1, e1, h1, h2, h3, h4⟩ := holds B ho
                          rw [hB] at h1
                          simp at h1
                          obtain ⟨rfl, rfl⟩ := h1
                          have : (putArr C (c.count sz * sz) L).getD j undef = C.getD j undef := by
                            rw [Array.getD_eq_getD_getElem?, Array.getD_eq_getD_getElem?, putArr_before L C _ j (by omega)]
                          rw [this]
                          exact h4 j (by omega)
                        · obtain ⟨k, rfl⟩ : ∃ k, j = c.size + k := ⟨j - c.size, by omega⟩
                          have hk : k < cx.size := by omega
                          rw [a3 k hk, hsize]
                          have : (putArr C (c.count sz * sz) L).getD (c.count sz * sz + k) undef = L.getD k undef := by
                            rw [Array.getD_eq_getD_getElem?, putArr_at L C (c.count sz * sz) k (by omega) (by omega), List.getD_eq_getElem?_getD]
                          rw [this]
                          exact hL2 k hk
                      · obtain ⟨C', e2, h1, h2, h3, h4⟩ := holds b' hh
                        exact ⟨C', e2, by rw [setRow_other hne]; exact h1, by omega, h3, fun i hi' => by rw [a2 i (by omega)]; exact h4 i hi'⟩
                  · exact post_grown T hzl hi hDseen rfl hseen happ hz1 hok hb1' (by omega) hmost' hnewer holds (.inl hu)
                · simp at h
            · simp at h
          · simp at h
    · simp at h
  · simp at h


theorem wrap_small {n : Int} (h0 : 0 ≤ n) (h1 : n ≤ 4294967296) : IntKind.i64.wrap n = n := by
  unfold IntKind.wrap
  have h2 : n % (2 ^ IntKind.i64.bits : Int) = n := Int.emod_eq_of_lt h0 (by simp [IntKind.bits]; omega)
  simp only [h2]
  have : ¬ (n ≥ (2 ^ (IntKind.i64.bits - 1) : Int)) := by simp [IntKind.bits]; omega
  simp [this]

theorem run_makeSliceA {P : Program} {t e : TypeId} {sz by_ : Nat} {i : TypeInfo} {Z : Value} (T : AppT P t e sz by_ i Z) (hZs : Z.cells.size = sz) (hsz1 : 1 ≤ sz) (hby : by_ ≤ 16384) {w : World} {k k' : IntKind} {ln cn : Int}
    (h0 : 0 ≤ ln) (h1 : ln ≤ cn) (h2 : cn ≤ 4294967296) :
    (Instr.makeSlice t (.int k ln) (.int k' cn)).run P w =
      .ok (.slice (some ⟨w.heap.size, 0, none⟩) ln.toNat cn.toNat) (w.alloc (.cells ((List.replicate cn.toNat Z.cells.toList).flatten).toArray e)) := by
  obtain ⟨ht, hi, rfl, rfl, hz⟩ := T
  have w1 := wrap_small h0 (by omega)
  have w2 := wrap_small (n := cn) (by omega) h2
  have hc : ¬ (cn < 0) := by omega
  have hl : ¬ (ln < 0) := by omega
  have hlc : ¬ (ln > cn) := by omega
  have hbig : ¬ ((i.bytes : Int) * cn > 2 ^ 48) := by
    have hm : (i.bytes : Int) * cn ≤ 16384 * 4294967296 := by
      have a1 : (i.bytes : Int) * cn ≤ (i.bytes : Int) * 4294967296 := Int.mul_le_mul_of_nonneg_left h2 (by omega)
      have a2 : (i.bytes : Int) * 4294967296 ≤ 16384 * 4294967296 := Int.mul_le_mul_of_nonneg_right (by omega) (by omega)
      omega
    omega
  have hn : (cn.toNat * i.size = 0) ↔ cn.toNat = 0 := by
    constructor
    · intro h
      rcases Nat.eq_zero_or_pos cn.toNat with h' | h'
      · exact h'
      · have := Nat.mul_pos h' hsz1; omega
    · intro h; rw [h]; simp
  unfold Instr.makeSlice
  simp only [Sem.run_bind, run_underlying ht, Result.andThen_ok, asInt, asIntOf, Sem.run_pure, typeInfo, run_program, hi, w1, w2]
  simp only [hc, hl, hlc, hbig, decide_false, Bool.or_self, Bool.false_eq_true, if_false, Sem.run_bind, run_askRoom, Result.andThen_ok, sizeOf, typeInfo, run_program, hi, Sem.run_pure]
  by_cases h : cn.toNat * i.size = 0
  · have hcn := hn.1 h
    simp only [h, if_true, Sem.run_bind, Sem.run_pure, Result.andThen_ok]
    simp [newRow, hcn, Array.range_zero']
  · simp only [h, if_false, Sem.run_bind, run_zero hi hz, Sem.run_pure, Result.andThen_ok]
    have hcells : ((Array.range (cn.toNat * i.size)).map fun x => Z.cells[x % Z.cells.size]!) = ((List.replicate cn.toNat Z.cells.toList).flatten).toArray := by
      apply Array.ext'
      rw [← hZs, zeros_eq Z.cells cn.toNat (by omega)]
    rw [hcells]
    simp [newRow]

theorem post_makeSlice {P : Program} {base : Nat} {g : Gh} {w : World} (hi : Inv g w) (hfresh : ¬ g.used base) {t : TypeId} {gr : Bool} {l c v : AV} {L C : Value} {u : Upd}
    (hl : Rel2 g w l L) (hc : Rel2 g w c C) (hgr : gr = true → ∃ k, l = .int k 0) (h : makeSliceA P base t gr l c = some (true, v, u)) :
    ∃ V w' g', (Instr.makeSlice t L C).run P w = .ok V w' ∧ Post base (base + 1) g w v u V g' w' := by
  unfold makeSliceA at h
  split at h
  · rename_i e ht
    split at h
    · rename_i sz by_ z k ln k' cn hsz hby hz
      obtain rfl := rel_int hl
      obtain rfl := rel_int hc
      cases hb : Nat.ble by_ 16384 && z.isPart && Nat.beq z.cellsOf.length sz && Nat.ble 1 sz && ctOk sz (mkCt P e []) with
      | false => simp [hb] at h
      | true =>
        simp only [hb, cond_true] at h
        simp only [Bool.and_eq_true] at hb
        obtain ⟨⟨⟨⟨hb1, hb3⟩, hb4⟩, hb2⟩, hok⟩ := hb
        have hb1' := Nat.le_of_ble_eq_true hb1
        have hb2' := Nat.le_of_ble_eq_true hb2
        obtain ⟨i, hinfo, Z, hZ, rfl⟩ := zero_of hz
        have hzr := rel_cells (rel_const (g := g) (w := w) Z) hb3
        have hzl : Z.cells.size = sz := by
          have := hzr.length
          simp only [Array.length_toList] at this
          rw [this]; exact Nat.beq_true hb4
        have T : AppT P t e sz by_ i Z := by
          refine ⟨ht, hinfo, ?_, ?_, hZ⟩
          · simp [sizeT, hinfo] at hsz; exact hsz
          · simp [bytesT, hinfo] at hby; exact hby
        cases gr with
        | true =>
          simp only [cond_true, Option.some.injEq, Prod.mk.injEq, Bool.and_eq_true, decide_eq_true_eq] at h
          obtain ⟨⟨h0, h1⟩, rfl, rfl⟩ := h
          obtain ⟨k0, hk0⟩ := hgr rfl
          simp only [AV.int.injEq] at hk0
          obtain ⟨rfl, rfl⟩ := hk0
          have hrun := run_makeSliceA T hzl hb2' hb1' (w := w) (k := k) (k' := k') (Int.le_refl 0) h0 h1
          have hnone : ∀ b', g.own b' ≠ some base := fun b' hh => hfresh (hi.owner b' base hh)
          refine ⟨_, _, g.row base w.heap.size 0 sz 0, hrun, ?_⟩
          have hst : Step g w (g.row base w.heap.size 0 sz 0) (w.alloc (.cells ((List.replicate cn.toNat Z.cells.toList).flatten).toArray e)) :=
            step_row hi (fun h => absurd h hfresh) (.inl (Nat.le_refl _)) (by simp) (fun b' hb' _ => alloc_old hb') (fun _ _ _ h _ => by omega) (fun h => by omega)
          exact post_row hi hst (by simp) (.inl (Nat.le_refl _)) (fun b' hb' _ => alloc_old hb') hb2' (by rw [Ct.size_mkNil]; simp) hok alloc_new (Nat.zero_le _) (by simp [hzl]) (fun j hj => by simp at hj)
            (fun b' hh => absurd hh (hnone b')) (.inr ⟨Nat.le_refl _, by omega⟩)
        | false =>
          simp only [cond_false] at h
          split at h
          · rename_i ct hct
            simp only [Option.some.injEq, Prod.mk.injEq, Bool.and_eq_true, decide_eq_true_eq] at h
            obtain ⟨⟨⟨h0, h1⟩, h2⟩, rfl, rfl⟩ := h
            have hrun := run_makeSliceA T hzl hb2' hb1' (w := w) (k := k) (k' := k') h0 h1 h2
            have hrep := hzr.replicate cn.toNat
            have hsize : (((List.replicate cn.toNat Z.cells.toList).flatten).toArray).size = cn.toNat * sz := by simp [hzl]
            have hctr : ct.size = cn.toNat * sz ∧ ∀ j, j < ct.size → Rel0 g w (ct.get j) ((((List.replicate cn.toNat Z.cells.toList).flatten).toArray).getD j undef) := by
              unfold zerosA at hct
              split at hct
              · rename_i kk hkk
                cases hq : (ofConst Z).isNought kk && Nat.beq sz 1 with
                | false => simp [hq] at hct
                | true =>
                  simp [hq] at hct
                  subst hct
                  simp only [Bool.and_eq_true] at hq
                  have hs1 := Nat.beq_true hq.2
                  subst hs1
                  have hzz : (ofConst Z).cellsOf = [.int kk 0] := by
                    have hq1 := hq.1
                    cases hv : ofConst Z <;> rw [hv] at hq1 <;> simp [AV.isNought] at hq1
                    obtain ⟨rfl, rfl⟩ := hq1
                    rfl
                  refine ⟨by simp [Ct.size], fun j hj => ?_⟩
                  simp only [Ct.size, List.length_replicate] at hj
                  rw [hzz] at hrep
                  have hg := hrep.get j (by simpa using hj)
                  have e1 : ((List.replicate cn.toNat [AV.int kk 0]).flatten).getD j .undef = .int kk 0 := by
                    have := flatten_replicate_getD [AV.int kk 0] .undef cn.toNat j (by simpa using hj)
                    rw [this]; simp [Nat.mod_one]
                  rw [e1] at hg
                  have e2 : (Ct.ints kk (List.replicate cn.toNat 0)).get j = .int kk 0 := by simp [Ct.get, List.getD, hj]
                  rw [e2]
                  simpa [List.getD] using hg
              · simp at hct
                subst hct
                have hl := hrep.length
                refine ⟨?_, fun j hj => ?_⟩
                · have := Nat.beq_true hb4
                  simp [Ct.size, this]
                · have hg := hrep.get j (by simpa [Ct.size] using hj)
                  simp only [Ct.get]
                  simpa [List.getD] using hg
            obtain ⟨c1, c2⟩ := hctr
            refine ⟨_, _, _, hrun, post_new hi hfresh (by rw [hsize, c1]) c2 ?_⟩
            simp only [Rel2, Rel1, Rel0, Gh.addFix, upd_same]
            have hmul := Nat.mul_le_mul_right sz (show ln.toNat ≤ cn.toNat by omega)
            exact ⟨.inr trivial, trivial, ⟨_, e, (0, 0), alloc_new, by rw [hsize]; omega⟩, _, cn.toNat, rfl, by omega, fun _ => rfl⟩
          · simp at h
    · simp at h
  · simp at h

end Am
end Go.Proofs.Ytooiechjanmdjaa
