/- The mirror machine: how its states stand to the model's worlds, and that this lasts. -/
import Derived.Test.YtooiechjanmdjaaAmDefs
namespace Go.Proofs.Ytooiechjanmdjaa
namespace Am
set_option linter.unusedVariables false

theorem recB_is (k : IntKind) (P : List (Int × List Int)) (i j : Nat) : (∃ n, (recB k P i).getD j .undef = .int .i64 n) ∨ (∃ l, (recB k P i).getD j .undef = .vi k l) ∨ (recB k P i).getD j .undef = .undef := by
  match j with
  | 0 => exact .inl ⟨_, rfl⟩
  | 1 => exact .inr (.inl ⟨_, rfl⟩)
  | j + 2 => exact .inr (.inr rfl)

inductive AllR (r : AV → Value → Prop) : List AV → List Value → Prop
  | nil : AllR r [] []
  | cons {v : AV} {V : Value} {l : List AV} {L : List Value} : r v V → AllR r l L → AllR r (v :: l) (V :: L)

theorem AllR.length {r : AV → Value → Prop} {l : List AV} {L : List Value} (h : AllR r l L) : L.length = l.length := by
  induction h with
  | nil => rfl
  | cons _ _ ih => simp [ih]

theorem AllR.mono {r r' : AV → Value → Prop} {l : List AV} {L : List Value} (h : AllR r l L) (hr : ∀ v V, r v V → r' v V) : AllR r' l L := by
  induction h with
  | nil => exact .nil
  | cons a _ ih => exact .cons (hr _ _ a) ih

theorem AllR.get {r : AV → Value → Prop} {l : List AV} {L : List Value} (h : AllR r l L) : ∀ i, i < l.length → r (l.getD i .undef) (L.getD i undef) := by
  induction h with
  | nil => intro i hi; simp at hi
  | cons a _ ih =>
    intro i hi
    cases i with
    | zero => simpa using a
    | succ i => simpa using ih i (by simpa using hi)

theorem AllR.of_get {r : AV → Value → Prop} : ∀ {l : List AV} {L : List Value}, L.length = l.length → (∀ i, i < l.length → r (l.getD i .undef) (L.getD i undef)) → AllR r l L
  | [], [], _, _ => .nil
  | [], _ :: _, h, _ => by simp at h
  | _ :: _, [], h, _ => by simp at h
  | v :: l, V :: L, h, hg => .cons (by simpa using hg 0 (by simp)) (AllR.of_get (by simpa using h) fun i hi => by simpa using hg (i + 1) (by simpa using hi))

theorem AllR.append {r : AV → Value → Prop} {l l' : List AV} {L L' : List Value} (h : AllR r l L) (h' : AllR r l' L') : AllR r (l ++ l') (L ++ L') := by
  induction h with
  | nil => exact h'
  | cons a _ ih => exact .cons a ih

/-- a value without names, and what it is in the world; S: the cells that nobody writes -/
inductive RelP (S : Nat → Nat → Prop) (w : World) : AV → Value → Prop
  | bool (b : Bool) : RelP S w (.bool b) (.bool b)
  | int (k : IntKind) (n : Int) : RelP S w (.int k n) (.int k n)
  | str (s : ByteArray) : RelP S w (.str s) (.string s)
  | nilptr : RelP S w .nilptr (.pointer none)
  | nilfunc : RelP S w .nilfunc .nilFunc
  | niliface : RelP S w .niliface .nilIface
  | nilsl : RelP S w .nilsl (.slice none 0 0)
  | esl (a : Option Addr) : RelP S w .esl (.slice a 0 0)
  | em (a : Option Addr) (cap : Nat) : RelP S w (.em a.isNone) (.slice a 0 cap)
  | vi (k : IntKind) (l : List Int) (a : Option Addr) (cap : Nat) (h : l.length ≤ cap)
      (hc : 0 < l.length → ∃ b o, a = some ⟨b, o, none⟩ ∧ ∀ i, i < l.length → S b (o + i) ∧ w.cell? ⟨b, o + i, none⟩ = some (.int k (l.getD i 0))) :
      RelP S w (.vi k l) (.slice a l.length cap)
  | vc (sz n : Nat) (l : List AV) (us : List Value) (a : Option Addr) (cap : Nat) (h : n ≤ cap) (hl : l.length = n * sz) (hu : us.length = l.length)
      (hr : ∀ i, i < l.length → RelP S w (l.getD i .undef) (us.getD i undef))
      (hc : 0 < l.length → ∃ b o, a = some ⟨b, o, none⟩ ∧ ∀ i, i < l.length → S b (o + i) ∧ w.cell? ⟨b, o + i, none⟩ = some (us.getD i undef)) :
      RelP S w (.vc sz n l) (.slice a n cap)
  | vr (k : IntKind) (rs : List (List Int)) (V : Value) (h : RelP S w (.vc 1 rs.length (rs.map (.vi k))) V) : RelP S w (.vr k rs) V
  | vb (k : IntKind) (P : List (Int × List Int)) (V : Value) (h : RelP S w (.vc 2 P.length ((List.range P.length).flatMap (recB k P))) V) : RelP S w (.vb k P) V

theorem RelP.mono {S S' : Nat → Nat → Prop} {w w' : World} (hS : ∀ b i, S b i → S' b i ∧ w'.cell? ⟨b, i, none⟩ = w.cell? ⟨b, i, none⟩) {v : AV} {V : Value}
    (h : RelP S w v V) : RelP S' w' v V := by
  induction h with
  | bool b => exact .bool b
  | int k n => exact .int k n
  | str s => exact .str s
  | nilptr => exact .nilptr
  | nilfunc => exact .nilfunc
  | niliface => exact .niliface
  | nilsl => exact .nilsl
  | esl a => exact .esl a
  | em a cap => exact .em a cap
  | vi k l a cap h hc =>
    refine .vi k l a cap h fun hp => ?_
    obtain ⟨b, o, ha, hb⟩ := hc hp
    exact ⟨b, o, ha, fun i hi => ⟨(hS _ _ (hb i hi).1).1, by rw [(hS _ _ (hb i hi).1).2]; exact (hb i hi).2⟩⟩
  | vc sz n l us a cap h hl hu hr hc ih =>
    refine .vc sz n l us a cap h hl hu ih fun hp => ?_
    obtain ⟨b, o, ha, hb⟩ := hc hp
    exact ⟨b, o, ha, fun i hi => ⟨(hS _ _ (hb i hi).1).1, by rw [(hS _ _ (hb i hi).1).2]; exact (hb i hi).2⟩⟩
  | vr k rs V h ih => exact .vr k rs V ih
  | vb k P V h ih => exact .vb k P V ih

/-- what stands behind the names: blocks, who owns a block, how far a row is filled -/
structure Gh where
  S : Nat → Nat → Prop
  s0 : Nat
  lo : Nat
  used : Nat → Prop
  bk : Nat → Nat
  own : Nat → Option Nat
  fill : Nat → Nat
  grow : Nat → Bool
  ver : Nat → Nat
  cnt : Nat → Nat
  sz : Nat → Nat

/-- a cell that nobody writes any more -/
def Safe (g : Gh) (w : World) (b i : Nat) : Prop :=
  b < w.heap.size ∧ ((g.own b = none ∧ (g.S b i ∨ g.s0 ≤ b)) ∨ ∃ x, g.own b = some x ∧ g.grow x = true ∧ i < g.fill b)

/-- a pointer to one of the boxes -/
def PtrR (g : Gh) (w : World) (v : AV) (V : Value) : Prop :=
  match v with
  | .ptr x off s => g.used x ∧ g.grow x = false ∧ (∃ C e fr, w.heap[g.bk x]? = some (.cells C e fr) ∧ off + s ≤ C.size) ∧ V = .pointer (some ⟨g.bk x, off, none⟩)
  | _ => False

def Rel0 (g : Gh) (w : World) (v : AV) (V : Value) : Prop :=
  match v with
  | .undef => True
  | .ptr x off s => g.used x ∧ g.grow x = false ∧ (∃ C e fr, w.heap[g.bk x]? = some (.cells C e fr) ∧ off + s ≤ C.size) ∧ V = .pointer (some ⟨g.bk x, off, none⟩)
  | .sl x sz off n => g.used x ∧ g.grow x = false ∧ (∃ C e fr, w.heap[g.bk x]? = some (.cells C e fr) ∧ off + n * sz ≤ C.size) ∧
      ∃ a cap, V = .slice a n cap ∧ n ≤ cap ∧ (0 < n * sz → a = some ⟨g.bk x, off, none⟩)
  | .gsl x ver => g.used x ∧ g.grow x = true ∧ ver ≤ g.ver x ∧ (∃ a n cap, V = .slice a n cap) ∧ (g.ver x = ver → ∃ a cap, V = .slice a (g.cnt x) cap ∧ g.cnt x ≤ cap ∧
      (0 < cap → ∃ b C e, a = some ⟨b, 0, none⟩ ∧ g.own b = some x ∧ g.fill b = g.cnt x * g.sz x ∧ w.heap[b]? = some (.cells C e (0, 0)) ∧ cap * g.sz x ≤ C.size))
  | .ri k l i => i < l.length ∧ ∃ b o, V = .pointer (some ⟨b, o + i, none⟩) ∧ ∀ j, j < l.length → Safe g w b (o + j) ∧ w.cell? ⟨b, o + j, none⟩ = some (.int k (l.getD j 0))
  | .rc l i s => i + s ≤ l.length ∧ ∃ (b o : Nat) (us : List Value), V = .pointer (some ⟨b, o + i, none⟩) ∧ us.length = l.length ∧
      ∀ j, j < l.length → Safe g w b (o + j) ∧ w.cell? ⟨b, o + j, none⟩ = some (us.getD j undef) ∧ RelP (Safe g w) w (l.getD j .undef) (us.getD j undef)
  | .rr k rs i => i < rs.length ∧ ∃ (b o : Nat) (us : List Value), V = .pointer (some ⟨b, o + i, none⟩) ∧
      ∀ j, j < rs.length → Safe g w b (o + j) ∧ w.cell? ⟨b, o + j, none⟩ = some (us.getD j undef) ∧ RelP (Safe g w) w (.vi k (rs.getD j [])) (us.getD j undef)
  | .agg _ => False
  | .tuple _ => False
  | .func f a b => ∃ A B, V = .func (.func f) A B ∧ AllR (PtrR g w) a A.toList ∧ AllR (PtrR g w) b B.toList
  | v => RelP (Safe g w) w v V

theorem PtrR.rel0 {g : Gh} {w : World} {v : AV} {V : Value} (h : PtrR g w v V) : Rel0 g w v V := by
  cases v <;> first | exact h | exact h.elim
theorem PtrR.of {g : Gh} {w : World} {v : AV} {V : Value} (hp : v.isPtr = true) (h : Rel0 g w v V) : PtrR g w v V := by
  cases v <;> first | exact h | (simp [AV.isPtr] at hp)

def Rel1 (g : Gh) (w : World) (v : AV) (V : Value) : Prop :=
  match v with
  | .agg vs => ∃ us, V = .agg us ∧ AllR (Rel0 g w) vs us.toList
  | .func f a b => ∃ A B, V = .func (.func f) A B ∧ AllR (Rel0 g w) a A.toList ∧ AllR (Rel0 g w) b B.toList
  | v => Rel0 g w v V

def Rel2 (g : Gh) (w : World) (v : AV) (V : Value) : Prop :=
  match v with
  | .tuple vs => ∃ us, V = .tuple us ∧ AllR (Rel1 g w) vs us.toList
  | v => Rel1 g w v V

/-- a block's cells read as a row's content -/
def RowR (g : Gh) (w : World) (b : Nat) (c : Ct) : Prop :=
  ∃ C e, w.heap[b]? = some (.cells C e (0, 0)) ∧ C.size = c.size ∧ ∀ i, i < c.size → Rel0 g w (c.get i) (C.getD i undef)

def RelB (g : Gh) (w : World) (x : Nat) (b : Box) : Prop :=
  match b with
  | .fix c => g.used x ∧ g.grow x = false ∧ g.own (g.bk x) = some x ∧ RowR g w (g.bk x) c
  | .ro c => g.used x ∧ g.grow x = false ∧ (∀ i, i < c.size → Safe g w (g.bk x) i) ∧ RowR g w (g.bk x) c
  | .grow sz ver c => g.used x ∧ g.grow x = true ∧ g.ver x = ver ∧ g.sz x = sz ∧ g.cnt x = c.count sz ∧ c.size = c.count sz * sz ∧ 1 ≤ sz ∧
      ∀ b, g.own b = some x → ∃ C e, w.heap[b]? = some (.cells C e (0, 0)) ∧ g.fill b ≤ c.size ∧ g.fill b ≤ C.size ∧ ∀ i, i < g.fill b → RelP (Safe g w) w (c.get i) (C.getD i undef)

/-- what holds of the names and blocks themselves -/
structure Inv (g : Gh) (w : World) : Prop where
  s0 : g.s0 ≤ w.heap.size
  fresh : ∀ b, w.heap.size ≤ b → g.own b = none
  owner : ∀ b x, g.own b = some x → g.used x
  loc : ∀ b x, g.own b = some x → g.lo ≤ x → g.s0 ≤ b

/-- a later state: N: the names that last -/
structure Ext (N : Nat → Prop) (g : Gh) (w : World) (g' : Gh) (w' : World) : Prop where
  S : g'.S = g.S
  s0 : g'.s0 = g.s0
  lo : g'.lo = g.lo
  os : w'.os = w.os
  out : w'.output = w.output
  size : w.heap.size ≤ w'.heap.size
  shape : ∀ (b : Nat) (C : Array Value) (e : TypeId) (fr : Nat × Nat), w.heap[b]? = some (.cells C e fr) → ∃ C', w'.heap[b]? = some (.cells C' e fr) ∧ C'.size = C.size
  free : ∀ b, b < w.heap.size → g.own b = none → g'.own b = none ∧ w'.heap[b]? = w.heap[b]?
  keep : ∀ b x i, b < w.heap.size → g.own b = some x → g.grow x = true → i < g.fill b →
    w'.cell? ⟨b, i, none⟩ = w.cell? ⟨b, i, none⟩ ∧ ((g'.own b = none ∧ (g.S b i ∨ g.s0 ≤ b)) ∨ ∃ y, g'.own b = some y ∧ g'.grow y = true ∧ i < g'.fill b)
  names : ∀ x, N x → g'.used x ∧ g'.bk x = g.bk x ∧ g'.grow x = g.grow x ∧ g'.sz x = g.sz x ∧ g.ver x ≤ g'.ver x ∧ (g'.ver x = g.ver x → g'.cnt x = g.cnt x)
  rows : ∀ b x, g.own b = some x → N x → g.grow x = true → g'.own b = some x ∧ (g'.ver x = g.ver x → g'.fill b = g.fill b)
  own : ∀ b x, b < w.heap.size → g.own b = some x → N x → g'.own b = some x ∨ g'.own b = none

theorem Ext.refl (N : Nat → Prop) (g : Gh) (w : World) (hN : ∀ x, N x → g.used x) : Ext N g w g w where
  S := rfl
  s0 := rfl
  lo := rfl
  os := rfl
  out := rfl
  size := Nat.le_refl _
  shape := fun b C e fr h => ⟨C, h, rfl⟩
  free := fun b _ h => ⟨h, rfl⟩
  keep := fun b x i _ h1 h2 h3 => ⟨rfl, .inr ⟨x, h1, h2, h3⟩⟩
  names := fun x h => ⟨hN x h, rfl, rfl, rfl, Nat.le_refl _, fun _ => rfl⟩
  rows := fun b x h _ _ => ⟨h, fun _ => rfl⟩
  own := fun b x _ h _ => .inl h

theorem Ext.weaken {N N' : Nat → Prop} {g g' : Gh} {w w' : World} (h : Ext N g w g' w') (hN : ∀ x, N' x → N x) : Ext N' g w g' w' :=
  { h with names := fun x hx => h.names x (hN x hx), rows := fun b x h1 h2 h3 => h.rows b x h1 (hN x h2) h3, own := fun b x h1 h2 h3 => h.own b x h1 h2 (hN x h3) }

theorem Ext.trans {N : Nat → Prop} {g g1 g2 : Gh} {w w1 w2 : World} (h : Ext N g w g1 w1) (h' : Ext N g1 w1 g2 w2) : Ext N g w g2 w2 where
  S := h'.S.trans h.S
  s0 := h'.s0.trans h.s0
  lo := h'.lo.trans h.lo
  os := h'.os.trans h.os
  out := h'.out.trans h.out
  size := Nat.le_trans h.size h'.size
  shape := fun b C e fr hb => by
    obtain ⟨C1, h1, s1⟩ := h.shape b C e fr hb
    obtain ⟨C2, h2, s2⟩ := h'.shape b C1 e fr h1
    exact ⟨C2, h2, s2.trans s1⟩
  free := fun b hb ho => by
    obtain ⟨o1, e1⟩ := h.free b hb ho
    obtain ⟨o2, e2⟩ := h'.free b (Nat.lt_of_lt_of_le hb h.size) o1
    exact ⟨o2, e2.trans e1⟩
  keep := fun b x i hb ho hg hi => by
    obtain ⟨e1, o1⟩ := h.keep b x i hb ho hg hi
    have hb1 := Nat.lt_of_lt_of_le hb h.size
    rcases o1 with ⟨o1, s1⟩ | ⟨y, o1, gy, iy⟩
    · obtain ⟨o2, e2⟩ := h'.free b hb1 o1
      refine ⟨?_, .inl ⟨o2, s1⟩⟩
      rw [← e1]; simp only [World.cell?, e2]
    · obtain ⟨e2, o2⟩ := h'.keep b y i hb1 o1 gy iy
      refine ⟨e2.trans e1, ?_⟩
      rcases o2 with ⟨o2, s2⟩ | o2
      · exact .inl ⟨o2, by rw [h.S, h.s0] at s2; exact s2⟩
      · exact .inr o2
  names := fun x hx => by
    obtain ⟨_, b1, c1, d1, e1, f1⟩ := h.names x hx
    obtain ⟨a2, b2, c2, d2, e2, f2⟩ := h'.names x hx
    exact ⟨a2, b2.trans b1, c2.trans c1, d2.trans d1, Nat.le_trans e1 e2, fun hv => by rw [f2 (by omega), f1 (by omega)]⟩
  rows := fun b x ho hx hg => by
    obtain ⟨o1, f1⟩ := h.rows b x ho hx hg
    obtain ⟨_, _, c1, _, e1, _⟩ := h.names x hx
    obtain ⟨_, _, _, _, e2, _⟩ := h'.names x hx
    obtain ⟨o2, f2⟩ := h'.rows b x o1 hx (c1.trans hg)
    exact ⟨o2, fun hv => by rw [f2 (by omega), f1 (by omega)]⟩
  own := fun b x hb ho hx => by
    have hb1 := Nat.lt_of_lt_of_le hb h.size
    rcases h.own b x hb ho hx with o1 | o1
    · exact h'.own b x hb1 o1 hx
    · exact .inr (h'.free b hb1 o1).1

theorem Ext.safe {N : Nat → Prop} {g g' : Gh} {w w' : World} (h : Ext N g w g' w') {b i : Nat} (hs : Safe g w b i) :
    Safe g' w' b i ∧ w'.cell? ⟨b, i, none⟩ = w.cell? ⟨b, i, none⟩ := by
  obtain ⟨hb, hs⟩ := hs
  have hb' := Nat.lt_of_lt_of_le hb h.size
  rcases hs with ⟨ho, hS⟩ | ⟨x, ho, hg, hi⟩
  · obtain ⟨o1, e1⟩ := h.free b hb ho
    exact ⟨⟨hb', .inl ⟨o1, by rw [h.S, h.s0]; exact hS⟩⟩, by simp only [World.cell?, e1]⟩
  · obtain ⟨e1, o1⟩ := h.keep b x i hb ho hg hi
    refine ⟨⟨hb', ?_⟩, e1⟩
    rcases o1 with ⟨o1, s1⟩ | ⟨y, o1, gy, iy⟩
    · exact .inl ⟨o1, by rw [h.S, h.s0]; exact s1⟩
    · exact .inr ⟨y, o1, gy, iy⟩

theorem Ext.relP {N : Nat → Prop} {g g' : Gh} {w w' : World} (h : Ext N g w g' w') {v : AV} {V : Value} (hv : RelP (Safe g w) w v V) :
    RelP (Safe g' w') w' v V := hv.mono fun _ _ hs => h.safe hs

theorem AllR.mono' {r r' : AV → Value → Prop} {l : List AV} {L : List Value} (h : AllR r l L) (hr : ∀ v V, v ∈ l → r v V → r' v V) : AllR r' l L := by
  induction h with
  | nil => exact .nil
  | cons a _ ih => exact .cons (hr _ _ (by simp) a) (ih fun v V hv => hr v V (by simp [hv]))

theorem AllR.used {r : AV → Value → Prop} {l : List AV} {L : List Value} {N : Nat → Prop} {f : AV → List Nat} (h : AllR r l L) (hr : ∀ v V, r v V → ∀ x, x ∈ f v → N x) :
    ∀ x, x ∈ l.flatMap f → N x := by
  induction h with
  | nil => intro x hx; simp at hx
  | cons a _ ih =>
    intro x hx
    simp only [List.flatMap_cons, List.mem_append] at hx
    rcases hx with hx | hx
    · exact hr _ _ a x hx
    · exact ih x hx

theorem Ext.ptrR {N : Nat → Prop} {g g' : Gh} {w w' : World} (h : Ext N g w g' w') {v : AV} {V : Value} (hn : ∀ x, x ∈ v.refsP → N x) (hv : PtrR g w v V) : PtrR g' w' v V := by
  cases v <;> first | exact hv.elim | skip
  case ptr x off s =>
    obtain ⟨hu, hg, ⟨C, e, fr, hb, hs⟩, hV⟩ := hv
    obtain ⟨a, b, c, _⟩ := h.names x (hn x (by simp [AV.refsP]))
    obtain ⟨C', hb', hs'⟩ := h.shape _ _ _ _ hb
    exact ⟨a, c.trans hg, ⟨C', e, fr, by rw [b]; exact hb', by omega⟩, by rw [b]; exact hV⟩
theorem PtrR.used {g : Gh} {w : World} {v : AV} {V : Value} (h : PtrR g w v V) : ∀ x, x ∈ v.refsP → g.used x := by
  intro x hx
  cases v <;> simp only [AV.refsP, List.mem_singleton, List.not_mem_nil] at hx
  subst hx; exact h.1

theorem Ext.rel0 {N : Nat → Prop} {g g' : Gh} {w w' : World} (h : Ext N g w g' w') {v : AV} {V : Value} (hn : ∀ x, x ∈ v.refs0 → N x) (hv : Rel0 g w v V) : Rel0 g' w' v V := by
  cases v <;> simp only [Rel0] at hv ⊢ <;> first
    | exact h.relP hv
    | skip
  case ptr x off s =>
    obtain ⟨hu, hg, ⟨C, e, fr, hb, hs⟩, hV⟩ := hv
    obtain ⟨a, b, c, _⟩ := h.names x (hn x (by simp [AV.refs0]))
    obtain ⟨C', hb', hs'⟩ := h.shape _ _ _ _ hb
    exact ⟨a, c.trans hg, ⟨C', e, fr, by rw [b]; exact hb', by omega⟩, by rw [b]; exact hV⟩
  case sl x sz off n =>
    obtain ⟨hu, hg, ⟨C, e, fr, hb, hs⟩, A, cap, hV, hcap, hA⟩ := hv
    obtain ⟨a, b, c, _⟩ := h.names x (hn x (by simp [AV.refs0]))
    obtain ⟨C', hb', hs'⟩ := h.shape _ _ _ _ hb
    exact ⟨a, c.trans hg, ⟨C', e, fr, by rw [b]; exact hb', by omega⟩, A, cap, hV, hcap, fun hp => by rw [b]; exact hA hp⟩
  case gsl x ver =>
    obtain ⟨hu, hg, hle, hsl, hv⟩ := hv
    have hx := hn x (by simp [AV.refs0])
    obtain ⟨a, b, c, d, e, f⟩ := h.names x hx
    refine ⟨a, c.trans hg, by omega, hsl, fun hver => ?_⟩
    have hold : g.ver x = ver := by omega
    obtain ⟨A, cap, hV, hcap, hA⟩ := hv hold
    have hsame : g'.ver x = g.ver x := by omega
    refine ⟨A, cap, by rw [f hsame]; exact hV, by rw [f hsame]; exact hcap, fun hp => ?_⟩
    obtain ⟨B, C, e', hA', ho, hf, hb, hsz⟩ := hA hp
    obtain ⟨o1, f1⟩ := h.rows B x ho hx hg
    obtain ⟨C', hb', hs'⟩ := h.shape _ _ _ _ hb
    exact ⟨B, C', e', hA', o1, by rw [f1 hsame, hf, f hsame, d], hb', by rw [d]; omega⟩
  case ri k l i =>
    obtain ⟨hi, b, o, hV, hc⟩ := hv
    exact ⟨hi, b, o, hV, fun j hj => ⟨(h.safe (hc j hj).1).1, by rw [(h.safe (hc j hj).1).2]; exact (hc j hj).2⟩⟩
  case rc l i s =>
    obtain ⟨hi, b, o, us, hV, hl, hc⟩ := hv
    exact ⟨hi, b, o, us, hV, hl, fun j hj => ⟨(h.safe (hc j hj).1).1, by rw [(h.safe (hc j hj).1).2]; exact (hc j hj).2.1, h.relP (hc j hj).2.2⟩⟩
  case rr k rs i =>
    obtain ⟨hi, b, o, us, hV, hc⟩ := hv
    exact ⟨hi, b, o, us, hV, fun j hj => ⟨(h.safe (hc j hj).1).1, by rw [(h.safe (hc j hj).1).2]; exact (hc j hj).2.1, h.relP (hc j hj).2.2⟩⟩
  case func f a b =>
    obtain ⟨A, B, hV, ha, hb⟩ := hv
    exact ⟨A, B, hV, ha.mono' fun v V hm hv => h.ptrR (fun x hx => hn x (by simp only [AV.refs0, List.mem_flatMap, List.mem_append]; exact ⟨v, .inl hm, hx⟩)) hv,
      hb.mono' fun v V hm hv => h.ptrR (fun x hx => hn x (by simp only [AV.refs0, List.mem_flatMap, List.mem_append]; exact ⟨v, .inr hm, hx⟩)) hv⟩

theorem Ext.rel1 {N : Nat → Prop} {g g' : Gh} {w w' : World} (h : Ext N g w g' w') {v : AV} {V : Value} (hn : ∀ x, x ∈ v.refs1 → N x) (hv : Rel1 g w v V) : Rel1 g' w' v V := by
  cases v
  case agg vs =>
    obtain ⟨us, rfl, ha⟩ := hv
    exact ⟨us, rfl, ha.mono' fun v V hm hv => h.rel0 (fun x hx => hn x (by simp only [AV.refs1, List.mem_flatMap]; exact ⟨v, hm, hx⟩)) hv⟩
  case func f a b =>
    obtain ⟨A, B, rfl, ha, hb⟩ := hv
    exact ⟨A, B, rfl, ha.mono' fun v V hm hv => h.rel0 (fun x hx => hn x (by simp only [AV.refs1, List.mem_flatMap, List.mem_append]; exact ⟨v, .inl hm, hx⟩)) hv,
      hb.mono' fun v V hm hv => h.rel0 (fun x hx => hn x (by simp only [AV.refs1, List.mem_flatMap, List.mem_append]; exact ⟨v, .inr hm, hx⟩)) hv⟩
  all_goals (simp only [Rel1] at hv ⊢; exact h.rel0 (fun x hx => hn x (by simpa [AV.refs1] using hx)) hv)

theorem Ext.rel2 {N : Nat → Prop} {g g' : Gh} {w w' : World} (h : Ext N g w g' w') {v : AV} {V : Value} (hn : ∀ x, x ∈ v.refs → N x) (hv : Rel2 g w v V) : Rel2 g' w' v V := by
  cases v
  case tuple vs =>
    obtain ⟨us, rfl, ha⟩ := hv
    exact ⟨us, rfl, ha.mono' fun v V hm hv => h.rel1 (fun x hx => hn x (by simp only [AV.refs, List.mem_flatMap]; exact ⟨v, hm, hx⟩)) hv⟩
  all_goals (simp only [Rel2] at hv ⊢; exact h.rel1 (fun x hx => hn x (by simpa [AV.refs] using hx)) hv)

/-- names of a value are in use -/
theorem Rel0.used {g : Gh} {w : World} {v : AV} {V : Value} (h : Rel0 g w v V) : ∀ x, x ∈ v.refs0 → g.used x := by
  intro x hx
  cases v
  case func f a b =>
    obtain ⟨A, B, rfl, ha, hb⟩ := h
    exact ((ha.append hb).used fun v V hv => hv.used) x hx
  all_goals (simp only [AV.refs0, List.mem_singleton, List.not_mem_nil] at hx; try (subst hx; exact h.1))

theorem Rel1.used {g : Gh} {w : World} {v : AV} {V : Value} (h : Rel1 g w v V) : ∀ x, x ∈ v.refs1 → g.used x := by
  cases v
  case agg vs => obtain ⟨us, rfl, ha⟩ := h; exact ha.used fun v V hv => hv.used
  case func f a b =>
    obtain ⟨A, B, rfl, ha, hb⟩ := h
    exact (ha.append hb).used fun v V hv => hv.used
  all_goals (simp only [Rel1] at h; exact fun x hx => Rel0.used h x (by simpa [AV.refs1] using hx))

theorem Rel2.used {g : Gh} {w : World} {v : AV} {V : Value} (h : Rel2 g w v V) : ∀ x, x ∈ v.refs → g.used x := by
  cases v
  case tuple vs => obtain ⟨us, rfl, ha⟩ := h; exact ha.used fun v V hv => hv.used
  all_goals (simp only [Rel2] at h; exact fun x hx => Rel1.used h x (by simpa [AV.refs] using hx))

/-- a later state in which all names in use last -/
abbrev Step (g : Gh) (w : World) (g' : Gh) (w' : World) : Prop := Ext g.used g w g' w'

theorem Ext.stay {g g' : Gh} {w w' : World} (h : Step g w g' w') {v : AV} {V : Value} (hv : Rel2 g w v V) : Rel2 g' w' v V := h.rel2 hv.used hv
theorem Ext.stay0 {g g' : Gh} {w w' : World} (h : Step g w g' w') {v : AV} {V : Value} (hv : Rel0 g w v V) : Rel0 g' w' v V := h.rel0 hv.used hv
theorem Ext.stay1 {g g' : Gh} {w w' : World} (h : Step g w g' w') {v : AV} {V : Value} (hv : Rel1 g w v V) : Rel1 g' w' v V := h.rel1 hv.used hv

end Am
end Go.Proofs.Ytooiechjanmdjaa
