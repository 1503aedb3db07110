/- The mirror machine: stores, make and append. -/
import Derived.Test.YtooiechjanmdjaaAmWrite
namespace Go.Proofs.Ytooiechjanmdjaa
namespace Am
set_option linter.unusedVariables false
set_option linter.unusedSimpArgs false

def putArr (C : Array Value) (off : Nat) : List Value → Array Value
  | [] => C
  | v :: vs => putArr (C.setIfInBounds off v) (off + 1) vs

theorem putArr_size : ∀ (vs : List Value) (C : Array Value) (off : Nat), (putArr C off vs).size = C.size
  | [], C, off => rfl
  | v :: vs, C, off => by simp [putArr, putArr_size vs]

theorem putArr_before : ∀ (vs : List Value) (C : Array Value) (off i : Nat), i < off → (putArr C off vs)[i]? = C[i]?
  | [], C, off, i, h => rfl
  | v :: vs, C, off, i, h => by
    rw [putArr, putArr_before vs _ _ _ (by omega)]
    simp [Array.getElem?_setIfInBounds_ne (show off ≠ i by omega)]

theorem putArr_at : ∀ (vs : List Value) (C : Array Value) (off i : Nat), off + vs.length ≤ C.size → i < vs.length → (putArr C off vs)[off + i]? = vs[i]?
  | [], C, off, i, h, hi => by simp at hi
  | v :: vs, C, off, 0, h, hi => by
    rw [putArr, putArr_before vs _ _ _ (by omega)]
    simp at h
    simp [show off < C.size by omega]
  | v :: vs, C, off, i + 1, h, hi => by
    rw [putArr]
    have := putArr_at vs (C.setIfInBounds off v) (off + 1) i (by simp at h ⊢; omega) (by simpa using hi)
    rw [show off + (i + 1) = off + 1 + i by omega, this]
    simp

theorem AllR.putArr {r : AV → Value → Prop} {vs : List AV} {VS : List Value} (hv : AllR r vs VS) : ∀ {l : List AV} {C : Array Value} (off : Nat), AllR r l C.toList →
    AllR r (putCells l off vs) (putArr C off VS).toList := by
  induction hv with
  | nil => intro l C off h; exact h
  | cons a _ ih =>
    intro l C off h
    exact ih (off + 1) (by simpa using h.set a off)

/-- a block's cells, turned -/
def setRow (w : World) (b : Nat) (C : Array Value) (e : TypeId) : World := { w with heap := w.heap.setIfInBounds b (.cells C e (0, 0)) }

theorem setRow_at {w : World} {b : Nat} {C : Array Value} {e : TypeId} (hb : b < w.heap.size) : (setRow w b C e).heap[b]? = some (.cells C e (0, 0)) := by
  simp [setRow, hb]
theorem setRow_other {w : World} {b b' : Nat} {C : Array Value} {e : TypeId} (h : b' ≠ b) : (setRow w b C e).heap[b']? = w.heap[b']? := by
  simp only [setRow]
  rw [Array.getElem?_setIfInBounds_ne (Ne.symm h)]
theorem setRow_size {w : World} {b : Nat} {C : Array Value} {e : TypeId} : (setRow w b C e).heap.size = w.heap.size := by simp [setRow]
theorem setRow_setRow {w : World} {b : Nat} {C C' : Array Value} {e : TypeId} : setRow (setRow w b C e) b C' e = setRow w b C' e := by
  simp only [setRow]
  congr 1
  apply Array.ext_getElem?
  intro i
  by_cases h : b = i
  · subst h; by_cases hb : b < w.heap.size <;> simp [hb]
  · simp [Array.getElem?_setIfInBounds_ne h]
theorem setRow_same {w : World} {b : Nat} {C : Array Value} {e : TypeId} (h : w.heap[b]? = some (.cells C e (0, 0))) : setRow w b C e = w := by
  cases w with
  | mk heap tape drawn os output =>
    simp only [setRow] at *
    congr 1
    apply Array.ext_getElem?
    intro i
    by_cases hi : b = i
    · subst hi
      have := block_lt (w := ⟨heap, tape, drawn, os, output⟩) h
      rw [h]; simp at this; simp [this]
    · simp [Array.getElem?_setIfInBounds_ne hi]

theorem setCell_row {w : World} {b o : Nat} {C : Array Value} {e : TypeId} {v : Value} (h : w.heap[b]? = some (.cells C e (0, 0))) :
    w.setCell ⟨b, o, none⟩ v = setRow w b (C.setIfInBounds o v) e := by
  simp only [World.setCell, setRow]
  congr 1
  apply Array.ext_getElem?
  intro i
  have hb := block_lt h
  by_cases hi : b = i
  · subst hi
    rw [Array.getElem?_modify, h]
    simp [hb]
  · rw [Array.getElem?_modify]
    simp [hi, Array.getElem?_setIfInBounds_ne hi]

theorem run_storeCellsA {P : Program} {b off : Nat} {e : TypeId} : ∀ (vs : List Value) (i : Nat) (w : World) (C : Array Value), w.heap[b]? = some (.cells C e (0, 0)) →
    off + i + vs.length ≤ C.size → (∀ v, v ∈ vs → v.oneCell' = true) → (storeCells ⟨b, off, none⟩ vs i).run P w = .ok () (setRow w b (putArr C (off + i) vs) e)
  | [], i, w, C, h, _, _ => by simp [storeCells, putArr, setRow_same h]
  | v :: vs, i, w, C, h, hle, h1 => by
    simp at hle
    have hcell := cell_of_block (i := off + i) h (by omega)
    have hfr : w.frozen? ⟨b, off + i, none⟩ = false := by simp [World.frozen?, h]
    simp only [storeCells, Addr.add_lit, Sem.run_bind, run_store P w ⟨b, off + i, none⟩ v .plain (h1 v (by simp)), hcell, hfr, Bool.false_eq_true, if_false, Result.andThen_ok, setCell_row h]
    rw [run_storeCellsA vs (i + 1) (setRow w b (C.setIfInBounds (off + i) v) e) (C.setIfInBounds (off + i) v) (setRow_at (block_lt h)) (by simp; omega) (fun v hv => h1 v (by simp [hv]))]
    rw [setRow_setRow]
    rfl

/-- writes to a block of one name that does not grow -/
theorem step_write {g : Gh} {w : World} (hi : Inv g w) {b x : Nat} {C C' : Array Value} {e : TypeId} (hb : w.heap[b]? = some (.cells C e (0, 0))) (ho : g.own b = some x)
    (hg : g.grow x = false) (hs : C'.size = C.size) : Step g w g (setRow w b C' e) where
  S := rfl
  s0 := rfl
  lo := rfl
  size := by rw [setRow_size]; exact Nat.le_refl _
  os := rfl
  out := rfl
  shape := fun b' D e' fr h => by
    by_cases hbb : b' = b
    · subst hbb
      rw [hb] at h
      simp at h
      obtain ⟨rfl, rfl, rfl⟩ := h
      exact ⟨C', setRow_at (block_lt hb), hs⟩
    · exact ⟨D, by rw [setRow_other hbb]; exact h, rfl⟩
  free := fun b' _ h => ⟨h, setRow_other (fun he => by subst he; rw [ho] at h; cases h)⟩
  keep := fun b' y i _ h1 h2 h3 => by
    have hbb : b' ≠ b := fun he => by subst he; rw [ho] at h1; simp at h1; subst h1; rw [hg] at h2; cases h2
    exact ⟨by simp only [World.cell?, setRow_other hbb], .inr ⟨y, h1, h2, h3⟩⟩
  names := fun y h => ⟨h, rfl, rfl, rfl, Nat.le_refl _, fun _ => rfl⟩
  rows := fun b' y h _ _ => ⟨h, fun _ => rfl⟩
  own := fun b' y _ h _ => .inl h

theorem only_write {g : Gh} {w : World} {b x : Nat} {C' : Array Value} {e : TypeId} (ho : g.own b = some x) : Only [x] g w g (setRow w b C' e) where
  blocks := fun b' y h hy => ⟨h, setRow_other (fun he => by subst he; rw [ho] at h; simp at h; subst h; simp at hy), rfl⟩
  owners := fun b' y h _ _ => h
  vers := fun y _ _ => ⟨rfl, rfl⟩

theorem inv_write {g : Gh} {w : World} (hi : Inv g w) {b : Nat} {C' : Array Value} {e : TypeId} : Inv g (setRow w b C' e) where
  s0 := by rw [setRow_size]; exact hi.s0
  fresh := fun b' h => hi.fresh b' (by rwa [setRow_size] at h)
  owner := hi.owner
  loc := hi.loc

theorem isCell_one {g : Gh} {w : World} {v : AV} {V : Value} (h : Rel0 g w v V) (hc : v.isCell = true) : V.oneCell' = true := by
  cases v <;> simp [AV.isCell] at hc <;> simp only [Rel0] at h
  case ptr => obtain ⟨_, _, _, rfl⟩ := h; rfl
  case sl => obtain ⟨_, _, _, a, cap, rfl, _⟩ := h; rfl
  case gsl => obtain ⟨_, _, _, ⟨a, n, cap, rfl⟩, _⟩ := h; rfl
  case vr => cases h; rename_i h; cases h; rfl
  case vb => cases h; rename_i h; cases h; rfl
  case func => obtain ⟨A, B, rfl, _⟩ := h; rfl
  all_goals (cases h; rfl)

theorem AllR.mem_right {r : AV → Value → Prop} {l : List AV} {L : List Value} (h : AllR r l L) {V : Value} (hV : V ∈ L) : ∃ v, v ∈ l ∧ r v V := by
  induction h with
  | nil => simp at hV
  | cons a _ ih =>
    simp at hV
    rcases hV with rfl | hV
    · exact ⟨_, by simp, a⟩
    · obtain ⟨v, h1, h2⟩ := ih hV; exact ⟨v, by simp [h1], h2⟩

theorem Ct.toAll {g : Gh} {w : World} {l : List AV} {C : Array Value} (hs : C.size = l.length) (hc : ∀ i, i < l.length → Rel0 g w ((Ct.cells l).get i) (C.getD i undef)) : AllR (Rel0 g w) l C.toList := by
  refine AllR.of_get (by simpa using hs) fun i hi => ?_
  have := hc i hi
  simp only [Ct.get] at this
  have hi' : i < C.size := by omega
  simpa [List.getD, hi'] using this

theorem post_store {P : Program} {base nx : Nat} {g : Gh} {w : World} {s : Sto} (hi : Inv g w) {t : TypeId} {a x v : AV} {A X : Value} {u : Upd} (ha : Rel2 g w a A) (hX : Rel2 g w x X)
    (hb : ∀ y, y ∈ a.refs → ∀ b, lookB y s = some b → RelB g w y b) (h : storeA P s t a x = some (true, v, u)) :
    ∃ w' g', (Instr.storeAt t A X).run P w = .ok () w' ∧ Post base nx g w v u undef g' w' := by
  unfold storeA at h
  split at h
  · rename_i n b off m hn
    cases hbb : Nat.ble n m && x.isPart && Nat.beq x.cellsOf.length n && x.cellsOf.all AV.isCell with
    | false => simp [hbb] at h
    | true =>
      simp only [hbb, cond_true] at h
      simp only [Bool.and_eq_true] at hbb
      obtain ⟨⟨⟨hle, hp⟩, hsz⟩, hcell⟩ := hbb
      obtain rfl := Nat.beq_true hsz
      have hle' := Nat.le_of_ble_eq_true hle
      split at h
      · rename_i c hl
        split at h
        · rename_i c' hput
          simp only [Option.some.injEq, Prod.mk.injEq, true_and] at h
          obtain ⟨rfl, rfl⟩ := h
          obtain ⟨f1, f2, f3, C, e, hC, hCs, hcells⟩ := hb b (by simp [AV.refs, AV.refs1, AV.refs0]) _ hl
          simp only [Rel2, Rel1, Rel0] at ha
          obtain ⟨_, _, ⟨C', e', fr, hC', hlen⟩, rfl⟩ := ha
          rw [hC] at hC'
          obtain rfl : C = C' := by simp at hC'; exact hC'.1
          have hcs := rel_cells hX hp
          have hcl := hcs.length
          simp only [Array.length_toList] at hcl
          have hone : ∀ V, V ∈ X.cells.toList → V.oneCell' = true := fun V hV => by
            obtain ⟨v, hv, hr⟩ := hcs.mem_right hV
            rw [List.all_eq_true] at hcell
            exact isCell_one hr (hcell v hv)
          have hrun : (Instr.storeAt t (.pointer (some ⟨g.bk b, off, none⟩)) X).run P w = .ok () (setRow w (g.bk b) (putArr C off X.cells.toList) e) := by
            have := run_storeCellsA (P := P) (off := off) X.cells.toList 0 w C hC (by simp; omega) hone
            simp only [Nat.add_zero] at this
            simp [Instr.storeAt, Instr.sureAddr, storeVar, run_sizeOfA hn, hcl, this]
          have hst := step_write hi (C' := putArr C off X.cells.toList) hC f3 f2 (putArr_size _ _ _)
          refine ⟨_, g, hrun, hst, only_write f3, inv_write hi, rel2_undef _, fun y bx hy => ?_, fun y hy => .inl hy⟩
          simp only [lookB] at hy
          cases hbx : Nat.beq b y with
          | false => simp [hbx] at hy
          | true =>
            obtain rfl := Nat.beq_true hbx
            simp [hbx] at hy
            subst hy
            refine ⟨f1, f2, f3, _, e, setRow_at (block_lt hC), ?_⟩
            cases c with
            | tab x n k => simp [Ct.put] at hput
            | blks k P => simp [Ct.put] at hput
            | ints k l =>
              unfold Ct.put at hput
              split at hput
              · rename_i k1 l1 k' n' hc1 hxc
                simp only [Ct.ints.injEq] at hc1
                obtain ⟨rfl, rfl⟩ := hc1
                cases hk : decide (k = k') with
                | false => simp [hk] at hput
                | true =>
                  simp at hk
                  subst hk
                  simp at hput
                  subst hput
                  simp only [Ct.size, Ct.get] at *
                  have hle2 : 1 ≤ m := by rw [hxc] at hle'; simpa using hle'
                  rw [hxc] at hcs
                  obtain ⟨V, hV, hVr⟩ := hcs.one
                  rw [hV] at hst ⊢
                  refine ⟨by simp [putArr_size, hCs], fun i hi' => ?_⟩
                  simp at hi'
                  by_cases hio : off = i
                  · subst hio
                    have : (putArr C off [V]).getD off undef = V := by simp [putArr, show off < C.size by omega]
                    rw [this]
                    have h2 : (l.set off n').getD off 0 = n' := by simp [List.getD, hi']
                    rw [h2]
                    exact hst.stay0 hVr
                  · have : (putArr C off [V]).getD i undef = C.getD i undef := by
                      simp [putArr, Array.getElem?_setIfInBounds_ne hio]
                    rw [this]
                    have h2 : (l.set off n').getD i 0 = l.getD i 0 := by simp [List.getD, List.getElem?_set_ne hio]
                    rw [h2]
                    exact hst.stay0 (hcells i hi')
              · contradiction
              · simp at hput
            | cells l =>
              simp only [Ct.put, Option.some.injEq] at hput
              subst hput
              simp only [Ct.size] at *
              have hall := Ct.toAll hCs hcells
              have hput' := (AllR.putArr hcs off hall).mono fun v V h => hst.stay0 h
              refine ⟨by rw [putArr_size, hCs, putCells_length], fun i hi' => ?_⟩
              have := hput'.get i hi'
              have hi2 : i < (putArr C off X.cells.toList).size := by rw [putArr_size, hCs, ← putCells_length x.cellsOf l off]; exact hi'
              simp only [Ct.get]
              simpa [List.getD, hi2] using this
        · simp at h
      · simp at h
  · simp at h

end Am
end Go.Proofs.Ytooiechjanmdjaa
