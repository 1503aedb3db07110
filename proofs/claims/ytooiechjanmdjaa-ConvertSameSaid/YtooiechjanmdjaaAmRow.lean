/- The mirror machine: from what a law's function computes to its given row. -/
import Derived.Test.YtooiechjanmdjaaAmUse
import Derived.ProofKit
namespace Go.Proofs.Ytooiechjanmdjaa
namespace Am
open Go.ChangeShapes Go.WideShapes Go.ChangeAt Go.RowKit Go.ChangeShapes
set_option linter.unusedVariables false

theorem kept_new {W W' : World} (ho : W'.os = W.os) (hu : W'.output = W.output) (hb : ∀ b, b < W.heap.size → W'.heap[b]? = W.heap[b]?) (may : MemPlace → Prop) : W.keptBut W' may := by
  refine ⟨ho, hu, fun i hi => ?_⟩
  rw [hb i hi]
  split
  · rename_i h1 h2
    rw [h1] at h2
    simp only [Option.some.injEq, Obj.cells.injEq] at h2
    obtain ⟨rfl, rfl, rfl⟩ := h2
    exact ⟨rfl, rfl, rfl, fun _ _ => rfl⟩
  · rename_i h1 h2
    rw [h1] at h2
    simp only [Option.some.injEq, Obj.map.injEq] at h2
    exact Or.inr ⟨h2.1.symm, h2.2.symm⟩
  · rfl

section
variable {H : Type} {enc : TypeId × Value → H} {P : Program}

theorem same_new {W W' : World} (hb : ∀ b, b < W.heap.size → W'.heap[b]? = W.heap[b]?) : ∀ x : MemPlace, x.block < W.heap.size → W.sameAt W' x
  | .cell b off, h => by
    simp only [World.sameAt, World.cell?, hb b h]
  | .map b, h => hb b h

theorem shut_args (hl : laidOutB P = true) {W W' : World} {sp : Nat → Bool} : ∀ {ts : List TypeId} {vs : List Value} {ds : List (DataW H)} {p : List MemPlace},
    DataW.TrodAll enc P W 0 (fun _ => true) true ts vs ds p → (∀ t ∈ ts, P.readableRec t = true ∧ t < P.types.size) → (∀ x ∈ p, W.sameAt W' x) → (∀ x ∈ p, sp x.block = true) →
    DataW.TrodAll enc P W' 0 sp true ts vs ds p
  | [], _, _, _, h, _, _, _ => by
    obtain ⟨rfl, rfl, rfl⟩ := trodAll_nil h
    rfl
  | t :: ts, _, _, _, h, hr, hs, hp => by
    obtain ⟨v, vs1, d, ds1, a, b, rfl, rfl, rfl, h1, h2⟩ := trodAll_cons h
    have ht := hr t (by simp)
    exact ⟨a, b, WideElems.Trod_stays hl ht.1 ht.2 h1 (fun x hx => hs x (by simp [hx])) (fun x hx => hp x (by simp [hx])),
      shut_args hl h2 (fun u hu => hr u (by simp [hu])) (fun x hx => hs x (by simp [hx])) (fun x hx => hp x (by simp [hx])), rfl⟩

theorem law_post {f : Func} {s : ChangeSpec} {apart fresh handsOn again : Bool} {W W' : World} {args : Array Value} {ds gs : List (DataW H)} {before : List MemPlace} {bt : TypeId} (hl : laidOutB P = true)
    (hW : DataW.Whole enc P f.params.toList s.vars apart W args.toList ds gs before) (hvars : s.vars = [])
    (hres : (s.fn H (ds ++ gs)).results = [.lit (.bool true)]) (hargs : (s.fn H (ds ++ gs)).args = ds) (hvs : (s.fn H (ds ++ gs)).vars = [])
    (hrt : f.resultTypes = #[bt]) (hbt : P.underlying bt = some .bool) (hpar : ∀ t ∈ f.params.toList, P.readableRec t = true ∧ t < P.types.size)
    (ho : W'.os = W.os) (hu : W'.output = W.output) (hb : ∀ b, b < W.heap.size → W'.heap[b]? = W.heap[b]?) :
    s.post enc P f apart fresh handsOn again W args (.bool true) W' := by
  have hlt := hW.lt
  have hW0 := hW
  obtain ⟨p, q, hA, hV, rfl, hz, hn⟩ := hW
  rw [hvars] at hV
  obtain ⟨rfl, rfl⟩ := trodVars_none hV
  simp only [List.append_nil] at hlt hz hn
  have hA' : ∀ sp : Nat → Bool, (∀ x ∈ p, sp x.block = true) → DataW.TrodAll enc P W' 0 sp true f.params.toList args.toList (s.fn H (ds ++ [])).args p := fun sp hsp => by
    rw [hargs]
    exact shut_args hl hA hpar (fun x hx => same_new hb x (hlt x hx)) hsp
  have hV' : ∀ sp : Nat → Bool, DataW.TrodVars enc P W' sp s.vars (s.fn H (ds ++ [])).vars [] := fun sp => by rw [hvars, hvs]; rfl
  have hR : ∀ (b : Nat) (sp : Nat → Bool) (hd : Bool), DataW.TrodAll enc P W' b sp hd f.resultTypes.toList ((Value.bool true).resultList f.resultTypes.size) (s.fn H (ds ++ [])).results [] := fun b sp hd => by
    rw [hres, hrt]
    exact trodAll_mk1 (shut_bool hbt true)
  refine ⟨ds, [], p ++ [], [], p, [], hW0, hR _ _ _, hA' _ (fun x hx => by simpa using hlt x hx), hV' _, World.keptBut_mono (fun x hx => ⟨hx, by simpa using hx⟩) (kept_new ho hu hb (· ∈ p ++ [])), fun _ => ?_⟩
  refine ⟨ok_one hrt rfl (by simp [Value.okWide, hbt, Cell.okWide, Cell.ok]), _, _, ([] ++ p) ++ [], ⟨[] ++ p, [], trodAll_append (hA' _ (fun _ _ => rfl)) (hR _ _ _), hV' _, rfl, ?_, ?_⟩, ?_⟩
  · intro b off hp
    have hp' : MemPlace.cell b off ∈ p := by simpa using hp
    have hbl := hlt _ hp'
    have : W'.frozen? ⟨b, off, none⟩ = W.frozen? ⟨b, off, none⟩ := by simp only [World.frozen?]; rw [hb b hbl]
    rw [this]
    exact hz b off hp'
  · intro ha
    simpa using hn ha
  · intro x hx _
    simpa using hx

/-- a slice of numbers that comes in -/
theorem open_row' {t e : TypeId} {k : IntKind} {W : World} {v : Value} {d : DataW H} {ps : List MemPlace} (ht : P.underlying t = some (.slice e)) (he : P.underlying e = some (.int k)) (hc : P.cellsOf e = 1)
    (hv : ∃ x, v.cells = #[x] ∧ v = x) (h : DataW.Trod enc P W 0 (fun _ => true) true t v d ps) :
    ∃ l : List Int, RelP1 (fun b _ => b < W.heap.size) W (.vi k l) v ∧ ∀ n ∈ l, (Lit.int k n).wf = true := by
  obtain ⟨fuel, hf⟩ := h
  obtain ⟨x, hx, rfl⟩ := hv
  rw [hx] at hf
  rcases open_ints ht he hc hf with ⟨h1, _⟩ | ⟨a, len, cap, zs, h1, hb, hl, hm, hz, _, hcell, hwf⟩
  · simp at h1; subst h1
    exact ⟨[], .vi k [] none 0 (Nat.zero_le _) (fun h => by simp at h), fun n hn => by simp at hn⟩
  · simp at h1; subst h1
    simp only [if_true] at hz
    have hlen : (zs.take len).length = len := by simp; omega
    refine ⟨zs.take len, ?_, fun n hn => hwf n (List.mem_of_mem_take hn)⟩
    have := RelP.vi (S := fun b _ => b < W.heap.size) (w := W) k (zs.take len) (some a) cap (by omega) (fun hp => ?_)
    · rw [hlen] at this; exact this
    · have h0 := hcell 0 (by omega)
      have hspot : a.spot = none := by
        cases hs : a.spot with
        | none => rfl
        | some x =>
          simp only [World.cell?, Addr.add] at h0
          split at h0
          · simp [hs] at h0
          · cases h0
      refine ⟨a.block, a.off, ?_, fun i hi => ?_⟩
      · cases a; simp only at hspot; subst hspot; rfl
      · have hi' : i < zs.length := by omega
        have hci := hcell i hi'
        have hadd : a.add i = ⟨a.block, a.off + i, none⟩ := by
          obtain ⟨b, o, sp⟩ := a
          simp only at hspot
          subst hspot
          exact add_plain ..
        rw [hadd] at hci
        refine ⟨?_, ?_⟩
        · have : W.heap[a.block]? ≠ none := by
            intro hn
            simp only [World.cell?, hn] at hci
            cases hci
          rcases Nat.lt_or_ge a.block W.heap.size with h | h
          · exact h
          · exact absurd (Array.getElem?_eq_none h) this
        · rw [hci]
          congr 2
          simp [List.getD_eq_getElem?_getD, List.getElem?_take, show i < len by omega]

/-- a struct's cells -/
theorem okWide_agg {t : TypeId} {fs : Array Field} {W : World} {r : Reach} {b0 : Nat} {v : Value} (ht : P.underlying t = some (.struct fs)) (h : Value.okWide P W r b0 t v) : ∃ cs : Array Value, v = .agg cs ∧ cs.size = P.cellsOf t := by
  unfold Value.okWide at h
  rw [ht] at h
  obtain ⟨cs, rfl, hs, _⟩ := h
  exact ⟨cs, rfl, hs⟩
theorem len_succ {α : Type} {l : List α} {n : Nat} (h : l.length = n + 1) : ∃ a l', l = a :: l' ∧ l'.length = n := by
  cases l with
  | nil => simp at h
  | cons a l => exact ⟨a, l, rfl, by simpa using h⟩
/-- a field of a struct that comes in -/
theorem trod_sub {w : World} {base : Nat} {spare : Nat → Bool} {held : Bool} {fuel : Nat} {t : TypeId} {cs : List Value} {x : DataW H × List MemPlace} {fs : Array Field} (ht : P.underlying t = some (.struct fs))
    (h : DataW.trod enc P w base spare held fuel t cs = some x) (i : Nat) (f : Field) (hf : fs[i]? = some f) : ∃ n y, DataW.trod enc P w base spare held n f.type ((cs.drop f.offset).take (P.cellsOf f.type)) = some y := by
  obtain ⟨xs, n, _, _, _, hl, hs⟩ := DataW.trod_struct ht h
  have hi : i < xs.length := by rw [hl]; exact (Array.getElem?_eq_some_iff.1 hf).1
  exact ⟨n, xs[i], by rw [hs i f hf, List.getElem?_eq_getElem hi]⟩
theorem trod_sub' {w : World} {base : Nat} {spare : Nat → Bool} {held : Bool} {fuel : Nat} {t u : TypeId} {cs ds : List Value} {x : DataW H × List MemPlace} {fs : Array Field} (ht : P.underlying t = some (.struct fs))
    (h : DataW.trod enc P w base spare held fuel t cs = some x) (i o n : Nat) (hf : (fs[i]?).map (fun f => (f.type, f.offset)) = some (u, o)) (hn : P.cellsOf u = n) (hd : (cs.drop o).take n = ds) : ∃ n y, DataW.trod enc P w base spare held n u ds = some y := by
  cases hg : fs[i]? with
  | none => rw [hg] at hf; cases hf
  | some f =>
    rw [hg] at hf
    simp only [Option.map_some, Option.some.injEq, Prod.mk.injEq] at hf
    obtain ⟨rfl, rfl⟩ := hf
    obtain ⟨m, y, hy⟩ := trod_sub ht h i f hg
    rw [hn, hd] at hy
    exact ⟨m, y, hy⟩
/-- a row of numbers that comes in -/
theorem open_rowT {t e : TypeId} {k : IntKind} {W : World} {v : Value} {fuel : Nat} {x : DataW H × List MemPlace} (ht : P.underlying t = some (.slice e)) (he : P.underlying e = some (.int k)) (hc : P.cellsOf e = 1)
    (h : DataW.trod enc P W 0 (fun _ => true) true fuel t [v] = some x) :
    ∃ l : List Int, RelP (fun b _ => b < W.heap.size) W (.vi k l) v ∧ ∀ n ∈ l, (Lit.int k n).wf = true := by
  obtain ⟨d, ps⟩ := x
  have hv : v.cells = #[v] := by
    rcases open_ints ht he hc h with ⟨h1, _⟩ | ⟨a, len, cap, zs, h1, _⟩ <;> (simp at h1; subst h1; rfl)
  obtain ⟨l, h1, h2⟩ := open_row' (W := W) ht he hc ⟨v, hv, rfl⟩ ⟨fuel, by rw [hv]; exact h⟩
  exact ⟨l, h1, h2⟩

theorem cell_int {u : TypeId} {k : IntKind} {W : World} {r : Reach} {b0 : Nat} {c : Value} (hu : P.underlying u = some (.int k)) (h : Cell.okWide P W r b0 u c) : ∃ n, c = .int k n ∧ k.has n := by
  unfold Cell.okWide at h
  rw [hu] at h
  cases c <;> simp_all [Cell.ok]

theorem cell_bool {u : TypeId} {W : World} {r : Reach} {b0 : Nat} {c : Value} (hu : P.underlying u = some .bool) (h : Cell.okWide P W r b0 u c) : ∃ n, c = .bool n := by
  unfold Cell.okWide at h
  rw [hu] at h
  cases c <;> simp_all [Cell.ok]

/-- a struct that comes in, cell by cell -/
theorem open_cells {t : TypeId} {ts : List TypeId} {fs : Array Field} {W : World} {r : Reach} {b0 : Nat} {v : Value} (ht : P.underlying t = some (.struct fs)) (hc : P.cellTypes P.depth t = some ts) (hn : P.cellsOf t = ts.length)
    (h : Value.okWide P W r b0 t v) : ∃ cs : Array Value, v = .agg cs ∧ cs.size = ts.length ∧ ∀ (i : Nat) (u : TypeId), ts[i]? = some u → ∃ c, cs[i]? = some c ∧ Cell.okWide P W r b0 u c := by
  unfold Value.okWide at h
  rw [ht] at h
  obtain ⟨cs, rfl, hs, ts', hc', _, hall⟩ := h
  rw [hc] at hc'
  cases hc'
  refine ⟨cs, rfl, hs.trans hn, fun i u hu => ?_⟩
  have hi : i < ts.length := (List.getElem?_eq_some_iff.1 hu).1
  have hci : i < cs.size := by rw [hs, hn]; exact hi
  obtain ⟨u', hu', hok⟩ := hall i cs[i] (Array.getElem?_eq_getElem hci)
  rw [Nat.mod_eq_of_lt hi, hu] at hu'
  cases hu'
  exact ⟨cs[i], Array.getElem?_eq_getElem hci, hok⟩
end
end Am
end Go.Proofs.Ytooiechjanmdjaa
