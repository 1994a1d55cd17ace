/- Lemmas: EngOpen. -/
import Derived.Test.YtcogomacihefoaaEqE
import Derived.WideKeyArgs
import Derived.OpenShut
set_option linter.unusedVariables false
set_option linter.unusedSimpArgs false
set_option linter.unusedSectionVars false
set_option linter.deprecated false
/- The engine: a row's arguments as clean values: plain data (numbers, bools, structs, arrays, slices) in memory that never changes; the row behind an equation of the evaluator. -/
namespace Go.Eng
open Go Go.RowKit Go.ChangeShapes Go.WideShapes

/-! ### What the argument's type says of the clean value -/

def aggB (P : Program) (t : TypeId) : Bool := match P.underlying t with
  | some (.struct _) | some (.array _ _) => true
  | _ => false

def asD (b : Bool) (l : List D) (d : D) : Prop := if b then d = .agg l else l = [d]

def hasT (P : Program) : Nat → TypeId → List D → Prop
  | 0, _, _ => False
  | n + 1, t, ds => match P.underlying t with
    | some .bool => ∃ b, ds = [.bool b]
    | some (.int k) => ∃ x, ds = [.int k x] ∧ (Lit.int k x).wf = true
    | some (.slice e) => ∃ xs, ds = [.frz xs .unk] ∧ xs.length ≤ maxLen ∧ ∀ x ∈ xs, ∃ l, hasT P n e l ∧ asD (aggB P e) l x
    | some (.struct fs) => ds.length = P.cellsOf t ∧ ∀ f ∈ fs.toList, hasT P n f.type ((ds.drop f.offset).take (P.cellsOf f.type))
    | some (.array m e) => ds.length = P.cellsOf t ∧ ∀ i, i < m → hasT P n e ((ds.drop (i * P.cellsOf e)).take (P.cellsOf e))
    | _ => False

def tiles (P : Program) : Nat → List Field → Nat → Bool
  | off, [], e => off == e
  | off, f :: fs, e => f.offset == off && tiles P (off + P.cellsOf f.type) fs e

def plainB (P : Program) : Nat → TypeId → Bool
  | 0, _ => false
  | n + 1, t => match P.underlying t with
    | some .bool => P.cellsOf t == 1
    | some (.int _) => P.cellsOf t == 1
    | some (.slice e) => P.cellsOf t == 1 && (plainB P n e && Nat.blt 0 (P.cellsOf e))
    | some (.struct fs) => tiles P 0 fs.toList (P.cellsOf t) && fs.toList.all fun f => plainB P n f.type
    | some (.array m e) => P.cellsOf t == m * P.cellsOf e && plainB P n e
    | _ => false

def simOf (w : World) : Sim := ⟨fun _ => none, fun _ => none, fun b o => w.cell? ⟨b, o, none⟩⟩

theorem simOf_pure (w : World) : (simOf w).pure = simOf w := rfl

theorem hr_of (w : World) : HR (simOf w) H.empty w := .start (fun _ => rfl) (fun _ => rfl) (fun _ _ _ h => h)

section
variable {H : Type} {enc : TypeId × Value → H} {P : Program} {w : World} {sp : Nat → Bool} {held : Bool}

/-- What is found of a row of cells. -/
def Open (P : Program) (w : World) (n : Nat) (t : TypeId) (cs : List Value) : Prop :=
  ∃ ds, VRs (simOf w) ds cs ∧ (∀ c ∈ ds, c.scalar = true) ∧ hasT P n t ds ∧ ds.length = P.cellsOf t

theorem asD_cells {b : Bool} {l : List D} {d : D} (h : asD b l d) (hs : ∀ c ∈ l, c.scalar = true) : d.cells = l := by
  unfold asD at h
  cases b with
  | true => simp at h; subst h; rfl
  | false =>
    simp at h; subst h
    have := hs d (List.mem_cons_self ..)
    cases d <;> first | rfl | cases this

theorem asD_mk (P : Program) {n : Nat} {t : TypeId} {l : List D} (hb : plainB P n t = true) (hl : l.length = P.cellsOf t) : ∃ d, asD (aggB P t) l d := by
  cases hagg : aggB P t with
  | true => exact ⟨.agg l, by simp [asD]⟩
  | false =>
    have h1 : P.cellsOf t = 1 := by
      cases n with
      | zero => cases hb
      | succ n =>
        unfold plainB at hb
        unfold aggB at hagg
        split at hb
        · simpa using hb
        · simpa using hb
        · simp only [Bool.and_eq_true, beq_iff_eq] at hb; exact hb.1
        · rename_i h; rw [h] at hagg; cases hagg
        · rename_i h; rw [h] at hagg; cases hagg
        · cases hb
    rw [h1] at hl
    match l, hl with
    | [d], _ => exact ⟨d, by simp [asD]⟩

theorem open_struct {n : Nat} {cs : List Value} : ∀ (fs : List Field) (off e : Nat), tiles P off fs e = true → e = cs.length → (∀ f ∈ fs, Open P w n f.type ((cs.drop f.offset).take (P.cellsOf f.type))) →
    ∃ ds, VRs (simOf w) ds (cs.drop off) ∧ (∀ c ∈ ds, c.scalar = true) ∧ off ≤ e ∧ ∀ f ∈ fs, off ≤ f.offset ∧ hasT P n f.type ((ds.drop (f.offset - off)).take (P.cellsOf f.type))
  | [], off, e, ht, he, _ => by
    simp only [tiles, beq_iff_eq] at ht
    refine ⟨[], ?_, by simp, by omega, by simp⟩
    rw [List.drop_eq_nil_of_le (by omega)]; exact .nil
  | f :: fs, off, e, ht, he, h => by
    simp only [tiles, Bool.and_eq_true, beq_iff_eq] at ht
    obtain ⟨d1, v1, s1, t1, l1⟩ := h f (List.mem_cons_self ..)
    obtain ⟨d2, v2, s2, o2, t2⟩ := open_struct fs (off + P.cellsOf f.type) e ht.2 he fun g hg => h g (List.mem_cons_of_mem _ hg)
    rw [ht.1] at v1
    have hv := v1.length
    refine ⟨d1 ++ d2, ?_, fun c hc => ?_, by omega, fun g hg => ?_⟩
    · have : cs.drop off = (cs.drop off).take (P.cellsOf f.type) ++ cs.drop (off + P.cellsOf f.type) := by
        rw [← List.drop_drop, List.take_append_drop]
      rw [this]
      exact v1.append v2
    · rcases List.mem_append.1 hc with hc | hc
      · exact s1 c hc
      · exact s2 c hc
    · rcases List.mem_cons.1 hg with rfl | hg
      · refine ⟨by omega, ?_⟩
        rw [ht.1, Nat.sub_self, List.drop_zero, ← l1, List.take_left' rfl]
        exact t1
      · obtain ⟨q1, q2⟩ := t2 g hg
        refine ⟨by omega, ?_⟩
        rw [List.drop_append, List.drop_eq_nil_of_le (by omega), List.nil_append]
        rw [show g.offset - off - d1.length = g.offset - (off + P.cellsOf f.type) by omega]
        exact q2

theorem open_array {n : Nat} {e : TypeId} {cs : List Value} : ∀ (m : Nat), m * P.cellsOf e ≤ cs.length → (∀ i, i < m → Open P w n e ((cs.drop (i * P.cellsOf e)).take (P.cellsOf e))) →
    ∃ ds, VRs (simOf w) ds (cs.take (m * P.cellsOf e)) ∧ (∀ c ∈ ds, c.scalar = true) ∧ ds.length = m * P.cellsOf e ∧ ∀ i, i < m → hasT P n e ((ds.drop (i * P.cellsOf e)).take (P.cellsOf e))
  | 0, _, _ => ⟨[], by simp; exact .nil, by simp, by simp, fun i h => by omega⟩
  | m + 1, hm, h => by
    have hm' : (m + 1) * P.cellsOf e = m * P.cellsOf e + P.cellsOf e := by rw [Nat.add_mul, Nat.one_mul]
    obtain ⟨d2, v2, s2, l2, t2⟩ := open_array m (by omega) fun i hi => h i (by omega)
    obtain ⟨d1, v1, s1, t1, l1⟩ := h m (by omega)
    refine ⟨d2 ++ d1, ?_, fun c hc => ?_, by simp; omega, fun i hi => ?_⟩
    · rw [hm', List.take_add]
      exact v2.append v1
    · rcases List.mem_append.1 hc with hc | hc
      · exact s2 c hc
      · exact s1 c hc
    · rcases Nat.lt_or_ge i m with hi' | hi'
      · have : i * P.cellsOf e + P.cellsOf e ≤ m * P.cellsOf e := by
          have := Nat.mul_le_mul_right (P.cellsOf e) (show i + 1 ≤ m by omega)
          rw [Nat.add_mul, Nat.one_mul] at this; exact this
        rw [List.drop_append_of_le_length (by omega), List.take_append_of_le_length (by simp; omega)]
        exact t2 i hi'
      · have : i = m := by omega
        subst this
        rw [List.drop_append, List.drop_eq_nil_of_le (by omega), List.nil_append, l2, Nat.sub_self, List.drop_zero, ← l1, List.take_length]
        exact t1

theorem open_slice {n : Nat} {e : TypeId} (hp : plainB P n e = true) {b off : Nat} {spot : Option Nat} : ∀ (len : Nat), (∀ i, i < len → ∃ cs, cs.length = P.cellsOf e ∧ (∀ k, k < P.cellsOf e → w.cell? ⟨b, off + (i * P.cellsOf e + k), none⟩ = cs[k]?) ∧ Open P w n e cs) →
    ∃ (xs : List D) (vs : List Value), xs.length = len ∧ vs.length = len * P.cellsOf e ∧ VRs (simOf w) (xs.flatMap D.cells) vs ∧ (∀ c ∈ xs.flatMap D.cells, c.scalar = true) ∧ (∀ x ∈ xs, x.cells.length = P.cellsOf e) ∧ (∀ j, j < vs.length → w.cell? ⟨b, off + j, none⟩ = vs[j]?) ∧ ∀ x ∈ xs, ∃ l, hasT P n e l ∧ asD (aggB P e) l x
  | 0, _ => ⟨[], [], rfl, by simp, .nil, by simp, by simp, fun j h => by simp at h, by simp⟩
  | len + 1, h => by
    have hm' : (len + 1) * P.cellsOf e = len * P.cellsOf e + P.cellsOf e := by rw [Nat.add_mul, Nat.one_mul]
    obtain ⟨xs, vs, l1, l2, v, s, c, r, t⟩ := open_slice (spot := spot) hp len fun i hi => h i (by omega)
    obtain ⟨cs, cl, cr, ds, dv, dsc, dt, dl⟩ := h len (by omega)
    obtain ⟨x, hx⟩ := asD_mk P hp dl
    have hxc := asD_cells hx dsc
    refine ⟨xs ++ [x], vs ++ cs, by simp [l1], by simp; omega, ?_, ?_, ?_, ?_, ?_⟩
    · rw [List.flatMap_append]
      refine v.append ?_
      simpa [hxc] using dv
    · intro q hq
      rw [List.flatMap_append] at hq
      rcases List.mem_append.1 hq with hq | hq
      · exact s q hq
      · exact dsc q (by simpa [hxc] using hq)
    · intro q hq
      rcases List.mem_append.1 hq with hq | hq
      · exact c q hq
      · simp at hq; subst hq; rw [hxc]; exact dl
    · intro j hj
      rcases Nat.lt_or_ge j vs.length with hj' | hj'
      · rw [List.getElem?_append_left hj']; exact r j hj'
      · rw [List.getElem?_append_right hj']
        have := cr (j - vs.length) (by simp at hj; omega)
        rw [show len * P.cellsOf e + (j - vs.length) = j by omega] at this
        exact this
    · intro q hq
      rcases List.mem_append.1 hq with hq | hq
      · exact t q hq
      · simp at hq; subst hq; exact ⟨ds, dt, hx⟩

theorem open_cells : ∀ (n : Nat) (t : TypeId) (cs : List Value) (fuel : Nat) (x : DataW H × List MemPlace), plainB P n t = true → DataW.trod enc P w 0 sp held fuel t cs = some x → Open P w n t cs
  | 0, _, _, _, _, hp, _ => by cases hp
  | n + 1, t, cs, fuel, x, hp, h => by
    have ih := open_cells n
    have hp0 := hp
    unfold plainB at hp
    split at hp
    · rename_i hu
      obtain ⟨b, rfl, _⟩ := DataW.trod_bool hu h
      refine ⟨[.bool b], .cons (.bool b) .nil, by simp [D.scalar], ?_, by have : P.cellsOf t = 1 := by simpa using hp
                                                                          simp [this]⟩
      unfold hasT; rw [hu]; exact ⟨b, rfl⟩
    · rename_i k hu
      obtain ⟨z, rfl, _, hw⟩ := DataW.trod_int hu h
      refine ⟨[.int k z], .cons (.int k z) .nil, by simp [D.scalar], ?_, by have : P.cellsOf t = 1 := by simpa using hp
                                                                            simp [this]⟩
      unfold hasT; rw [hu]; exact ⟨z, rfl, hw⟩
    · rename_i e hu
      simp only [Bool.and_eq_true, beq_iff_eq, Nat.blt, Nat.ble_eq] at hp
      obtain ⟨hc1, hpe, hpos⟩ := hp
      rcases DataW.trod_slice hu h with ⟨rfl, _⟩ | ⟨a, len, cap, elems, rest, m, _, rfl, _, _, hlc, hcm, hel, hes, _, _⟩
      · refine ⟨[.frz [] .unk], .cons ?_ .nil, by simp [D.scalar], ?_, by simp [hc1]⟩
        · exact .frz (xs := []) (esz := 0) (a := none) (vs := []) (fun x h => by cases h) (fun x h => by cases h) .nil (.inl rfl) trivial (Nat.le_refl _) (fun _ => rfl)
        · unfold hasT; rw [hu]; exact ⟨[], rfl, by simp, fun x h => by cases h⟩
      · have hcells : ∀ i, i < len → ∃ cs, w.cells? 0 (a.add (i * P.cellsOf e)) (P.cellsOf e) = some cs ∧ Open P w n e cs := by
          intro i hi
          have := hes i hi
          rw [List.getElem?_eq_getElem (by omega)] at this
          obtain ⟨cs, h1, h2⟩ := Option.bind_eq_some_iff.1 this
          exact ⟨cs, h1, ih e cs m _ hpe h2⟩
        have hspot : len = 0 ∨ a.spot = none := by
          rcases Nat.eq_zero_or_pos len with h0 | h0
          · exact .inl h0
          · right
            obtain ⟨cs, h1, _⟩ := hcells 0 h0
            obtain ⟨_, hl, hc⟩ := World.cells?_some h1
            have := hc 0 (by omega)
            rw [List.getElem?_eq_getElem (by omega)] at this
            have hs := World.cell?_spot this
            simpa [Addr.add] using hs
        obtain ⟨ab, ao, as_⟩ := a
        obtain ⟨xs, vs, l1, l2, v, s, c, r, tt⟩ := open_slice (P := P) (w := w) (n := n) (e := e) (b := ab) (off := ao) (spot := none) hpe len fun i hi => by
          obtain ⟨cs, h1, h2⟩ := hcells i hi
          have hsp : as_ = none := by rcases hspot with h | h; omega; exact h
          subst hsp
          obtain ⟨_, hl, hc⟩ := World.cells?_some h1
          refine ⟨cs, hl, fun k hk => ?_, h2⟩
          rw [← hc k hk, add_plain, add_plain, Nat.add_assoc]
        subst l1
        refine ⟨[.frz xs .unk], .cons ?_ .nil, by simp [D.scalar], ?_, by simp [hc1]⟩
        · refine .frz (esz := P.cellsOf e) (vs := vs) c s (by rw [simOf_pure]; exact v) ?_ trivial hlc (fun h => by cases h)
          rcases hspot with h0 | h0
          · left
            rw [h0, Nat.zero_mul] at l2
            exact List.length_eq_zero_iff.1 l2
          · right
            refine ⟨⟨ab, ao, as_⟩, rfl, h0, fun j hj => ?_⟩
            show w.cell? ⟨ab, ao + j, none⟩ = _
            rw [r j hj, List.getElem?_eq_getElem hj]
        · unfold hasT; rw [hu]; exact ⟨xs, rfl, by omega, tt⟩
    · rename_i fs hu
      simp only [Bool.and_eq_true, List.all_eq_true] at hp
      obtain ⟨xs, m, _, _, hl, hxl, hf⟩ := DataW.trod_struct hu h
      obtain ⟨ds, v, s, _, tt⟩ := open_struct (P := P) (w := w) (n := n) (cs := cs) fs.toList 0 (P.cellsOf t) hp.1 hl.symm fun f hfm => by
        obtain ⟨i, hi, e⟩ := List.getElem_of_mem hfm
        have hi' : i < fs.size := by simpa using hi
        have := hf i f (by rw [Array.getElem?_eq_getElem hi', ← e]; simp)
        rw [List.getElem?_eq_getElem (by omega)] at this
        exact ih f.type _ m _ (hp.2 f hfm) this
      rw [List.drop_zero] at v
      refine ⟨ds, v, s, ?_, by rw [v.length, hl]⟩
      unfold hasT; rw [hu]
      refine ⟨by rw [v.length, hl], fun f hfm => ?_⟩
      have := (tt f hfm).2
      rwa [Nat.sub_zero] at this
    · rename_i m e hu
      simp only [Bool.and_eq_true, beq_iff_eq] at hp
      obtain ⟨xs, q, _, _, hl, hxl, hf⟩ := DataW.trod_array hu h
      obtain ⟨ds, v, s, l, tt⟩ := open_array (P := P) (w := w) (n := n) (e := e) (cs := cs) m (by omega) fun i hi => by
        have := hf i hi
        rw [List.getElem?_eq_getElem (by omega)] at this
        exact ih e _ q _ hp.2 this
      rw [List.take_of_length_le (by omega)] at v
      refine ⟨ds, v, s, ?_, by omega⟩
      unfold hasT; rw [hu]
      exact ⟨by omega, tt⟩
    · cases hp

/-- An argument. -/
def hasV (P : Program) (n : Nat) (t : TypeId) (d : D) : Prop := ∃ l, hasT P n t l ∧ asD (aggB P t) l d

theorem open_arg {n b0 : Nat} {t : TypeId} {v : Value} {d : DataW H} {ps : List MemPlace} (hp : plainB P n t = true) (hval : Value.okWide P w .any b0 t v) (h : DataW.Trod enc P w 0 sp held t v d ps) : ∃ e, VR (simOf w) e v ∧ hasV P n t e := by
  obtain ⟨fuel, hf⟩ := h
  obtain ⟨ds, hv, hs, ht, hl⟩ := open_cells n t _ fuel _ hp hf
  cases hagg : aggB P t with
  | true =>
    have : ∃ cs, v = .agg cs := by
      unfold aggB at hagg
      unfold Value.okWide at hval
      split at hagg
      · rename_i hu; rw [hu] at hval; obtain ⟨cs, e, _⟩ := hval; exact ⟨cs, e⟩
      · rename_i hu; rw [hu] at hval; obtain ⟨cs, e, _⟩ := hval; exact ⟨cs, e⟩
      · cases hagg
    obtain ⟨cs, rfl⟩ := this
    exact ⟨.agg ds, .agg hs (by simpa [Value.cells] using hv), ds, ht, by simp [asD, hagg]⟩
  | false =>
    obtain ⟨e, he⟩ := asD_mk P hp hl
    rw [hagg] at he
    simp only [asD, Bool.false_eq_true, if_false] at he
    subst he
    have hna : ∀ cs, v ≠ .agg cs := by
      rintro cs rfl
      unfold aggB at hagg
      have hc := hv
      cases n with
      | zero => cases hp
      | succ n =>
        unfold plainB at hp
        unfold Value.okWide at hval
        split at hp
        · rename_i hu; rw [hu] at hval; simp [Cell.okWide, hu, Cell.ok] at hval
        · rename_i hu; rw [hu] at hval; simp [Cell.okWide, hu, Cell.ok] at hval
        · rename_i hu; rw [hu] at hval; simp [Cell.okWide, hu, Cell.ok] at hval
        · rename_i hu; rw [hu] at hagg; cases hagg
        · rename_i hu; rw [hu] at hagg; cases hagg
        · cases hp
    have hvc : v.cells.toList = [v] := by
      cases v <;> first | rfl | exact absurd rfl (hna _)
    rw [hvc] at hv
    cases hv with
    | cons h1 _ => exact ⟨e, h1, [e], ht, by simp [asD, hagg]⟩

/-! ### The arguments read as before -/

theorem same_of_grown {w' : World} (hg : Grown w w') {p : MemPlace} (hp : p.block < w.heap.size) : w.sameAt w' p := by
  cases p with
  | cell b off => exact hg.1.cell hp (fun h => h)
  | map b =>
    have := hg.1.2.2 b hp
    show w'.heap[b]? = w.heap[b]?
    split at this
    · rename_i c t fr c' t' fr' h1 h2
      obtain ⟨rfl, rfl, hs, hc⟩ := this
      have : c' = c := by
        apply Array.ext hs
        intro i h1 h2
        have := hc i (fun h => h)
        rw [Array.getElem?_eq_getElem h1, Array.getElem?_eq_getElem h2] at this
        exact Option.some.inj this
      rw [h1, h2, this]
    · rename_i es ck es' ck' h1 h2
      rcases this with h | ⟨rfl, rfl⟩
      · exact h.elim
      · rw [h1, h2]
    · exact this

theorem args_stay (hl : laidOutB P = true) {w' : World} (hg : Grown w w') {sp' : Nat → Bool} : ∀ {ts : List TypeId} {vs : List Value} {ds : List (DataW H)} {ps : List MemPlace}, (∀ t ∈ ts, P.readableRec t = true ∧ t < P.types.size) → DataW.TrodAll enc P w 0 (fun _ => true) true ts vs ds ps → (∀ p ∈ ps, p.block < w.heap.size) → (∀ p ∈ ps, sp' p.block = true) → DataW.TrodAll enc P w' 0 sp' true ts vs ds ps
  | [], [], [], _, _, h, _, _ => h
  | _ :: _, _ :: _, _ :: _, _, ht, ⟨p, q, h1, h2, e⟩, hb, hs => by
    subst e
    exact ⟨p, q, WideElems.Trod_stays hl (ht _ (List.mem_cons_self ..)).1 (ht _ (List.mem_cons_self ..)).2 h1 (fun x hx => same_of_grown hg (hb x (List.mem_append_left _ hx))) (fun x hx => hs x (List.mem_append_left _ hx)),
      args_stay hl hg (fun t h => ht t (List.mem_cons_of_mem _ h)) h2 (fun x hx => hb x (List.mem_append_right _ hx)) (fun x hx => hs x (List.mem_append_right _ hx)), rfl⟩

theorem open_args {n b0 : Nat} : ∀ {ts : List TypeId} {vs : List Value} {ds : List (DataW H)} {ps : List MemPlace}, (∀ t ∈ ts, plainB P n t = true) → (∀ (j : Nat) t v, ts[j]? = some t → vs[j]? = some v → Value.okWide P w .any b0 t v) → DataW.TrodAll enc P w 0 sp held ts vs ds ps →
    ∃ es, VRs (simOf w) es vs ∧ es.length = ts.length ∧ ∀ (j : Nat) t d, ts[j]? = some t → es[j]? = some d → hasV P n t d
  | [], [], [], _, _, _, _ => ⟨[], .nil, rfl, fun j t d h => by simp at h⟩
  | t :: ts, v :: vs, d :: ds, _, hp, hv, ⟨p, q, h1, h2, _⟩ => by
    obtain ⟨e, he1, he2⟩ := open_arg (hp t (List.mem_cons_self ..)) (hv 0 t v rfl rfl) h1
    obtain ⟨es, k1, k2, k3⟩ := open_args (fun t h => hp t (List.mem_cons_of_mem _ h)) (fun j t v h h' => hv (j + 1) t v (by simpa using h) (by simpa using h')) h2
    refine ⟨e :: es, .cons he1 k1, by simp [k2], fun j t' d' h h' => ?_⟩
    cases j with
    | zero => simp at h h'; subst h; subst h'; exact he2
    | succ j => exact k3 j t' d' (by simpa using h) (by simpa using h')
end
end Go.Eng
