import Derived.Test.YtcogomacihefoaaKnH
set_option linter.unusedVariables false
set_option linter.unusedSimpArgs false
set_option linter.unusedSectionVars false
set_option linter.deprecated false
namespace Go.Eng.E3
open Go Go.Eng
set_option linter.unusedSimpArgs false
set_option linter.unusedVariables false
structure Eqr (mk : List (List Bool)) (n : Nat) : Prop where
  refl : ∀ s, s < n → mget mk s s = false
  symm : ∀ s t, s < n → t < n → mget mk s t = false → mget mk t s = false
  trans : ∀ s t u, s < n → t < n → u < n → mget mk s t = false → mget mk t u = false → mget mk s u = false
theorem lastB_spec {mk : List (List Bool)} {s : Nat} {out : List Int} : ∀ n, (∃ t, t < n ∧ mget mk s t = false ∧ lastB mk s out n = out.getD t 0) ∨ ((∀ t, t < n → mget mk s t = true) ∧ lastB mk s out n = -1)
  | 0 => .inr ⟨fun t h => by omega, rfl⟩
  | n + 1 => by
    rw [lastB]
    cases h : mget mk s n with
    | false => exact .inl ⟨n, by omega, h, by simp⟩
    | true =>
      simp only [if_true]
      rcases lastB_spec (mk := mk) (s := s) (out := out) n with ⟨t, h1, h2, h3⟩ | ⟨h1, h2⟩
      · exact .inl ⟨t, by omega, h2, h3⟩
      · refine .inr ⟨fun t ht => ?_, h2⟩
        rcases Nat.lt_or_ge t n with h' | h'
        · exact h1 t h'
        · have : t = n := by omega
          subst this; exact h
structure PI (mk : List (List Bool)) (k : Nat) (p : List Int × Nat) : Prop where
  l : p.1.length = k
  r : ∀ s, s < k → 0 ≤ p.1.getD s 0 ∧ p.1.getD s 0 < p.2
  e : ∀ s t, s < k → t < k → (p.1.getD s 0 = p.1.getD t 0 ↔ mget mk s t = false)
theorem getD_snoc_lt {α : Type} {l : List α} {x d : α} {i : Nat} (h : i < l.length) : (l ++ [x]).getD i d = l.getD i d := by simp [List.getElem?_append_left h]
theorem getD_snoc_eq {α : Type} {l : List α} {x d : α} {i : Nat} (h : i = l.length) : (l ++ [x]).getD i d = x := by subst h; simp
theorem partN_spec {mk : List (List Bool)} {n : Nat} (eq : Eqr mk n) : ∀ k, k ≤ n → PI mk k (partN mk k)
  | 0, _ => ⟨rfl, fun s h => by omega, fun s t h => by omega⟩
  | k + 1, hk => by
    obtain ⟨hl, hr, he⟩ := partN_spec eq k (by omega)
    have hkn : k < n := by omega
    rw [partN, partStep]
    generalize partN mk k = p at *
    have fin : ∀ (c : Int) (c2 : Nat), (0 ≤ c ∧ c < c2) → p.2 ≤ c2 → (∀ s, s < k → (p.1.getD s 0 = c ↔ mget mk s k = false)) → PI mk (k + 1) (p.1 ++ [c], c2) := by
      intro c c2 hc hc2 hs
      refine ⟨by simp [hl], fun s h => ?_, fun s t h1 h2 => ?_⟩
      · simp only
        rcases Nat.lt_or_ge s k with h' | h'
        · rw [getD_snoc_lt (by omega)]; have := hr s h'; omega
        · rw [getD_snoc_eq (by omega)]; exact hc
      · simp only
        rcases Nat.lt_or_ge s k with h1' | h1' <;> rcases Nat.lt_or_ge t k with h2' | h2'
        · rw [getD_snoc_lt (by omega), getD_snoc_lt (by omega)]; exact he s t h1' h2'
        · rw [getD_snoc_lt (by omega), getD_snoc_eq (by omega)]
          have : t = k := by omega
          subst this; exact hs s h1'
        · rw [getD_snoc_eq (by omega), getD_snoc_lt (by omega)]
          have : s = k := by omega
          subst this
          constructor
          · intro e; exact eq.symm _ _ (by omega) (by omega) ((hs t h2').1 e.symm)
          · intro e; exact ((hs t h2').2 (eq.symm _ _ (by omega) (by omega) e)).symm
        · have e1 : s = k := by omega
          have e2 : t = k := by omega
          rw [getD_snoc_eq (by omega), getD_snoc_eq (by omega), e1, e2]
          exact ⟨fun _ => eq.refl k hkn, fun _ => rfl⟩
    rcases lastB_spec (mk := mk) (s := k) (out := p.1) k with ⟨t, h1, h2, h3⟩ | ⟨h1, h2⟩
    · have hrt := hr t h1
      rw [if_neg (by omega), h3]
      refine fin _ _ hrt (Nat.le_refl _) fun s hs => ?_
      rw [he s t hs h1]
      constructor
      · intro e; exact eq.trans s t k (by omega) (by omega) hkn e (eq.symm _ _ hkn (by omega) h2)
      · intro e; exact eq.trans s k t (by omega) hkn (by omega) e h2
    · rw [if_pos (by omega)]
      refine fin _ _ ⟨by omega, by omega⟩ (by omega) fun s hs => ?_
      have := hr s hs
      constructor
      · intro e; omega
      · intro e
        have := h1 s hs
        rw [eq.symm s k (by omega) hkn e] at this
        cases this
theorem eqr_mark {m : M} (hv : Valid m) : Eqr (markN m m.rows.length) m.rows.length where
  refl s hs := (unmarked_iff hv hs hs).2 (Eqv.refl m s)
  symm s t hs ht h := (unmarked_iff hv ht hs).2 (((unmarked_iff hv hs ht).1 h).symm rfl)
  trans s t u hs ht hu h1 h2 := (unmarked_iff hv hs hu).2 (((unmarked_iff hv hs ht).1 h1).trans rfl ((unmarked_iff hv ht hu).1 h2))
def classM (m : M) (s : Int) : Int := (partM' m m.rows.length).getD s.toNat 0
theorem class_iff {m : M} (hv : Valid m) {s t : Int} (hs : 0 ≤ s ∧ s < m.rows.length) (ht : 0 ≤ t ∧ t < m.rows.length) : classM m s = classM m t ↔ Eqv m m s t := by
  obtain ⟨s, rfl⟩ := Int.eq_ofNat_of_zero_le hs.1
  obtain ⟨t, rfl⟩ := Int.eq_ofNat_of_zero_le ht.1
  have h1 : s < m.rows.length := by omega
  have h2 : t < m.rows.length := by omega
  unfold classM
  simp only [Int.toNat_natCast]
  rw [← unmarked_iff hv h1 h2]
  exact (partN_spec (eqr_mark hv) _ (Nat.le_refl _)).e s t h1 h2
theorem ins_sorted {l : List (List Nat)} {s : Nat} : ∀ {out : List Int}, out.Pairwise (fun a b => lessM (wordOf l a) (wordOf l b) = true) → (∀ o ∈ out, wordOf l o ≠ wordOf l s) → (insM l out s).Pairwise (fun a b => lessM (wordOf l a) (wordOf l b) = true)
  | [], _, _ => by simp [insM]
  | o :: out, hp, hne => by
    have hp' := List.pairwise_cons.1 hp
    unfold insM
    rw [List.takeWhile_cons, List.dropWhile_cons]
    cases hb : before l s o with
    | true =>
      simp only [if_true]
      have ih := ins_sorted (l := l) (s := s) hp'.2 (fun o ho => hne o (List.mem_cons_of_mem _ ho))
      unfold insM at ih
      rw [List.cons_append, List.cons_append, List.pairwise_cons]
      refine ⟨fun x hx => ?_, ih⟩
      rcases List.mem_append.1 hx with hx | hx
      · rcases List.mem_append.1 hx with hx | hx
        · exact hp'.1 x (List.takeWhile_subset _ hx)
        · simp at hx; subst hx; exact hb
      · exact hp'.1 x (List.dropWhile_subset _ hx)
    | false =>
      simp only [Bool.false_eq_true, if_false, List.nil_append, List.singleton_append]
      have hso : lessM (wordOf l s) (wordOf l o) = true := by
        rcases less_total (wordOf l s) (wordOf l o) with e | e | e
        · exact absurd e.symm (hne o (List.mem_cons_self ..))
        · exact e
        · unfold before at hb; rw [e] at hb; cases hb
      rw [List.pairwise_cons]
      refine ⟨fun x hx => ?_, hp⟩
      rcases List.mem_cons.1 hx with rfl | hx
      · exact hso
      · exact less_trans hso (hp'.1 x hx)
theorem insMemIff {l : List (List Nat)} {s : Nat} {out : List Int} {x : Int} : x ∈ insM l out s ↔ x = s ∨ x ∈ out := by
  unfold insM
  have h : x ∈ out ↔ x ∈ out.takeWhile (before l s) ∨ x ∈ out.dropWhile (before l s) := by
    rw [← List.mem_append, List.takeWhile_append_dropWhile]
  rw [h]
  simp only [List.mem_append, List.mem_singleton]
  constructor
  · rintro ((h | h) | h); exact .inr (.inl h); exact .inl h; exact .inr (.inr h)
  · rintro (h | h | h); exact .inl (.inr h); exact .inl (.inl h); exact .inr h
theorem ord_succ (l : List (List Nat)) (is : List Bool) (s : Nat) : ordN l is (s + 1) = ordStep l is (ordN l is s) s := by simp [ordN, List.range_succ]
theorem ord_mem {l : List (List Nat)} {is : List Bool} {x : Int} : ∀ k, x ∈ ordN l is k ↔ ∃ s, s < k ∧ is.getD s false = true ∧ x = (s : Nat)
  | 0 => by simp [ordN]
  | k + 1 => by
    rw [ord_succ, ordStep]
    cases h : is.getD k false with
    | true =>
      rw [if_pos rfl, insMemIff, ord_mem k]
      constructor
      · rintro (rfl | ⟨s, h1, h2, h3⟩)
        · exact ⟨k, by omega, h, rfl⟩
        · exact ⟨s, by omega, h2, h3⟩
      · rintro ⟨s, h1, h2, h3⟩
        rcases Nat.lt_or_ge s k with h' | h'
        · exact .inr ⟨s, h', h2, h3⟩
        · have : s = k := by omega
          subst this; exact .inl h3
    | false =>
      rw [if_neg (by simp), ord_mem k]
      constructor
      · rintro ⟨s, h1, h2, h3⟩; exact ⟨s, by omega, h2, h3⟩
      · rintro ⟨s, h1, h2, h3⟩
        rcases Nat.lt_or_ge s k with h' | h'
        · exact ⟨s, h', h2, h3⟩
        · have : s = k := by omega
          subst this; rw [h] at h2; cases h2
theorem ord_sorted {m : M} {f : Nat} {l : List (List Nat)} {is : List Bool} (ac : Acc m f l is) : ∀ k, k ≤ m.rows.length → (ordN l is k).Pairwise (fun a b => lessM (wordOf l a) (wordOf l b) = true)
  | 0, _ => by simp [ordN]
  | k + 1, hk => by
    have ih := ord_sorted ac k (by omega)
    rw [ord_succ, ordStep]
    cases h : is.getD k false with
    | false => rw [if_neg (by simp)]; exact ih
    | true =>
      rw [if_pos rfl]
      refine ins_sorted ih fun o ho e => ?_
      obtain ⟨s, h1, h2, rfl⟩ := (ord_mem k).1 ho
      have a1 := (ac.ok s (by omega) h2).2.1
      have a2 := (ac.ok k (by omega) h).2.1
      unfold wordOf at e
      simp only [Int.toNat_natCast] at e
      rw [e, a2] at a1
      omega
theorem there_iff {p l : List Int} {k : Nat} : ∀ n, thereM p l k n = true ↔ ∃ i, i < n ∧ clOf p l i = clOf p l k
  | 0 => by simp [thereM]
  | n + 1 => by
    rw [thereM, Bool.or_eq_true, there_iff n, decide_eq_true_eq]
    constructor
    · rintro (⟨i, h1, h2⟩ | h)
      · exact ⟨i, by omega, h2⟩
      · exact ⟨n, by omega, h⟩
    · rintro ⟨i, h1, h2⟩
      rcases Nat.lt_or_ge i n with h | h
      · exact .inl ⟨i, h, h2⟩
      · have : i = n := by omega
        subst this; exact .inr h2
theorem first_mem_iff {p l : List Int} {x : Int} : ∀ k, x ∈ firstN p l k ↔ ∃ i, i < k ∧ l.getD i 0 = x ∧ ∀ i', i' < i → clOf p l i' ≠ clOf p l i
  | 0 => by simp [firstN]
  | k + 1 => by
    rw [firstN]
    cases h : thereM p l k k with
    | true =>
      rw [if_pos rfl, first_mem_iff k]
      constructor
      · rintro ⟨i, h1, h2, h3⟩; exact ⟨i, by omega, h2, h3⟩
      · rintro ⟨i, h1, h2, h3⟩
        rcases Nat.lt_or_ge i k with h' | h'
        · exact ⟨i, h', h2, h3⟩
        · have : i = k := by omega
          subst this
          obtain ⟨i', h4, h5⟩ := (there_iff i).1 h
          exact absurd h5 (h3 i' h4)
    | false =>
      rw [if_neg (by simp), List.mem_append, first_mem_iff k, List.mem_singleton]
      have hn : ∀ i', i' < k → clOf p l i' ≠ clOf p l k := fun i' hi e => by
        have := (there_iff k).2 ⟨i', hi, e⟩
        rw [h] at this; cases this
      constructor
      · rintro (⟨i, h1, h2, h3⟩ | rfl)
        · exact ⟨i, by omega, h2, h3⟩
        · exact ⟨k, by omega, rfl, hn⟩
      · rintro ⟨i, h1, h2, h3⟩
        rcases Nat.lt_or_ge i k with h' | h'
        · exact .inl ⟨i, h', h2, h3⟩
        · have : i = k := by omega
          subst this; exact .inr h2.symm
theorem first_sub {p l : List Int} : ∀ k, k ≤ l.length → (firstN p l k).Sublist (l.take k)
  | 0, _ => by simp [firstN]
  | k + 1, hk => by
    have ih := first_sub (p := p) (l := l) k (by omega)
    have e : l.take (k + 1) = l.take k ++ [l.getD k 0] := by
      rw [List.take_succ_eq_append_getElem (by omega)]
      simp [show k < l.length by omega]
    rw [firstN, e]
    split
    · exact ih.trans (List.sublist_append_left _ _)
    · exact ih.append (List.Sublist.refl _)
def CW (m : M) (w : List Nat) : Prop := Wok m w ∧ 0 ≤ aftM m 0 w ∧ ∀ w', Wok m w' → lessM w' w = true → 0 ≤ aftM m 0 w' → ¬ Eqv m m (aftM m 0 w') (aftM m 0 w)
def leadW (m : M) (j : Nat) : List (List Nat) := (firstsM m j).map (wordOf (lev m 0 j).l)
section
variable {m : M} (hv : Valid m) {j : Nat} (hj : (lev m 0 j).more = [])
include hv hj
theorem accM : Acc m 0 (lev m 0 j).l (lev m 0 j).is := acc_lev hv (by have := hv.r1; omega) hj
theorem lead_sorted : (leadW m j).Pairwise (fun u v => lessM u v = true) := by
  unfold leadW
  rw [List.pairwise_map]
  have h := ord_sorted (accM hv hj) m.rows.length (Nat.le_refl _)
  unfold firstsM
  generalize ordN (lev m 0 j).l (lev m 0 j).is m.rows.length = l at h ⊢
  have hs := first_sub (p := partM' m m.rows.length) (l := l) l.length (Nat.le_refl _)
  rw [List.take_length] at hs
  exact h.sublist hs
theorem first_iff {x : Int} : x ∈ firstsM m j ↔ ∃ s : Nat, s < m.rows.length ∧ (lev m 0 j).is.getD s false = true ∧ x = s ∧ CW m ((lev m 0 j).l.getD s []) := by
  have ac := accM hv hj
  have hsort := ord_sorted ac m.rows.length (Nat.le_refl _)
  have hmem := fun x => ord_mem (l := (lev m 0 j).l) (is := (lev m 0 j).is) (x := x) m.rows.length
  unfold firstsM
  rw [first_mem_iff]
  generalize ordN (lev m 0 j).l (lev m 0 j).is m.rows.length = l at hsort hmem ⊢
  generalize (lev m 0 j).l = wl at *
  generalize (lev m 0 j).is = is at *
  have clO : ∀ i, clOf (partM' m m.rows.length) l i = classM m (l.getD i 0) := fun i => rfl
  have at_ : ∀ i, i < l.length → ∃ s : Nat, s < m.rows.length ∧ is.getD s false = true ∧ l.getD i 0 = (s : Nat) := fun i hi => by
    have : l.getD i 0 = l[i] := by simp [hi]
    rw [this]
    exact (hmem _).1 (List.getElem_mem hi)
  have lt_of : ∀ i i', i < l.length → i' < l.length → lessM (wordOf wl (l.getD i 0)) (wordOf wl (l.getD i' 0)) = true → i < i' := fun i i' hi hi' hl => by
    rcases Nat.lt_trichotomy i i' with h | h | h
    · exact h
    · subst h; rw [less_irrefl] at hl; cases hl
    · have := (List.pairwise_iff_getElem.1 hsort) i' i hi' hi h
      simp only [List.getD_eq_getElem?_getD, List.getElem?_eq_getElem hi, List.getElem?_eq_getElem hi', Option.getD_some] at hl
      rw [less_asymm this] at hl; cases hl
  constructor
  · rintro ⟨i, hi, hx, hn⟩
    obtain ⟨s, hs, his, e⟩ := at_ i hi
    refine ⟨s, hs, his, by rw [← hx, e], ?_⟩
    obtain ⟨a1, a2, a3⟩ := ac.ok s hs his
    rw [show ((0 : Nat) : Int) = 0 from rfl] at a2
    refine ⟨a1, by rw [a2]; omega, fun w' hw' hl h0 he => ?_⟩
    rw [a2] at he
    have hst : StOk m (aftM m 0 w') := aftOk hv (.inr ⟨by omega, by have := hv.r1; omega⟩) hw'
    obtain ⟨t, ht⟩ := Int.eq_ofNat_of_zero_le h0
    have htn : t < m.rows.length := by rcases hst with e | e <;> omega
    have hit := ac.all w' hw' h0
    rw [show ((0 : Nat) : Int) = 0 from rfl, ht] at hit
    simp only [Int.toNat_natCast] at hit
    obtain ⟨b1, b2, b3⟩ := ac.ok t htn hit
    have htl : ((t : Nat) : Int) ∈ l := (hmem _).2 ⟨t, htn, hit, rfl⟩
    obtain ⟨i', hi', e'⟩ := List.getElem_of_mem htl
    have e'' : l.getD i' 0 = (t : Nat) := by simp [hi', e']
    have hlt : i' < i := by
      refine lt_of i' i hi' hi ?_
      rw [e, e'']
      show lessM (wl.getD t []) (wl.getD s []) = true
      rcases le_of (b3 w' hw' ht) with h | h
      · rw [h]; exact hl
      · exact less_trans h hl
    refine hn i' hlt ?_
    rw [clO, clO, e, e'', class_iff hv ⟨by omega, by omega⟩ ⟨by omega, by omega⟩, ← ht]
    exact he
  · rintro ⟨s, hs, his, rfl, hc⟩
    obtain ⟨c1, c2, c3⟩ := hc
    obtain ⟨a1, a2, a3⟩ := ac.ok s hs his
    rw [show ((0 : Nat) : Int) = 0 from rfl] at a2
    obtain ⟨i, hi, e⟩ := List.getElem_of_mem ((hmem _).2 ⟨s, hs, his, rfl⟩)
    have e' : l.getD i 0 = (s : Nat) := by simp [hi, e]
    refine ⟨i, hi, e', fun i' hi' he => ?_⟩
    obtain ⟨t, ht, hit, et⟩ := at_ i' (by omega)
    obtain ⟨b1, b2, b3⟩ := ac.ok t ht hit
    rw [show ((0 : Nat) : Int) = 0 from rfl] at b2
    rw [clO, clO, e', et, class_iff hv ⟨by omega, by omega⟩ ⟨by omega, by omega⟩] at he
    refine c3 _ b1 ?_ (by rw [b2]; omega) (by rw [a2, b2]; exact he)
    have := (List.pairwise_iff_getElem.1 hsort) i' i (by omega) hi hi'
    simp only [List.getD_eq_getElem?_getD, List.getElem?_eq_getElem hi, List.getElem?_eq_getElem (show i' < l.length by omega), Option.getD_some] at e' et
    rw [e', et] at this
    exact this
theorem lead_iff {w : List Nat} : w ∈ leadW m j ↔ CW m w := by
  have ac := accM hv hj
  unfold leadW
  rw [List.mem_map]
  constructor
  · rintro ⟨x, hx, rfl⟩
    obtain ⟨s, _, _, rfl, hc⟩ := (first_iff hv hj).1 hx
    exact hc
  · intro hc
    obtain ⟨c1, c2, c3⟩ := id hc
    have hst : StOk m (aftM m 0 w) := aftOk hv (.inr ⟨by omega, by have := hv.r1; omega⟩) c1
    obtain ⟨t, ht⟩ := Int.eq_ofNat_of_zero_le c2
    have htn : t < m.rows.length := by rcases hst with e | e <;> omega
    have hit := ac.all w c1 c2
    rw [show ((0 : Nat) : Int) = 0 from rfl, ht] at hit
    simp only [Int.toNat_natCast] at hit
    obtain ⟨b1, b2, b3⟩ := ac.ok t htn hit
    rw [show ((0 : Nat) : Int) = 0 from rfl] at b2 b3
    have hw : (lev m 0 j).l.getD t [] = w := by
      rcases le_of (b3 w c1 ht) with h | h
      · exact h
      · exact absurd (by rw [b2, ht]; exact Eqv.refl m _) (c3 _ b1 h (by rw [b2]; omega))
    exact ⟨(t : Nat), (first_iff hv hj).2 ⟨t, htn, hit, rfl, by rw [hw]; exact hc⟩, hw⟩
theorem lead_aft {k : Nat} (hk : k < (firstsM m j).length) : aftM m 0 ((leadW m j).getD k []) = (firstsM m j).getD k 0 ∧ Wok m ((leadW m j).getD k []) ∧ 0 ≤ (firstsM m j).getD k 0 ∧ (firstsM m j).getD k 0 < m.rows.length := by
  have ac := accM hv hj
  have e : (firstsM m j).getD k 0 = (firstsM m j)[k] := by simp [hk]
  obtain ⟨s, hs, his, es, hc⟩ := (first_iff hv hj).1 (List.getElem_mem hk)
  have ew : (leadW m j).getD k [] = (lev m 0 j).l.getD s [] := by
    unfold leadW
    simp [hk, wordOf, es]
  obtain ⟨b1, b2, b3⟩ := ac.ok s hs his
  rw [e, ew, es]
  exact ⟨b2, b1, by omega, by omega⟩
end
theorem sorted_unique : ∀ {a b : List (List Nat)}, a.Pairwise (fun u v => lessM u v = true) → b.Pairwise (fun u v => lessM u v = true) → (∀ w, w ∈ a ↔ w ∈ b) → a = b
  | [], [], _, _, _ => rfl
  | [], w :: b, _, _, h => by have := (h w).2 (List.mem_cons_self ..); cases this
  | w :: a, [], _, _, h => by have := (h w).1 (List.mem_cons_self ..); cases this
  | u :: a, v :: b, ha, hb, h => by
    have ha' := List.pairwise_cons.1 ha
    have hb' := List.pairwise_cons.1 hb
    have e : u = v := by
      rcases List.mem_cons.1 ((h u).1 (List.mem_cons_self ..)) with e | e
      · exact e
      · rcases List.mem_cons.1 ((h v).2 (List.mem_cons_self ..)) with e' | e'
        · exact e'.symm
        · have h1 := hb'.1 u e
          have h2 := ha'.1 v e'
          have := less_trans h1 h2
          rw [less_irrefl] at this; cases this
    subst e
    congr 1
    refine sorted_unique ha'.2 hb'.2 fun w => ?_
    constructor
    · intro hw
      rcases List.mem_cons.1 ((h w).1 (List.mem_cons_of_mem _ hw)) with e | e
      · subst e; have := ha'.1 _ hw; rw [less_irrefl] at this; cases this
      · exact e
    · intro hw
      rcases List.mem_cons.1 ((h w).2 (List.mem_cons_of_mem _ hw)) with e | e
      · subst e; have := hb'.1 _ hw; rw [less_irrefl] at this; cases this
      · exact e
theorem CW.cross {a b : M} (ha : Valid a) (hb : Valid b) (hi : a.ins = b.ins) (h : Eqv a b 0 0) {w : List Nat} (hw : CW a w) : CW b w := by
  have s0a : StOk a 0 := .inr ⟨by omega, by have := ha.r1; omega⟩
  have s0b : StOk b 0 := .inr ⟨by omega, by have := hb.r1; omega⟩
  have wk : ∀ {w}, Wok b w → Wok a w := fun h => by unfold Wok at *; rw [hi]; exact h
  have wk' : ∀ {w}, Wok a w → Wok b w := fun h => by unfold Wok at *; rw [← hi]; exact h
  obtain ⟨c1, c2, c3⟩ := hw
  have sg : ∀ {w}, Wok a w → (aftM a 0 w < 0 ↔ aftM b 0 w < 0) := fun hw => h.sign ha hb hi s0a s0b Iff.rfl hw
  refine ⟨wk' c1, by have := sg c1; omega, fun w' hw' hl h0 he => ?_⟩
  refine c3 w' (wk hw') hl (by have := sg (wk hw'); omega) ?_
  have e1 := h.aft (wk hw')
  have e2 := h.aft c1
  exact (e1.trans hi he).trans hi (e2.symm hi)
theorem lead_eq {a b : M} (ha : Valid a) (hb : Valid b) (hi : a.ins = b.ins) (h : Eqv a b 0 0) {j j' : Nat} (hj : (lev a 0 j).more = []) (hj' : (lev b 0 j').more = []) : leadW a j = leadW b j' :=
  sorted_unique (lead_sorted ha hj) (lead_sorted hb hj') fun w => by
    rw [lead_iff ha hj, lead_iff hb hj']
    exact ⟨fun hc => hc.cross ha hb hi h, fun hc => hc.cross hb ha hi.symm (h.symm hi)⟩
def Closed (m : M) (o : List Bool) : Prop := ∀ s i, s < m.rows.length → i < m.ins → o.getD s false = true → 0 ≤ (edge m s i).1 → o.getD (edge m s i).1.toNat false = true
def LeB (a b : List Bool) : Prop := a.length = b.length ∧ ∀ s, a.getD s false = true → b.getD s false = true
theorem LeB.refl (a : List Bool) : LeB a a := ⟨rfl, fun _ h => h⟩
theorem LeB.trans {a b c : List Bool} (h : LeB a b) (h' : LeB b c) : LeB a c := ⟨h.1.trans h'.1, fun s hs => h'.2 s (h.2 s hs)⟩
theorem relax_le (m : M) (s : Nat) (o : List Bool) (i : Nat) : LeB o (relaxM m s o i) := by
  unfold relaxM
  split
  · refine ⟨by simp, fun t ht => ?_⟩
    by_cases h : (edge m s i).1.toNat = t
    · subst h
      by_cases hl : (edge m s i).1.toNat < o.length
      · exact getD_set_self hl _ _
      · simp [List.getD_eq_getElem?_getD, List.getElem?_eq_none (show o.length ≤ (edge m s i).1.toNat by omega)] at ht
    · rw [getD_set_ne h]; exact ht
  · exact LeB.refl o
theorem row_le (m : M) (s : Nat) (o : List Bool) : ∀ i, LeB o (rowRel m s o i)
  | 0 => by simp [rowRel, LeB.refl]
  | i + 1 => by rw [rowRel_succ]; exact (row_le m s o i).trans (relax_le m s _ i)
theorem round_le (m : M) (o : List Bool) : ∀ s, LeB o (roundRel m o s)
  | 0 => by simp [roundRel, LeB.refl]
  | s + 1 => by rw [roundRel_succ]; exact (round_le m o s).trans (row_le m s _ m.ins)
theorem leB_count : ∀ {a b : List Bool}, LeB a b → a = b ∨ a.count true < b.count true
  | [], [], _ => .inl rfl
  | x :: a, y :: b, h => by
    have h' : LeB a b := ⟨by have := h.1; simpa using this, fun s hs => by have := h.2 (s + 1); simpa using this (by simpa using hs)⟩
    have h0 : x = true → y = true := fun e => by have := h.2 0; simpa using this (by simpa using e)
    have le : a.count true ≤ b.count true := by rcases leB_count h' with e | e; rw [e]; exact Nat.le_refl _; omega
    cases x with
    | true =>
      rw [h0 rfl]
      rcases leB_count h' with e | e
      · exact .inl (by rw [e])
      · right; simp; omega
    | false =>
      cases y with
      | true => right; simp; omega
      | false =>
        rcases leB_count h' with e | e
        · exact .inl (by rw [e])
        · right; simpa using e
  | [], _ :: _, h => by have := h.1; simp at this
  | _ :: _, [], h => by have := h.1; simp at this
theorem LeB.antisymm {a b : List Bool} (h : LeB a b) (h' : LeB b a) : a = b := by
  rcases leB_count h with e | e
  · exact e
  · rcases leB_count h' with e' | e'
    · exact e'.symm
    · omega
theorem closed_of_stable {m : M} (hv : Valid m) {o : List Bool} (hl : o.length = m.rows.length) (h : roundRel m o m.rows.length = o) : Closed m o := by
  intro s i hs hi hos h0
  have e1 : ∀ d s, s + d = m.rows.length → roundRel m o s = o := by
    intro d
    induction d with
    | zero => intro s hsd; rw [show s = m.rows.length by omega]; exact h
    | succ d ih =>
      intro s hsd
      have h1 := ih (s + 1) (by omega)
      rw [roundRel_succ] at h1
      have h2 := row_le m s (roundRel m o s) m.ins
      rw [h1] at h2
      exact (LeB.antisymm (round_le m o s) h2).symm
  have e2 := e1 (m.rows.length - (s + 1)) (s + 1) (by omega)
  rw [roundRel_succ, e1 (m.rows.length - s) s (by omega)] at e2
  have e3 : ∀ d i, i + d = m.ins → rowRel m s o i = o := by
    intro d
    induction d with
    | zero => intro i hid; rw [show i = m.ins by omega]; exact e2
    | succ d ih =>
      intro i hid
      have h1 := ih (i + 1) (by omega)
      rw [rowRel_succ] at h1
      have h2 := relax_le m s (rowRel m s o i) i
      rw [h1] at h2
      exact (LeB.antisymm (row_le m s o i) h2).symm
  have e4 := e3 (m.ins - (i + 1)) (i + 1) (by omega)
  rw [rowRel_succ, e3 (m.ins - i) i (by omega)] at e4
  unfold relaxM at e4
  rw [hos, decide_eq_true h0] at e4
  simp only [Bool.and_true, if_true] at e4
  rw [← e4]
  have e5 := (edge_ok hv hs hi).st
  exact getD_set_self (by rcases e5 with e | e <;> omega) _ _
theorem reachN_le (m : M) (o : List Bool) : ∀ k, LeB o (reachN m o k)
  | 0 => by simp [reachN, LeB.refl]
  | k + 1 => by rw [reachN_succ]; exact (reachN_le m o k).trans (round_le m _ _)
theorem closed_reachN {m : M} (hv : Valid m) {o : List Bool} (hl : o.length = m.rows.length) (hc : 0 < o.count true) : Closed m (reachN m o m.rows.length) := by
  have key : ∀ k, roundRel m (reachN m o k) m.rows.length = reachN m o k ∨ k + 1 ≤ (reachN m o k).count true := by
    intro k
    induction k with
    | zero => right; simpa [reachN] using hc
    | succ k ih =>
      rw [reachN_succ]
      rcases ih with e | e
      · left; rw [e, e]
      · rcases leB_count (round_le m (reachN m o k) m.rows.length) with e' | e'
        · left; rw [← e', ← e']
        · right; omega
  rcases key m.rows.length with e | e
  · exact closed_of_stable hv ((reachN_le m o _).1.symm.trans hl) e
  · have := List.count_le_length (a := true) (l := reachN m o m.rows.length)
    have h1 := (reachN_le m o m.rows.length).1
    omega
theorem reach_all {m : M} (hv : Valid m) {f : Nat} (hf : f < m.rows.length) : ∀ {w : List Nat} {s : Int}, Wok m w → 0 ≤ s → s < m.rows.length → (reachM m f).getD s.toNat false = true → 0 ≤ aftM m s w → (reachM m f).getD (aftM m s w).toNat false = true
  | [], s, _, _, _, h, _ => h
  | i :: w, s, hw, h1, h2, h, h0 => by
    have hw' := Wok.cons.1 hw
    obtain ⟨n, rfl⟩ := Int.eq_ofNat_of_zero_le h1
    have hn : n < m.rows.length := by omega
    rw [aftM, nextM_nat] at h0 ⊢
    have e1 := (edge_ok hv hn hw'.1).st
    have h3 : 0 ≤ (edge m n i).1 := by
      rcases Int.lt_or_le (edge m n i).1 0 with h | h
      · have := aft_neg (m := m) w h; omega
      · exact h
    have hcl : Closed m (reachM m f) := closed_reachN hv (by simp) (by
      rw [List.count_set (by simpa using hf)]; simp)
    exact reach_all hv hf hw'.2 h3 (by rcases e1 with e | e <;> omega) (hcl n i hn hw'.1 (by simpa using h) h3) h0
theorem reach_word {m : M} (hv : Valid m) {w : List Nat} (hw : Wok m w) (h0 : 0 ≤ aftM m 0 w) : (reachM m 0).getD (aftM m 0 w).toNat false = true := by
  have r1 := hv.r1
  refine reach_all hv (by omega) hw (by omega) (by omega) ?_ h0
  have := (reachN_le m ((List.replicate m.rows.length false).set 0 true) m.rows.length).2 0 (getD_set_self (by simp; omega) _ _)
  exact this
end Go.Eng.E3
namespace Go.Eng.E3
open Go Go.Eng
set_option linter.unusedSimpArgs false
set_option linter.unusedVariables false
theorem lastK_spec {p l : List Int} {is : List Bool} {s : Nat} : ∀ n, (∃ i, i < n ∧ is.getD s false = true ∧ clOf p l i = p.getD s 0 ∧ lastK p l is s n = (i : Nat)) ∨ ∀ i, i < n → ¬ (is.getD s false = true ∧ clOf p l i = p.getD s 0)
  | 0 => .inr fun i h => by omega
  | n + 1 => by
    rw [lastK]
    by_cases h : is.getD s false = true ∧ clOf p l n = p.getD s 0
    · refine .inl ⟨n, by omega, h.1, h.2, ?_⟩
      rw [h.1, h.2]; simp
    · have h' : (is.getD s false && decide (clOf p l n = p.getD s 0)) = false := by
        rw [Bool.eq_false_iff]; intro e
        simp only [Bool.and_eq_true, decide_eq_true_eq] at e
        exact h e
      rw [h']
      simp only [Bool.false_eq_true, if_false]
      rcases lastK_spec (p := p) (l := l) (is := is) (s := s) n with ⟨i, h1, h2, h3, h4⟩ | hn
      · exact .inl ⟨i, by omega, h2, h3, h4⟩
      · refine .inr fun i hi e => ?_
        rcases Nat.lt_or_ge i n with h' | h'
        · exact hn i h' e
        · have : i = n := by omega
          subst this; exact h e
def toM (m : M) (j : Nat) : List Int := mapN (partM' m m.rows.length) (firstsM m j) (reachM m 0) m.rows.length
section
variable {m : M} (hv : Valid m) {j : Nat} (hj : (lev m 0 j).more = [])
include hv hj
theorem lead_len : (leadW m j).length = (firstsM m j).length := by simp [leadW]
theorem first_uniq {k k' : Nat} (hk : k < (firstsM m j).length) (hk' : k' < (firstsM m j).length) (h : Eqv m m ((firstsM m j).getD k 0) ((firstsM m j).getD k' 0)) : k = k' := by
  have hl := lead_len hv hj
  have main : ∀ k k', k < (firstsM m j).length → k' < (firstsM m j).length → k < k' → ¬ Eqv m m ((firstsM m j).getD k 0) ((firstsM m j).getD k' 0) := by
    intro k k' hk hk' hlt h
    have h1 := (List.pairwise_iff_getElem.1 (lead_sorted hv hj)) k k' (by omega) (by omega) hlt
    have c' : CW m ((leadW m j)[k']'(by omega)) := (lead_iff hv hj).1 (List.getElem_mem _)
    obtain ⟨a1, a2, a3, a4⟩ := lead_aft hv hj hk
    obtain ⟨b1, b2, b3, b4⟩ := lead_aft hv hj hk'
    have e1 : (leadW m j).getD k [] = (leadW m j)[k]'(by omega) := by simp [show k < (leadW m j).length by omega]
    have e2 : (leadW m j).getD k' [] = (leadW m j)[k']'(by omega) := by simp [show k' < (leadW m j).length by omega]
    rw [e1] at a1 a2
    rw [e2] at b1 b2
    exact c'.2.2 _ a2 h1 (by rw [a1]; exact a3) (by rw [a1, b1]; exact h)
  rcases Nat.lt_trichotomy k k' with e | e | e
  · exact absurd h (main k k' hk hk' e)
  · exact e
  · exact absurd (h.symm rfl) (main k' k hk' hk e)
theorem first_cover {w : List Nat} (hw : Wok m w) (h0 : 0 ≤ aftM m 0 w) : ∃ k, k < (firstsM m j).length ∧ Eqv m m ((firstsM m j).getD k 0) (aftM m 0 w) := by
  have ac := accM hv hj
  have hst : StOk m (aftM m 0 w) := aftOk hv (.inr ⟨by omega, by have := hv.r1; omega⟩) hw
  obtain ⟨t, ht⟩ := Int.eq_ofNat_of_zero_le h0
  have htn : t < m.rows.length := by rcases hst with e | e <;> omega
  have hit := ac.all w hw h0
  rw [show ((0 : Nat) : Int) = 0 from rfl, ht] at hit
  simp only [Int.toNat_natCast] at hit
  have hmem := fun x => ord_mem (l := (lev m 0 j).l) (is := (lev m 0 j).is) (x := x) m.rows.length
  have hf := fun x => first_mem_iff (p := partM' m m.rows.length) (l := ordN (lev m 0 j).l (lev m 0 j).is m.rows.length) (x := x) (ordN (lev m 0 j).l (lev m 0 j).is m.rows.length).length
  have hfm : ∀ x, x ∈ firstsM m j ↔ _ := hf
  generalize ordN (lev m 0 j).l (lev m 0 j).is m.rows.length = l at hmem hfm
  obtain ⟨i, hi, e⟩ := List.getElem_of_mem ((hmem _).2 ⟨t, htn, hit, rfl⟩)
  have e' : l.getD i 0 = (t : Nat) := by simp [hi, e]
  obtain ⟨i', h1, h2, h3⟩ := exists_least (P := fun i' => clOf (partM' m m.rows.length) l i' = clOf (partM' m m.rows.length) l i) (n := i) rfl
  have hx : l.getD i' 0 ∈ firstsM m j := (hfm _).2 ⟨i', by omega, rfl, fun i'' hi'' e => h3 i'' hi'' (e.trans h2)⟩
  obtain ⟨s, hs, his, es⟩ := (hmem (l.getD i' 0)).1 (by
    have : l.getD i' 0 = l[i']'(by omega) := by simp [show i' < l.length by omega]
    rw [this]; exact List.getElem_mem _)
  obtain ⟨k, hk, ek⟩ := List.getElem_of_mem hx
  refine ⟨k, hk, ?_⟩
  have ek' : (firstsM m j).getD k 0 = (s : Nat) := by rw [← es, ← ek]; simp [hk]
  rw [ek', ht, ← class_iff hv ⟨by omega, by omega⟩ ⟨by omega, by omega⟩]
  have c1 : clOf (partM' m m.rows.length) l i' = classM m (l.getD i' 0) := rfl
  have c2 : clOf (partM' m m.rows.length) l i = classM m (l.getD i 0) := rfl
  rw [c1, c2, es, e'] at h2
  exact h2
theorem to_spec {w : List Nat} (hw : Wok m w) (h0 : 0 ≤ aftM m 0 w) : ∃ k, k < (firstsM m j).length ∧ (toM m j).getD (aftM m 0 w).toNat 0 = (k : Nat) ∧ Eqv m m ((firstsM m j).getD k 0) (aftM m 0 w) := by
  have hst : StOk m (aftM m 0 w) := aftOk hv (.inr ⟨by omega, by have := hv.r1; omega⟩) hw
  have hr := reach_word hv hw h0
  obtain ⟨k, hk, he⟩ := first_cover hv hj hw h0
  obtain ⟨t, ht⟩ := Int.eq_ofNat_of_zero_le h0
  have htn : t < m.rows.length := by rcases hst with e | e <;> omega
  rw [ht] at hr he ⊢
  simp only [Int.toNat_natCast] at hr ⊢
  have e1 : (toM m j).getD t 0 = lastK (partM' m m.rows.length) (firstsM m j) (reachM m 0) t (firstsM m j).length := by
    simp [toM, mapN, htn]
  rw [e1]
  have cl : ∀ i, clOf (partM' m m.rows.length) (firstsM m j) i = classM m ((firstsM m j).getD i 0) := fun i => rfl
  have ct : (partM' m m.rows.length).getD t 0 = classM m (t : Nat) := rfl
  rcases lastK_spec (p := partM' m m.rows.length) (l := firstsM m j) (is := reachM m 0) (s := t) (firstsM m j).length with ⟨i, h1, h2, h3, h4⟩ | h
  · refine ⟨i, h1, h4, ?_⟩
    obtain ⟨a1, a2, a3, a4⟩ := lead_aft hv hj h1
    rw [cl, ct, class_iff hv ⟨a3, a4⟩ ⟨by omega, by omega⟩] at h3
    exact h3
  · obtain ⟨a1, a2, a3, a4⟩ := lead_aft hv hj hk
    exact absurd ⟨hr, by rw [cl, ct, class_iff hv ⟨a3, a4⟩ ⟨by omega, by omega⟩]; exact he⟩ (h k hk)
theorem first_zero : 0 < (firstsM m j).length ∧ (firstsM m j).getD 0 0 = 0 := by
  have c : CW m [] := ⟨Wok.nil, by simp [aftM], fun w' _ hl => by rw [less_iff] at hl; rcases hl with h | h; · simp at h
                                                                  · have : w' = [] := List.length_eq_zero_iff.1 (by simpa using h.1)
                                                                    subst this; have := h.2; cases this⟩
  have hm := (lead_iff hv hj).2 c
  obtain ⟨k, hk, e⟩ := List.getElem_of_mem hm
  have hl := lead_len hv hj
  have hk0 : k = 0 := by
    rcases Nat.eq_zero_or_pos k with h | h
    · exact h
    · exfalso
      have := (List.pairwise_iff_getElem.1 (lead_sorted hv hj)) 0 k (by omega) hk h
      rw [e, less_iff] at this
      rcases this with h | ⟨h1, h2⟩
      · simp at h
      · have : (leadW m j)[0]'(by omega) = [] := List.length_eq_zero_iff.1 (by simpa using h1)
        rw [this] at h2; cases h2
  subst hk0
  have hL : 0 < (firstsM m j).length := by omega
  obtain ⟨a1, _⟩ := lead_aft hv hj hL
  have e' : (leadW m j).getD 0 [] = [] := by simp [show 0 < (leadW m j).length by omega, e]
  rw [e'] at a1
  exact ⟨hL, a1.symm⟩
end
def minR (m : M) (j : Nat) : List (List (Int × Int)) := minRows m (toM m j) (firstsM m j) (firstsM m j).length
theorem minR_iff {a b : M} {j j' : Nat} (hi : a.ins = b.ins) : minR a j = minR b j' ↔ (firstsM a j).length = (firstsM b j').length ∧ ∀ k i, k < (firstsM a j).length → i < a.ins → moveE (toM a j) (edge a ((firstsM a j).getD k 0).toNat i) = moveE (toM b j') (edge b ((firstsM b j').getD k 0).toNat i) := by
  unfold minR minRows minRow
  constructor
  · intro h
    have hl : (firstsM a j).length = (firstsM b j').length := by simpa using congrArg List.length h
    refine ⟨hl, fun k i hk hi' => ?_⟩
    have h1 := congrArg (fun l => (l.getD k []).getD i (0, 0)) h
    simpa [hk, hi', show k < (firstsM b j').length by omega, show i < b.ins by omega] using h1
  · rintro ⟨hl, h⟩
    rw [← hl]
    refine List.map_congr_left fun k hk => ?_
    rw [← hi]
    exact List.map_congr_left fun i hi' => h k i (List.mem_range.1 hk) (List.mem_range.1 hi')
theorem min_iff {a b : M} (ha : Valid a) (hb : Valid b) (hi : a.ins = b.ins) {j j' : Nat} (hj : (lev a 0 j).more = []) (hj' : (lev b 0 j').more = []) : minR a j = minR b j' ↔ Eqv a b 0 0 := by
  rw [minR_iff hi]
  constructor
  · rintro ⟨hl, h⟩
    have key : ∀ (w : List Nat) (k : Nat), Wok a w → k < (firstsM a j).length → runM a ((firstsM a j).getD k 0) w = runM b ((firstsM b j').getD k 0) w := by
      intro w
      induction w with
      | nil => intro k _ _; rfl
      | cons i w ih =>
        intro k hw hk
        have hw' := Wok.cons.1 hw
        have hk' : k < (firstsM b j').length := by omega
        have hm := h k i hk hw'.1
        obtain ⟨a1, a2, a3, a4⟩ := lead_aft ha hj hk
        obtain ⟨b1, b2, b3, b4⟩ := lead_aft hb hj' hk'
        rw [runM, runM]
        have ea : nextM a ((firstsM a j).getD k 0) i = edge a ((firstsM a j).getD k 0).toNat i := by
          rw [← nextM_nat, Int.toNat_of_nonneg a3]
        have eb : nextM b ((firstsM b j').getD k 0) i = edge b ((firstsM b j').getD k 0).toNat i := by
          rw [← nextM_nat, Int.toNat_of_nonneg b3]
        have oka := edge_ok ha (s := ((firstsM a j).getD k 0).toNat) (by omega) hw'.1
        have okb := edge_ok hb (s := ((firstsM b j').getD k 0).toNat) (i := i) (by omega) (by omega)
        have ta : aftM a 0 ((leadW a j).getD k [] ++ [i]) = (nextM a ((firstsM a j).getD k 0) i).1 := by rw [aft_app, a1]; rfl
        have tb : aftM b 0 ((leadW b j').getD k [] ++ [i]) = (nextM b ((firstsM b j').getD k 0) i).1 := by rw [aft_app, b1]; rfl
        have wa : Wok a ((leadW a j).getD k [] ++ [i]) := Wok.app.2 ⟨a2, Wok.cons.2 ⟨hw'.1, Wok.nil⟩⟩
        have wb : Wok b ((leadW b j').getD k [] ++ [i]) := Wok.app.2 ⟨b2, Wok.cons.2 ⟨by omega, Wok.nil⟩⟩
        rw [ea] at ta ⊢
        rw [eb] at tb ⊢
        generalize edge a ((firstsM a j).getD k 0).toNat i = xa at *
        generalize edge b ((firstsM b j').getD k 0).toNat i = xb at *
        have h2 : xa.2 = xb.2 := by
          have := congrArg Prod.snd hm
          have mv : ∀ t x, (moveE t x).2 = x.2 := fun t x => by unfold moveE; split <;> rfl
          rwa [mv, mv] at this
        rw [h2]
        congr 1
        by_cases hn : xa.1 < 0
        · have : xb.1 < 0 := by rw [okb.sign, ← h2, ← oka.sign]; exact hn
          exact run_neg a b w hn this
        · have hnb : ¬ xb.1 < 0 := by rw [okb.sign, ← h2, ← oka.sign]; exact hn
          obtain ⟨ka, ka1, ka2, ka3⟩ := to_spec ha hj wa (by rw [ta]; omega)
          obtain ⟨kb, kb1, kb2, kb3⟩ := to_spec hb hj' wb (by rw [tb]; omega)
          rw [ta] at ka2 ka3
          rw [tb] at kb2 kb3
          have h1 := congrArg Prod.fst hm
          unfold moveE at h1
          rw [if_pos (by omega), if_pos (by omega)] at h1
          simp only at h1
          rw [ka2, kb2] at h1
          have : ka = kb := by omega
          subst this
          rw [← ka3 w hw'.2, ih ka hw'.2 ka1]
          exact kb3 w (by have := hw'.2; unfold Wok at *; rw [← hi]; exact this)
    intro w hw
    obtain ⟨z1, z2⟩ := first_zero ha hj
    obtain ⟨y1, y2⟩ := first_zero hb hj'
    have := key w 0 hw z1
    rwa [z2, y2] at this
  · intro h
    have hw := lead_eq ha hb hi h hj hj'
    have hl : (firstsM a j).length = (firstsM b j').length := by rw [← lead_len ha hj, ← lead_len hb hj', hw]
    have al : ∀ k, k < (firstsM a j).length → Eqv a b ((firstsM a j).getD k 0) ((firstsM b j').getD k 0) := by
      intro k hk
      obtain ⟨a1, a2, _⟩ := lead_aft ha hj hk
      obtain ⟨b1, _⟩ := lead_aft hb hj' (k := k) (by omega)
      rw [← hw] at b1
      rw [← a1, ← b1]
      exact h.aft a2
    refine ⟨hl, fun k i hk hii => ?_⟩
    have hk' : k < (firstsM b j').length := by omega
    obtain ⟨a1, a2, a3, a4⟩ := lead_aft ha hj hk
    obtain ⟨b1, b2, b3, b4⟩ := lead_aft hb hj' hk'
    have he := (al k hk).next hii
    have ea : nextM a ((firstsM a j).getD k 0) i = edge a ((firstsM a j).getD k 0).toNat i := by
      rw [← nextM_nat, Int.toNat_of_nonneg a3]
    have eb : nextM b ((firstsM b j').getD k 0) i = edge b ((firstsM b j').getD k 0).toNat i := by
      rw [← nextM_nat, Int.toNat_of_nonneg b3]
    have oka := edge_ok ha (s := ((firstsM a j).getD k 0).toNat) (by omega) hii
    have okb := edge_ok hb (s := ((firstsM b j').getD k 0).toNat) (i := i) (by omega) (by omega)
    have ta : aftM a 0 ((leadW a j).getD k [] ++ [i]) = (nextM a ((firstsM a j).getD k 0) i).1 := by rw [aft_app, a1]; rfl
    have tb : aftM b 0 ((leadW b j').getD k [] ++ [i]) = (nextM b ((firstsM b j').getD k 0) i).1 := by rw [aft_app, b1]; rfl
    have wa : Wok a ((leadW a j).getD k [] ++ [i]) := Wok.app.2 ⟨a2, Wok.cons.2 ⟨hii, Wok.nil⟩⟩
    have wb : Wok b ((leadW b j').getD k [] ++ [i]) := Wok.app.2 ⟨b2, Wok.cons.2 ⟨by omega, Wok.nil⟩⟩
    rw [ea, eb] at he
    rw [ea] at ta
    rw [eb] at tb
    generalize edge a ((firstsM a j).getD k 0).toNat i = xa at *
    generalize edge b ((firstsM b j').getD k 0).toNat i = xb at *
    by_cases hn : xa.1 < 0
    · have : xb.1 < 0 := by rw [okb.sign, ← he.1, ← oka.sign]; exact hn
      unfold moveE
      rw [if_neg (by omega), if_neg (by omega)]
      rcases oka with e | e
      · rcases okb with e' | e'
        · rw [e, e']
        · omega
      · omega
    · have hnb : ¬ xb.1 < 0 := by rw [okb.sign, ← he.1, ← oka.sign]; exact hn
      obtain ⟨ka, ka1, ka2, ka3⟩ := to_spec ha hj wa (by rw [ta]; omega)
      obtain ⟨kb, kb1, kb2, kb3⟩ := to_spec hb hj' wb (by rw [tb]; omega)
      rw [ta] at ka2 ka3
      rw [tb] at kb2 kb3
      unfold moveE
      rw [if_pos (by omega), if_pos (by omega), ka2, kb2, he.1]
      have : ka = kb := by
        refine first_uniq hb hj' (by omega) kb1 ?_
        have e1 := (al ka ka1).symm hi
        exact ((e1.trans hi.symm ka3).trans hi.symm he.2).trans rfl (kb3.symm rfl)
      rw [this]
end Go.Eng.E3
namespace Go.Eng.E3
open Go Go.Eng
set_option linter.unusedSimpArgs false
set_option linter.unusedVariables false
def closedAt (a b : M) (l : List Arr) (j i : Nat) : Prop :=
  (edge a (l.getD j arr0).1.1.toNat i).2 = (edge b (l.getD j arr0).1.2.toNat i).2 ∧ ((edge a (l.getD j arr0).1.1.toNat i).1 ≠ -1 → ((edge a (l.getD j arr0).1.1.toNat i).1, (edge b (l.getD j arr0).1.2.toNat i).1) ∈ l.map (·.1))
structure InvD (a b : M) (l : List Arr) : Prop where
  g : Good a b l
  z : 0 < l.length
  z0 : (l.getD 0 arr0).1 = (0, 0)
  w : ∀ r ∈ l, ∃ w, Wok a w ∧ aftM a 0 w = r.1.1 ∧ aftM b 0 w = r.1.2 ∧ runM a 0 w = runM b 0 w
theorem closed_add {a b : M} {l : List Arr} {at_ i : Nat} {x y : Int × Int} {j k : Nat} (hj : j < l.length) (h : closedAt a b l j k) : closedAt a b (addA l at_ i x y) j k := by
  unfold closedAt at *
  rw [addA_at hj]
  refine ⟨h.1, fun hx => ?_⟩
  have := h.2 hx
  unfold addA
  split
  · rw [List.map_append]; exact List.mem_append_left _ this
  · exact this
theorem mem_getD {l : List Arr} {j : Nat} (h : j < l.length) : l.getD j arr0 ∈ l := by
  have : l.getD j arr0 = l[j] := by simp [h]
  rw [this]; exact List.getElem_mem h
theorem InvD.edges {a b : M} (va : Valid a) (vb : Valid b) (hins : a.ins = b.ins) {l : List Arr} (h : InvD a b l) {at_ i : Nat} (ha : at_ < l.length) (hi : i < a.ins) :
    EdgeOk a (edge a (l.getD at_ arr0).1.1.toNat i) ∧ EdgeOk b (edge b (l.getD at_ arr0).1.2.toNat i) ∧ ∃ w, Wok a w ∧ runM a 0 w = runM b 0 w ∧ aftM a 0 (w ++ [i]) = (edge a (l.getD at_ arr0).1.1.toNat i).1 ∧ aftM b 0 (w ++ [i]) = (edge b (l.getD at_ arr0).1.2.toNat i).1 ∧ Wok a (w ++ [i]) ∧
      (runM a 0 (w ++ [i]) = runM b 0 (w ++ [i]) ↔ (edge a (l.getD at_ arr0).1.1.toNat i).2 = (edge b (l.getD at_ arr0).1.2.toNat i).2) := by
  have hm := mem_getD ha
  obtain ⟨r1, r2, r3, r4⟩ := h.g.rng _ hm
  obtain ⟨w, w1, w2, w3, w4⟩ := h.w _ hm
  generalize l.getD at_ arr0 = r at *
  refine ⟨edge_ok va (by omega) hi, edge_ok vb (by omega) (by omega), w, w1, w4, ?_, ?_, Wok.app.2 ⟨w1, Wok.cons.2 ⟨hi, Wok.nil⟩⟩, ?_⟩
  · rw [aft_app, w2, aftM, aftM, ← nextM_nat, Int.toNat_of_nonneg r1]
  · rw [aft_app, w3, aftM, aftM, ← nextM_nat, Int.toNat_of_nonneg r3]
  · rw [run_app, run_app, w4, w2, w3, runM, runM, runM, runM, ← nextM_nat, ← nextM_nat, Int.toNat_of_nonneg r1, Int.toNat_of_nonneg r3]
    constructor
    · intro e; exact (List.cons.inj (List.append_cancel_left e)).1
    · intro e; rw [e]
theorem inn_spec {a b : M} (va : Valid a) (vb : Valid b) (hins : a.ins = b.ins) {at_ : Nat} : ∀ (k : Nat) {l : List Arr}, k ≤ a.ins → InvD a b l → at_ < l.length → (∀ j, j < at_ → ∀ i, i < a.ins → closedAt a b l j i) → (∀ i, i < a.ins - k → closedAt a b l at_ i) →
    match innP a b at_ k l with
    | .inl l' => InvD a b l' ∧ l.length ≤ l'.length ∧ (∀ j, j < at_ + 1 → ∀ i, i < a.ins → closedAt a b l' j i)
    | .inr _ => ∃ w, Wok a w ∧ runM a 0 w ≠ runM b 0 w
  | 0, l, _, h, ha, hc, hc' => by
    rw [innP]
    refine ⟨h, Nat.le_refl _, fun j hj i hi => ?_⟩
    rcases Nat.lt_or_ge j at_ with hj' | hj'
    · exact hc j hj' i hi
    · have : j = at_ := by omega
      subst this; exact hc' i (by omega)
  | k + 1, l, hk, h, ha, hc, hc' => by
    have hi : a.ins - (k + 1) < a.ins := by omega
    obtain ⟨oka, okb, w, w1, w2, w3, w4, w5, w6⟩ := h.edges va vb hins ha hi
    rw [innP, stepP]
    by_cases he : (edge a (l.getD at_ arr0).1.1.toNat (a.ins - (k + 1))).2 = (edge b (l.getD at_ arr0).1.2.toNat (a.ins - (k + 1))).2
    · rw [if_pos he]
      simp only
      have hs := addA_len l at_ (a.ins - (k + 1)) (edge a (l.getD at_ arr0).1.1.toNat (a.ins - (k + 1))) (edge b (l.getD at_ arr0).1.2.toNat (a.ins - (k + 1)))
      have inv' : InvD a b (addA l at_ (a.ins - (k + 1)) (edge a (l.getD at_ arr0).1.1.toNat (a.ins - (k + 1))) (edge b (l.getD at_ arr0).1.2.toNat (a.ins - (k + 1)))) := by
        refine ⟨h.g.add ha oka okb he, by have := h.z; omega, by rw [addA_at h.z]; exact h.z0, fun r hr => ?_⟩
        unfold addA at hr
        split at hr
        · rcases List.mem_append.1 hr with hr | hr
          · exact h.w r hr
          · simp only [List.mem_singleton] at hr
            subst hr
            exact ⟨w ++ [a.ins - (k + 1)], w5, w3, w4, w6.2 he⟩
        · exact h.w r hr
      have ih := inn_spec va vb hins (at_ := at_) k (by omega) inv' (by omega) (fun j hj i hi => closed_add (by omega) (hc j hj i hi)) (by
        intro i hi2
        rcases Nat.lt_or_ge i (a.ins - (k + 1)) with hi' | hi'
        · exact closed_add ha (hc' i hi')
        · have : i = a.ins - (k + 1) := by omega
          subst this
          unfold closedAt
          rw [addA_at ha]
          refine ⟨he, fun hx => ?_⟩
          unfold addA
          split
          · rw [List.map_append]; exact List.mem_append_right _ (by simp)
          · rename_i hn
            exact Classical.byContradiction fun hne => hn ⟨hx, hne⟩)
      cases hin : innP a b at_ k (addA l at_ (a.ins - (k + 1)) (edge a (l.getD at_ arr0).1.1.toNat (a.ins - (k + 1))) (edge b (l.getD at_ arr0).1.2.toNat (a.ins - (k + 1)))) with
      | inl l' =>
        rw [hin] at ih
        simp only at ih ⊢
        exact ⟨ih.1, by omega, ih.2.2⟩
      | inr r => rw [hin] at ih; exact ih
    · rw [if_neg he]
      exact ⟨w ++ [a.ins - (k + 1)], w5, fun e => he (w6.1 e)⟩
theorem out_spec {a b : M} (va : Valid a) (vb : Valid b) (hins : a.ins = b.ins) : ∀ (k at_ : Nat) {l : List Arr}, InvD a b l → a.rows.length * b.rows.length ≤ at_ + k → (∀ j, j < at_ → j < l.length → ∀ i, i < a.ins → closedAt a b l j i) →
    match outP a b k at_ l with
    | .inl l' => InvD a b l' ∧ (∀ j, j < l'.length → ∀ i, i < a.ins → closedAt a b l' j i)
    | .inr _ => ∃ w, Wok a w ∧ runM a 0 w ≠ runM b 0 w
  | 0, at_, l, h, hk, hc => by
    rw [outP]
    have := h.g.len
    exact ⟨h, fun j hj => hc j (by omega) hj⟩
  | k + 1, at_, l, h, hk, hc => by
    rw [outP]
    by_cases ha : at_ < l.length
    · rw [if_pos ha]
      have hs := inn_spec va vb hins (at_ := at_) a.ins (Nat.le_refl _) h ha (fun j hj => hc j hj (by omega)) (fun i hi => by omega)
      cases hin : innP a b at_ a.ins l with
      | inl l' =>
        rw [hin] at hs
        simp only at hs ⊢
        exact out_spec va vb hins k (at_ + 1) hs.1 (by omega) (fun j hj _ => hs.2.2 j hj)
      | inr r => rw [hin] at hs; exact hs
    · rw [if_neg ha]
      exact ⟨h, fun j hj => hc j (by omega) hj⟩
theorem dif_iff {a b : M} (va : Valid a) (vb : Valid b) (hins : a.ins = b.ins) : difW a b = [] ↔ Eqv a b 0 0 := by
  have ar1 := va.r1
  have br1 := vb.r1
  have inv0 : InvD a b [arr0] := by
    refine ⟨⟨fun i hi => ?_, fun r hr => ?_, by simp⟩, by simp, rfl, fun r hr => ?_⟩
    · have : i = 0 := by simp at hi; omega
      subst this; exact .inl rfl
    · simp at hr; subst hr; exact ⟨by simp [arr0], by simp [arr0]; omega, by simp [arr0], by simp [arr0]; omega⟩
    · simp at hr; subst hr; exact ⟨[], Wok.nil, rfl, rfl, rfl⟩
  have hs := out_spec va vb hins (a.rows.length * b.rows.length) 0 inv0 (by omega) (fun j hj => by omega)
  change (match difR a b with | .inl l' => _ | .inr _ => _) at hs
  cases hd : difR a b with
  | inr r =>
    obtain ⟨l, at_, i⟩ := r
    rw [hd] at hs
    obtain ⟨w, hw, hne⟩ := hs
    exact ⟨fun e => absurd e (difW_inr hd), fun e => absurd (e w hw) hne⟩
  | inl l =>
    rw [hd] at hs
    obtain ⟨inv, hc⟩ := hs
    have hw : difW a b = [] := by simp only [difW, hd]
    refine ⟨fun _ => ?_, fun _ => hw⟩
    have key : ∀ (w : List Nat) (j : Nat), Wok a w → j < l.length → runM a (l.getD j arr0).1.1 w = runM b (l.getD j arr0).1.2 w := by
      intro w
      induction w with
      | nil => intro j _ _; rfl
      | cons i w ih =>
        intro j hw hj
        have hw' := Wok.cons.1 hw
        have hcj := hc j hj i hw'.1
        obtain ⟨oka, okb, _⟩ := inv.edges va vb hins hj hw'.1
        obtain ⟨r1, r2, r3, r4⟩ := inv.g.rng _ (mem_getD hj)
        have ea : nextM a (l.getD j arr0).1.1 i = edge a (l.getD j arr0).1.1.toNat i := by rw [← nextM_nat, Int.toNat_of_nonneg r1]
        have eb : nextM b (l.getD j arr0).1.2 i = edge b (l.getD j arr0).1.2.toNat i := by rw [← nextM_nat, Int.toNat_of_nonneg r3]
        rw [runM, runM, ea, eb, hcj.1]
        congr 1
        have hcl := hcj.2
        have hce := hcj.1
        generalize edge a (l.getD j arr0).1.1.toNat i = x at *
        generalize edge b (l.getD j arr0).1.2.toNat i = y at *
        by_cases hx : x.1 = -1
        · have h1 : x.1 < 0 := by omega
          exact run_neg a b w h1 (by rw [okb.sign, ← hce, ← oka.sign]; exact h1)
        · have := hcl hx
          obtain ⟨r, hr, e⟩ := List.mem_map.1 this
          obtain ⟨j', hj', e'⟩ := List.getElem_of_mem hr
          have hg : l.getD j' arr0 = r := by simp [hj', e']
          have := ih j' hw'.2 hj'
          rw [hg, e] at this
          exact this
    intro w hww
    have := key w 0 hww inv.z
    rw [inv.z0] at this
    exact this
end Go.Eng.E3
namespace Go.Eng.E3
open Go Go.Eng Go.Proofs
set_option maxRecDepth 100000
attribute [local simp] execR runOps stepOp wantedD evalOp opd upd St.put Eff.apply upds looseOk FP.free FP.idle apart Eff.fp ofVal loadD storeD partD setPart indexAddrD isShift arith unD callOp mapO D.okc pickD buildable buildD placeD convD
set_option linter.unusedSimpArgs false
set_option linter.unusedVariables false
set_option maxHeartbeats 4000000
theorem nats_of {l : List Int} {n : Nat} (h : ∀ x ∈ l, 0 ≤ x ∧ x < n) : ∃ w : List Nat, l = w.map Int.ofNat ∧ ∀ i ∈ w, i < n := by
  induction l with
  | nil => exact ⟨[], rfl, fun i h => by cases h⟩
  | cons x l ih =>
    obtain ⟨w, rfl, hw⟩ := ih fun y hy => h y (List.mem_cons_of_mem _ hy)
    have hx := h x (List.mem_cons_self ..)
    refine ⟨x.toNat :: w, by simp [Int.toNat_of_nonneg hx.1], fun i hi => ?_⟩
    rcases List.mem_cons.1 hi with rfl | hi
    · omega
    · exact hw i hi
theorem drawW_ok {es : List Int} {ins k : Nat} (he : ∀ e ∈ es, 0 ≤ e ∧ e < 256) (hi : 1 ≤ ins) : ∀ x ∈ drawW es ins k, 0 ≤ x ∧ x < ins := by
  intro x hx
  unfold drawW at hx
  obtain ⟨e, h1, rfl⟩ := List.mem_map.1 hx
  have := he e (List.mem_of_mem_take h1)
  exact ⟨Int.tmod_nonneg _ this.1, Int.tmod_lt_of_pos _ (by omega)⟩
theorem firsts_len (m : M) (j : Nat) : (firstsM m j).length ≤ m.rows.length := by
  have hol := ord_ok (lev m 0 j).l (lev m 0 j).is m.rows.length
  have := firstN_len (partM' m m.rows.length) (ordN (lev m 0 j).l (lev m 0 j).is m.rows.length) (ordN (lev m 0 j).l (lev m 0 j).is m.rows.length).length
  have := hol.2
  unfold firstsM; omega
theorem minR_len (m : M) (j : Nat) : (minR m j).length = (firstsM m j).length := by simp [minR, minRows]
theorem minR_row (m : M) (j : Nat) : ∀ r ∈ minR m j, r.length = m.ins := by
  intro r hr
  obtain ⟨k, _, rfl⟩ := List.mem_map.1 hr
  simp [minRow]
theorem spec4 {st ins outs st' ins' outs' : Int} {p p' al : Bool} {es es' : List Int} {s0 s1 p0 p1 t0 o0 : Int} {a b : M} (va : Valid a) (vb : Valid b) (hins : a.ins = b.ins) (h17 : bodyR 17 [drawnD st ins outs p es st' ins' outs' p' es' al s0 s1 p0 p1 t0 o0] = some (.tup [encM a, encM b])) {ys : List Int} (hys : ∀ e ∈ ys, 0 ≤ e ∧ e < 256) :
    bodyR 4 [drawnD st ins outs p es st' ins' outs' p' es' al s0 s1 p0 p1 t0 o0, .agg [.frz (ys.map (D.int .u8)) .unk]] = some (.bool true) := by
  have c17 : ∀ h, callI E (.fn 17 []) [.agg [.int .u8 st, .int .u8 ins, .int .u8 outs, .bool p, .frz (es.map (D.int .u16)) .unk, .int .u8 st', .int .u8 ins', .int .u8 outs', .bool p', .frz (es'.map (D.int .u16)) .unk, .bool al, .int .u8 s0, .int .u8 s1, .int .u8 p0, .int .u8 p1, .int .i64 t0, .int .i64 o0]] h = some (.tup [.agg [.int .i64 a.ins, .int .i64 a.outs, .frz (a.rows.map rowD) .unk], .agg [.int .i64 b.ins, .int .i64 b.outs, .frz (b.rows.map rowD) .unk]], h, {}) := fun h =>
    call_pure (by decide) (snaps1 (by
      have e1 : ∀ l : List Int, snap (E.pol.args 17) h.blk (6 + 2) (.frz (l.map (D.int .u16)) .unk) = some (.frz (l.map (D.int .u16)) .unk, []) := fun l => by
        show (match mapK (snap false h.blk (6 + 1)) (l.map (D.int .u16)) with | some (ys, k) => some (D.frz ys _, k) | none => none) = _
        rw [mapK_map l fun x _ => rfl]
        rfl
      show (match mapK (snap (E.pol.args 17) h.blk (6 + 2)) _ with | some (ys, k) => some (D.agg ys, k) | none => none) = _
      simp only [mapK, e1]
      rfl)) h17
  have i1 := va.i1
  have i2 := va.i2
  have ar2 := va.r2
  have br2 := vb.r2
  have r18 := spec18 (es := ys) (ins := a.ins) hys i1 i2
  obtain ⟨w, hw, hwi⟩ := nats_of (drawW_ok (k := min ys.length 12) hys i1)
  rw [hw] at r18
  have hwl : w.length ≤ 12 := by
    have := congrArg List.length hw
    simp [drawW] at this
    omega
  have hwm : (w.map Int.ofNat).map (D.int .i64) = w.map natD := by simp [natD]
  rw [hwm] at r18
  have c18 : ∀ h, callI E (.fn 18 []) [.agg [.frz (ys.map (D.int .u8)) .unk], .int .i64 a.ins] h = some (.frz (w.map natD) (tkA (w.map Int.ofNat)), h, {}) := fun h =>
    call_pure (by decide) (snaps2 (by
      have e1 : snap (E.pol.args 18) h.blk (6 + 2) (.frz (ys.map (D.int .u8)) .unk) = some (.frz (ys.map (D.int .u8)) .unk, []) := by
        show (match mapK (snap false h.blk (6 + 1)) (ys.map (D.int .u8)) with | some (zs, k) => some (D.frz zs _, k) | none => none) = _
        rw [mapK_map ys fun x _ => rfl]
        rfl
      show (match mapK (snap (E.pol.args 18) h.blk (6 + 2)) [.frz (ys.map (D.int .u8)) .unk] with | some (zs, k) => some (D.agg zs, k) | none => none) = _
      simp only [mapK, e1]
      rfl) rfl) r18
  have c19 : ∀ h, callI E (.fn 19 []) [.agg [.int .i64 a.ins, .int .i64 a.outs, .frz (a.rows.map rowD) .unk], .agg [.int .i64 b.ins, .int .i64 b.outs, .frz (b.rows.map rowD) .unk]] h = some (.tup [.bool (decide (difW a b = [])), .int .i64 0], h, {}) := fun h =>
    call_pure (by decide) (snaps2 (snap_encM _ _ 4 a) (snap_encM _ _ 4 b)) (spec19 va vb hins)
  obtain ⟨j, hj, _, ra⟩ := spec20 va
  obtain ⟨j', hj', _, rb⟩ := spec20 vb
  have ka := (first_zero va hj).1
  have kb := (first_zero vb hj').1
  have ta : tkA (firstsM a j) = .unk := by
    cases hf : firstsM a j with
    | nil => rw [hf] at ka; simp at ka
    | cons _ _ => rfl
  have tb : tkA (firstsM b j') = .unk := by
    cases hf : firstsM b j' with
    | nil => rw [hf] at kb; simp at kb
    | cons _ _ => rfl
  rw [ta] at ra
  rw [tb] at rb
  change bodyR 20 [encM a] = some (.agg [.int .i64 a.ins, .int .i64 a.outs, .frz ((minR a j).map rowD) .unk]) at ra
  change bodyR 20 [encM b] = some (.agg [.int .i64 b.ins, .int .i64 b.outs, .frz ((minR b j').map rowD) .unk]) at rb
  have c20a : ∀ h, callI E (.fn 20 []) [.agg [.int .i64 a.ins, .int .i64 a.outs, .frz (a.rows.map rowD) .unk]] h = some (.agg [.int .i64 a.ins, .int .i64 a.outs, .frz ((minR a j).map rowD) .unk], h, {}) := fun h => call_pure (by decide) (snaps1 (snap_encM _ _ 4 a)) ra
  have c20b : ∀ h, callI E (.fn 20 []) [.agg [.int .i64 b.ins, .int .i64 b.outs, .frz (b.rows.map rowD) .unk]] h = some (.agg [.int .i64 b.ins, .int .i64 b.outs, .frz ((minR b j').map rowD) .unk], h, {}) := fun h => call_pure (by decide) (snaps1 (snap_encM _ _ 4 b)) rb
  have fa := firsts_len a j
  have la := minR_len a j
  have r16 := spec16 (a := ⟨a.ins, a.outs, minR a j⟩) (b := ⟨b.ins, a.outs, minR b j'⟩) (by simp only; omega) (fun r hr => by have := minR_row a j r hr; omega)
  have c16 : ∀ h, callI E (.fn 16 []) [.agg [.int .i64 a.ins, .int .i64 a.outs, .frz ((minR a j).map rowD) .unk], .agg [.int .i64 b.ins, .int .i64 a.outs, .frz ((minR b j').map rowD) .unk]] h = some (.bool (decide (difW a b = [])), h, {}) := fun h => by
    have hd : decide (a.ins = b.ins ∧ a.outs = a.outs ∧ minR a j = minR b j') = decide (difW a b = []) := by
      apply decide_eq_decide.2
      rw [dif_iff va vb hins, ← min_iff va vb hins hj hj']
      simp [hins]
    rw [← hd]
    exact call_pure (by decide) (snaps2 (snap_encM _ _ 4 ⟨a.ins, a.outs, minR a j⟩) (snap_encM _ _ 4 ⟨b.ins, a.outs, minR b j'⟩)) r16
  have c23 : ∀ h, callI E (.fn 23 []) [] h = some (.bool true, h, {}) := fun h => call_pure (by decide) rfl lives10
  have sw : ∀ (m : M) h, mapK (snap (E.pol.args 22) h snapDepth) [encM m, .int .i64 0, .frz (w.map natD) (tkA (w.map Int.ofNat))] = some ([encM m, .int .i64 0, .frz (w.map natD) .unk], []) := fun m h => by
    have hk : E.pol.args 22 = false := by decide
    rw [hk]
    have e1 := snap_word false h 7 w (tkA (w.map Int.ofNat))
    have f1 : (tkA (w.map Int.ofNat)).fade false = .unk := by cases w <;> rfl
    rw [f1, ← show snapDepth = 7 + 2 from rfl] at e1
    simp only [mapK, show snap false h snapDepth (encM m) = some (encM m, []) from snap_encM _ _ 4 m, e1]
    rfl
  have c22a : ∀ h, callI E (.fn 22 []) [.agg [.int .i64 a.ins, .int .i64 a.outs, .frz (a.rows.map rowD) .unk], .int .i64 0, .frz (w.map natD) (tkA (w.map Int.ofNat))] h = some (.frz ((runM a 0 w).map (D.int .i64)) (tkA w), h, {}) := fun h =>
    call_pure (by decide) (sw a _) (spec22 va (.inr ⟨by omega, by have := va.r1; omega⟩) hwi (by omega))
  have c22b : ∀ h, callI E (.fn 22 []) [.agg [.int .i64 b.ins, .int .i64 b.outs, .frz (b.rows.map rowD) .unk], .int .i64 0, .frz (w.map natD) (tkA (w.map Int.ofNat))] h = some (.frz ((runM b 0 w).map (D.int .i64)) (tkA w), h, {}) := fun h =>
    call_pure (by decide) (sw b _) (spec22 vb (.inr ⟨by omega, by have := vb.r1; omega⟩) (by rw [← hins]; exact hwi) (by omega))
  have c21 : difW a b = [] → ∀ h, callI E (.fn 21 []) [.frz ((runM a 0 w).map (D.int .i64)) (tkA w), .frz ((runM b 0 w).map (D.int .i64)) (tkA w)] h = some (.bool true, h, {}) := fun he h => by
    have hr := ((dif_iff va vb hins).1 he) w hwi
    have hb := spec21 (a := runM a 0 w) (b := runM b 0 w) (by rw [run_len]; omega)
    rw [decide_eq_true hr] at hb
    have hk : E.pol.args 21 = false := by decide
    have f1 : (tkA w).fade false = .unk := by cases w <;> rfl
    have e1 : ∀ l : List Int, snap false h.blk snapDepth (.frz (l.map (D.int .i64)) (tkA w)) = some (.frz (l.map (D.int .i64)) .unk, []) := fun l => by
      rw [show snapDepth = 7 + 2 from rfl, snap_ints, f1]
    exact call_pure (by decide) (by rw [hk]; simp only [mapK, e1]; rfl) hb
  refine bodyR_V (run4 _ _ (by simp)) ?_
  unfold b4
  refine .then xr4_0 (by simp [o4_0, builtinD, lenD, pD, argA, drawnD]; rfl) ?_
  refine .then xr4_1 (by simp [o4_1, builtinD, lenD, pD, argA, c17]; rfl) ?_
  refine .then xr4_2 (by simp [o4_2, builtinD, lenD, pD, argA, c18]; rfl) ?_
  refine .then xr4_3 (by simp [o4_3, builtinD, lenD, pD, argA, c19]; rfl) ?_
  refine .then xr4_4 (by simp [o4_4, builtinD, lenD, pD, argA, c20a, c20b]; rfl) ?_
  refine .then xr4_5 (by simp [o4_5, builtinD, lenD, pD, argA]; rfl) ?_
  by_cases he : difW a b = []
  · have c21' := c21 he
    refine .then xr4_6 (by simp [o4_6, builtinD, lenD, pD, argA, c16, c22a, c22b, c21', c23, he, bin4]; rfl) (.ret ⟨_, by simp [resultsD, mapO, resultD, upd]; rfl, by simp [snap, snapDepth]⟩)
  · refine .then xr4_6 (by simp [o4_6, builtinD, lenD, pD, argA, c16, c23, he, bin4]; rfl) (.ret ⟨_, by simp [resultsD, mapO, resultD, upd]; rfl, by simp [snap, snapDepth]⟩)
end Go.Eng.E3
namespace Go.Eng.E3
open Go Go.Eng Go.Proofs
set_option maxRecDepth 100000
attribute [local simp] execR runOps stepOp wantedD evalOp opd upd St.put Eff.apply upds looseOk FP.free FP.idle apart Eff.fp ofVal loadD storeD partD setPart indexAddrD isShift arith unD callOp mapO D.okc pickD buildable buildD placeD convD
set_option linter.unusedSimpArgs false
set_option linter.unusedVariables false
set_option maxHeartbeats 4000000
structure KInst (n : Nat) : Prop where
  a : bodyR 27 [kD n] = some (.bool true)
  b : bodyR 28 [kD n, .int .i64 ((n : Int).tmod 8)] = some (.bool true)
  c : bodyR 29 [kD n, kR n] = some (.bool true)
theorem kL_mem (n : Nat) : ∀ e ∈ kL n, 0 ≤ e ∧ e < 8 + (n : Int) := kIn_mem (kAt_rng n) 18
theorem inst4 {n : Nat} (hn : n < 40) : bodyR 4 [kD n, .agg [.frz [.int .u8 (u8w (kAt (n + 1))), .int .u8 (u8w n), .int .u8 1, .int .u8 2] .unk]] = some (.bool true) := by
  obtain ⟨a, b, va, vb, hi, hb⟩ := spec17 (st := u8w n) (ins := u8w ((n : Int).tdiv 3)) (outs := 1) (p := ((n : Int).tmod 2 == 0)) (es := kL n) (st' := u8w (kAt (n + 1))) (ins' := 0) (outs' := 1) (p' := ((n : Int).tmod 3 == 0)) (es' := (kL n).drop 3) (al := ((n : Int).tmod 4 != 0)) (s0 := u8w n) (s1 := u8w (kAt (n + 1))) (p0 := u8w (kAt (n + 1))) (p1 := u8w n) (t0 := (n : Int).tmod 5) (o0 := (n : Int).tmod 4)
    (u8_rng _) (u8_rng _) (by decide) (fun e he => by have := kL_mem n e he; omega) (u8_rng _) (by decide) (fun e he => by have := kL_mem n e (List.mem_of_mem_drop he); omega) (u8_rng _) (u8_rng _) (u8_rng _) (u8_rng _)
  exact spec4 (ys := [u8w (kAt (n + 1)), u8w n, 1, 2]) va vb hi hb (fun e he => by
    simp only [List.mem_cons, List.not_mem_nil, or_false] at he
    rcases he with rfl | rfl | rfl | rfl
    · exact u8_rng _
    · exact u8_rng _
    · decide
    · decide)
def kDt (n : Nat) (tk : Tok) : D := .agg [.int .u8 (IntKind.u8.wrap n), .int .u8 (IntKind.u8.wrap ((n : Int) / 3)), .int .u8 1, .bool ((n : Int).tmod 2 == 0), .frz ((kL n).map (D.int .u16)) tk, .int .u8 (IntKind.u8.wrap (kAt (n + 1))), .int .u8 0, .int .u8 1, .bool ((n : Int).tmod 3 == 0), .frz (List.drop 3 (List.take 18 ((kL n).map (D.int .u16)))) .unk,
  .bool ((n : Int).tmod 4 != 0), .int .u8 (IntKind.u8.wrap n), .int .u8 (IntKind.u8.wrap (kAt (n + 1))), .int .u8 (IntKind.u8.wrap (kAt (n + 1))), .int .u8 (IntKind.u8.wrap n), .int .i64 ((n : Int).tmod 5), .int .i64 ((n : Int).tmod 4)]
theorem kDt_eq (n : Nat) (tk : Tok) : kDt n tk = .agg [.int .u8 (u8w n), .int .u8 (u8w ((n : Int).tdiv 3)), .int .u8 1, .bool ((n : Int).tmod 2 == 0), .frz ((kL n).map (D.int .u16)) tk, .int .u8 (u8w (kAt (n + 1))), .int .u8 0, .int .u8 1, .bool ((n : Int).tmod 3 == 0), .frz (((kL n).drop 3).map (D.int .u16)) .unk,
  .bool ((n : Int).tmod 4 != 0), .int .u8 (u8w n), .int .u8 (u8w (kAt (n + 1))), .int .u8 (u8w (kAt (n + 1))), .int .u8 (u8w n), .int .i64 ((n : Int).tmod 5), .int .i64 ((n : Int).tmod 4)] := by
  have hln : (kL n).length = 18 := kIn_len 18
  have e2 : List.drop 3 (List.take 18 ((kL n).map (D.int .u16))) = ((kL n).drop 3).map (D.int .u16) := by
    rw [List.take_of_length_le (by rw [List.length_map]; omega), List.map_drop]
  have e3 : (n : Int).tdiv 3 = (n : Int) / 3 := Int.tdiv_eq_ediv_of_nonneg (by omega)
  unfold kDt u8w
  rw [e2, e3]
theorem snapKD (blk : Nat → Blk) (n : Nat) (tk : Tok) : snap false blk snapDepth (kDt n tk) = some (kD n, []) := by
  have e1 : ∀ (l : List Int) (tk : Tok), snap false blk 8 (.frz (l.map (D.int .u16)) tk) = some (.frz (l.map (D.int .u16)) .unk, []) := fun l tk => by
    show (match mapK (snap false blk 7) (l.map (D.int .u16)) with | some (ys, k) => some (D.frz ys (tk.fade false), k) | none => none) = _
    rw [mapK_map l fun x _ => rfl]
    cases tk <;> rfl
  rw [kDt_eq, kD]
  generalize kL n = l
  generalize kAt (n + 1) = k
  generalize u8w n = u1
  generalize u8w k = u2
  generalize u8w ((n : Int).tdiv 3) = u3
  generalize (n : Int).tmod 5 = u5
  generalize ((n : Int).tmod 2 == 0) = b1
  generalize ((n : Int).tmod 3 == 0) = b2
  generalize ((n : Int).tmod 4 != 0) = b3
  generalize (n : Int).tmod 4 = u6
  show (match mapK (snap false blk 8) [.int .u8 u1, .int .u8 u3, .int .u8 1, .bool b1, .frz (l.map (D.int .u16)) tk, .int .u8 u2, .int .u8 0, .int .u8 1, .bool b2, .frz ((l.drop 3).map (D.int .u16)) .unk, .bool b3, .int .u8 u1, .int .u8 u2, .int .u8 u2, .int .u8 u1, .int .i64 u5, .int .i64 u6] with | some (ys, k) => some (D.agg ys, k) | none => none) = _
  simp only [mapK, e1]
  rfl
structure I5c (j : Nat) (st : St) : Prop where
  le : j ≤ 40
  h13 : st.A 13 = .int .i64 (kAt (40 - j))
  h14 : st.A 14 = .int .i64 ((40 - j : Nat) : Int)
theorem loop5d (inst : ∀ n, n < 40 → KInst n) {Q : Po} (hQ : ∀ st, Q.x 6 st) (j : Nat) (st : St) (hI : I5c j st) : V E 5 207 (.loop l5_3) st Q := by
  refine V.count I5c ?_ ?_ j st hI
  · rintro j ⟨A, h⟩ ⟨le, h13, h14⟩
    obtain ⟨n, hn⟩ : ∃ n, 40 - (j + 1) = n := ⟨_, rfl⟩
    have hn2 : n < 40 := by omega
    have hnI : (n : Int) < 40 := by omega
    have hw : IntKind.i64.wrap ((n : Int) + 1) = ((n + 1 : Nat) : Int) := by rw [wrap_id] <;> omega
    rw [hn] at h13 h14
    simp only at h13 h14
    rw [cl5_3]
    refine .assoc (.then xr5_23 (by simp [o5_23, builtinD, lenD, pD, argA, h14, hnI]; rfl) ?_)
    refine .head (v := true) (by simp [opd, upd] <;> omega) (fun _ => ?_) (fun q => by cases q)
    refine .seq (.block (.then xr5_25 (by simp [o5_25, builtinD, lenD, pD, argA]; rfl) ?_))
    refine .assoc (.then xr5_26 (by simp [o5_26, builtinD, lenD, pD, argA]; rfl) ?_)
    refine .seq (.block (loop5e hn2 ?_ 18 _ ⟨Nat.le_refl _, ?_, ?_, ⟨.nil, ?_, .inl rfl, fun _ => rfl⟩, ?_⟩))
    · rintro ⟨A1, g⟩ ⟨_, q13, q14, ⟨tk, q15, qt, qn⟩, q16⟩
      rw [Nat.sub_zero] at q13 q15
      change A1 13 = .int .i64 (kAt (n + 1)) at q13
      change A1 15 = .frz ((kL n).map (D.int .u16)) tk at q15
      simp only at q14
      have hln : (kL n).length = 18 := kIn_len 18
      have htk : ¬ tk = .nil := fun e => by have := qn e; omega
      have w1 : IntKind.i64.wrap ((n : Int) / 3) = (n : Int) / 3 := wrap_id (by omega) (by omega)
      have hc : ∀ x ∈ (kL n).map (D.int .u16), x.cells.length = 1 := fun x hx => by
        obtain ⟨y, _, rfl⟩ := List.mem_map.1 hx; rfl
      have hk := inst n hn2
      have kf : ∀ g : Nat, g = 27 ∨ g = 4 ∨ g = 28 ∨ g = 29 → E.pol.args g = false := by
        rintro g (rfl | rfl | rfl | rfl) <;> decide
      have c27 : ∀ h, callI E (.fn 27 []) [kDt n tk] h = some (.bool true, h, {}) := fun h => call_pure (by decide) (by
        rw [kf 27 (by omega)]; simp only [mapK, snapKD]; rfl) hk.a
      have c28 : ∀ h, callI E (.fn 28 []) [kDt n tk, .int .i64 ((n : Int).tmod 8)] h = some (.bool true, h, {}) := fun h => call_pure (by decide) (by
        rw [kf 28 (by omega)]; simp only [mapK, snapKD]; rfl) hk.b
      have c29 : ∀ h, callI E (.fn 29 []) [kDt n tk, .frz [.agg [.int .u8 (IntKind.u8.wrap n), .int .u8 (IntKind.u8.wrap (kAt (n + 1)))], .agg [.int .u8 0, .int .u8 1]] .exact] h = some (.bool true, h, {}) := fun h => call_pure (by decide) (by
        rw [kf 29 (by omega)]; simp only [mapK, snapKD]; rfl) hk.c
      have c4 : ∀ h, callI E (.fn 4 []) [kDt n tk, .agg [.frz [.int .u8 (IntKind.u8.wrap (kAt (n + 1))), .int .u8 (IntKind.u8.wrap n), .int .u8 1, .int .u8 2] .exact]] h = some (.bool true, h, {}) := fun h => call_pure (by decide) (by
        rw [kf 4 (by omega)]; simp only [mapK, snapKD]; rfl) (inst4 hn2)
      unfold kDt at c27 c28 c29 c4
      generalize hkk : kAt (n + 1) = kk at *
      generalize hll : kL n = l at *
      have hl3 : List.drop 3 (List.take l.length l) = l.drop 3 := by rw [List.take_length]
      have mu1 : E.pol.mu 5 22 = false := by decide
      have mu2 : E.pol.mu 5 81 = false := by decide
      show V E 5 207 (r5_31.seq _) _ _
      refine .then xr5_31 (by simp [o5_31, builtinD, lenD, pD, argA, q14, q15, w1]; rfl) ?_
      refine .then xr5_32 (by simp [o5_32, builtinD, lenD, pD, argA, q13, q14, q15, c24, sliceD, boundsD, optInt, hln, htk, hc]; rfl) ?_
      refine .then xr5_33 (by simp [o5_33, builtinD, lenD, pD, argA, q13, q14, c27, c28, c29, c4, mu1, mu2, show List.range 4 = [0, 1, 2, 3] from rfl, show List.range 2 = [0, 1] from rfl, mapK, snapDepth, snap_int, snap, kills]; rfl) ?_
      refine .cond (v := false) (by simp [opd, upd]) (fun q => by cases q) (fun _ => .skip ?_)
      show V E 5 207 r5_24 _ _
      refine .reg xr5_24 (by simp [o5_24, builtinD, lenD, pD, argA, q14, hw]; rfl) ⟨by omega, ?_, ?_⟩
      · rw [show 40 - j = n + 1 by omega, hkk]; simp [upd, q13]
      · rw [show 40 - j = n + 1 by omega]; simp [upd]
    · simp [upd, h13, kIn]
    · simp [upd, h14]
    · simp [upd, kIn]
    · simp [upd]
  · rintro ⟨A, h⟩ ⟨le, h13, h14⟩
    have e : ((40 - 0 : Nat) : Int) = 40 := rfl
    rw [e] at h14
    simp only at h14
    rw [cl5_3]
    refine .assoc (.then xr5_23 (by simp [o5_23, builtinD, lenD, pD, argA, h14]; rfl) ?_)
    exact .head (v := false) (by simp [opd, upd]) (fun q => by cases q) (fun _ => hQ _)
theorem spec5 (inst : ∀ n, n < 40 → KInst n) : bodyR 5 [] = some (.bool true) := by
  have hk26 : E.pol.args 26 = false := by decide
  have e26 : ∀ (blk : Nat → Blk) (n : Nat), snap false blk snapDepth (.frz (List.replicate n zeroD) .exact) = some (.frz (List.replicate n zeroD) .unk, []) := fun blk n => by
    show (match mapK (snap false blk 8) (List.replicate n zeroD) with | some (ys, k) => some (D.frz ys (Tok.fade false .exact), k) | none => none) = _
    have : List.replicate n zeroD = (List.replicate n ()).map (fun _ => zeroD) := by simp
    rw [this, mapK_map _ fun x _ => rfl]
    rfl
  have eM : ∀ (blk : Nat → Blk), snap false blk snapDepth (.agg [.int .i64 1, .int .i64 1, .frz [.frz [.agg [.int .i64 0, .int .i64 0]] .unk] .exact]) = some (encM oneM, []) := fun blk => rfl
  have c26a : ∀ h, callI E (.fn 26 []) [.agg [.int .i64 1, .int .i64 1, .frz [.frz [.agg [.int .i64 0, .int .i64 0]] .unk] .exact], .agg [.int .i64 1, .int .i64 1, .frz [.frz [.agg [.int .i64 0, .int .i64 0]] .unk] .exact], .frz (List.replicate 4096 zeroD) .exact] h = some (.tup [.bool true, .int .i64 0], h, {}) := fun h => call_pure (by decide) (by
    rw [hk26]; simp only [mapK, e26, eM]; rfl) (spec26z (n := 4096) (by omega) (by omega))
  have c26b : ∀ h, callI E (.fn 26 []) [.agg [.int .i64 1, .int .i64 1, .frz [.frz [.agg [.int .i64 0, .int .i64 0]] .unk] .exact], .agg [.int .i64 1, .int .i64 1, .frz [.frz [.agg [.int .i64 0, .int .i64 0]] .unk] .exact], .frz (List.replicate 4097 zeroD) .exact] h = some (.tup [.bool false, .int .i64 3], h, {}) := fun h => call_pure (by decide) (by
    rw [hk26]; simp only [mapK, e26, eM]; rfl) (spec26l (n := 4097) (by omega))
  have c23 : ∀ h, callI E (.fn 23 []) [] h = some (.bool true, h, {}) := fun h => call_pure (by decide) rfl lives10
  unfold zeroD at c26a c26b
  have mu1 : E.pol.mu 5 72 = false := by decide
  have mu2 : E.pol.mu 5 32 = false := by decide
  have mu3 : E.pol.mu 5 76 = false := by decide
  have hr1 : List.range 1 = [0] := rfl
  refine bodyR_V (run5 _ _ (by simp)) ?_
  unfold b5
  refine .then xr5_0 (by simp [o5_0, builtinD, lenD, pD, argA]; rfl) ?_
  refine .assoc (.then xr5_1 (by simp [o5_1, builtinD, lenD, pD, argA]; rfl) ?_)
  refine .seq (.block (loop5a ?_ 63 _ ⟨Nat.le_refl _, by simp [upd]⟩))
  rintro ⟨A, h⟩
  show V E 5 207 (r5_16.seq _) _ _
  refine .then xr5_16 (by simp [o5_16, builtinD, lenD, pD, argA, c24, mu1, mu2, hr1, mapK, snapDepth, snap_int, snap, kills, Tok.fade]; rfl) ?_
  generalize hl1 : List.replicate 4096 (D.agg [.int .i64 0, .int .i64 0]) = l1 at c26a
  generalize hl2 : List.replicate 4097 (D.agg [.int .i64 0, .int .i64 0]) = l2 at c26b
  refine .then xr5_17 (by simp [o5_17, builtinD, lenD, pD, argA, c26a, mu3, hl1, -List.reduceReplicate]; rfl) ?_
  refine .then xr5_18 (by simp [o5_18, builtinD, lenD, pD, argA, c26b, mu3, hl2, -List.reduceReplicate]; rfl) ?_
  refine .assoc (.then xr5_19 (by simp [o5_19, builtinD, lenD, pD, argA]; rfl) ?_)
  refine .seq (.cond (v := false) (by simp [opd, upd]) (fun q => by cases q) (fun _ => .skip ?_))
  refine .then xr5_21 (by simp [o5_21, builtinD, lenD, pD, argA]; rfl) ?_
  refine .assoc (.then xr5_22 (by simp [o5_22, builtinD, lenD, pD, argA]; rfl) ?_)
  refine .seq (.block (loop5d inst ?_ 40 _ ⟨Nat.le_refl _, by simp [upd, kAt], by simp [upd]⟩))
  rintro ⟨A2, h2⟩
  show V E 5 207 (r5_35.seq .ret) _ _
  exact .then xr5_35 (by simp [o5_35, builtinD, lenD, pD, argA, c23]; rfl) (.ret ⟨_, by simp [resultsD, mapO, resultD, upd]; rfl, by simp [snap, snapDepth]⟩)
end Go.Eng.E3
namespace Go.Eng.E3
open Go Go.Eng Go.Proofs
set_option maxRecDepth 100000
noncomputable def r61_0 : Code := navF Try.f61 [0]
noncomputable def o61_0 : List Oper := [sop (some 2) (.box 34 (.tmp 0)) none,
    sop (some 3) (.box 34 (.tmp 1)) none,
    sop (some 4) (.assign (.const (.slice none 0 0))) none]
theorem xr61_0 : Xr 61 134 r61_0 o61_0 [] := execI_reg' (by kernel_rfl)
noncomputable def r61_1 : Code := navF Try.f61 [1, 0]
noncomputable def o61_1 : List Oper := [sop (some 5) (.assign (.const (.slice none 0 0))) none]
theorem xr61_1 : Xr 61 134 r61_1 o61_1 [] := execI_reg' (by kernel_rfl)
noncomputable def r61_2 : Code := navF Try.f61 [1, 1, 0, 0]
noncomputable def o61_2 : List Oper := [sop (some 6) (.assign (.const (.int .i64 0))) none]
theorem xr61_2 : Xr 61 134 r61_2 o61_2 [] := execI_reg' (by kernel_rfl)
noncomputable def l61_0 : Code := navF Try.f61 [1, 1, 0, 1, 0, 0]
noncomputable def r61_3 : Code := navF Try.f61 [1, 1, 0, 1, 0, 0, 0, 0]
noncomputable def o61_3 : List Oper := [sop (some 16) (.move (.tmp 6)) none,
    sop (some 17) (.fieldAddr 34 (.tmp 2) 2) none,
    sop (some 18) (.load 32 (.tmp 17)) none,
    sop (some 19) (.call { callee := (.builtin .len), args := #[(.tmp 18)], argTypes := #[32] }) none,
    sop (some 20) (.binOp .lss 3 (.tmp 16) (.tmp 19) 3) none]
theorem xr61_3 : Xr 61 134 r61_3 o61_3 [] := execI_reg' (by kernel_rfl)
noncomputable def r61_5 : Code := navF Try.f61 [1, 1, 0, 1, 0, 0, 1, 0, 0]
noncomputable def o61_5 : List Oper := [sop (some 23) (.move (.tmp 5)) none,
    sop (some 24) (.fieldAddr 34 (.tmp 3) 2) none,
    sop (some 25) (.load 32 (.tmp 24)) none,
    sop (some 26) (.call { callee := (.builtin .len), args := #[(.tmp 25)], argTypes := #[32] }) none,
    sop (some 27) (.makeSlice 123 (.tmp 26) (.tmp 26)) none,
    sop (some 28) (.buildSlice 127 1 #[(0, (.tmp 27))]) none,
    sop (some 29) (.call { callee := (.builtin .append), args := #[(.tmp 23), (.tmp 28)], argTypes := #[127, 127] }) none,
    sop (some 5) (.assign (.tmp 29)) none]
theorem xr61_5 : Xr 61 134 r61_5 o61_5 [] := execI_reg' (by kernel_rfl)
noncomputable def r61_4 : Code := navF Try.f61 [1, 1, 0, 1, 0, 0, 1, 1]
noncomputable def o61_4 : List Oper := [sop (some 21) (.move (.tmp 6)) none,
    sop (some 22) (.binOp .add 3 (.tmp 21) (.const (.int .i64 1)) 3) none,
    sop (some 6) (.assign (.tmp 22)) none]
theorem xr61_4 : Xr 61 134 r61_4 o61_4 [] := execI_reg' (by kernel_rfl)
theorem cl61_0 : l61_0 = (.seq (.seq r61_3 (.cond (.tmp 20) .skip (.exit 0))) (.seq (.block 1 r61_5) r61_4)) := by kernel_rfl
noncomputable def r61_6 : Code := navF Try.f61 [1, 1, 1, 0]
noncomputable def o61_6 : List Oper := [sop (some 30) (.move (.tmp 5)) none,
    sop (some 31) (.indexAddr 127 (.tmp 30) (.const (.int .i64 0))) none,
    sop (some 32) (.load 123 (.tmp 31)) none,
    sop (some 33) (.indexAddr 123 (.tmp 32) (.const (.int .i64 0))) none,
    sop none (.store 4 (.tmp 33) (.const (.bool true))) none]
theorem xr61_6 : Xr 61 134 r61_6 o61_6 [] := execI_reg' (by kernel_rfl)
noncomputable def r61_7 : Code := navF Try.f61 [1, 1, 1, 1, 0, 0]
noncomputable def o61_7 : List Oper := [sop (some 7) (.assign (.const (.int .i64 0))) none]
theorem xr61_7 : Xr 61 134 r61_7 o61_7 [] := execI_reg' (by kernel_rfl)
noncomputable def l61_1 : Code := navF Try.f61 [1, 1, 1, 1, 0, 1, 0, 0]
noncomputable def r61_8 : Code := navF Try.f61 [1, 1, 1, 1, 0, 1, 0, 0, 0, 0]
noncomputable def o61_8 : List Oper := [sop (some 34) (.move (.tmp 7)) none,
    sop (some 35) (.fieldAddr 34 (.tmp 2) 2) none,
    sop (some 36) (.load 32 (.tmp 35)) none,
    sop (some 37) (.call { callee := (.builtin .len), args := #[(.tmp 36)], argTypes := #[32] }) none,
    sop (some 38) (.fieldAddr 34 (.tmp 3) 2) none,
    sop (some 39) (.load 32 (.tmp 38)) none,
    sop (some 40) (.call { callee := (.builtin .len), args := #[(.tmp 39)], argTypes := #[32] }) none,
    sop (some 41) (.binOp .mul 3 (.tmp 37) (.tmp 40) 3) none,
    sop (some 42) (.binOp .lss 3 (.tmp 34) (.tmp 41) 3) none]
theorem xr61_8 : Xr 61 134 r61_8 o61_8 [] := execI_reg' (by kernel_rfl)
noncomputable def r61_10 : Code := navF Try.f61 [1, 1, 1, 1, 0, 1, 0, 0, 1, 0, 0, 0]
noncomputable def o61_10 : List Oper := [sop (some 8) (.assign (.const (.int .i64 0))) none]
theorem xr61_10 : Xr 61 134 r61_10 o61_10 [] := execI_reg' (by kernel_rfl)
noncomputable def l61_2 : Code := navF Try.f61 [1, 1, 1, 1, 0, 1, 0, 0, 1, 0, 0, 1, 0, 0]
noncomputable def r61_11 : Code := navF Try.f61 [1, 1, 1, 1, 0, 1, 0, 0, 1, 0, 0, 1, 0, 0, 0, 0]
noncomputable def o61_11 : List Oper := [sop (some 45) (.move (.tmp 8)) none,
    sop (some 46) (.fieldAddr 34 (.tmp 2) 2) none,
    sop (some 47) (.load 32 (.tmp 46)) none,
    sop (some 48) (.call { callee := (.builtin .len), args := #[(.tmp 47)], argTypes := #[32] }) none,
    sop (some 49) (.binOp .lss 3 (.tmp 45) (.tmp 48) 3) none]
theorem xr61_11 : Xr 61 134 r61_11 o61_11 [] := execI_reg' (by kernel_rfl)
noncomputable def r61_13 : Code := navF Try.f61 [1, 1, 1, 1, 0, 1, 0, 0, 1, 0, 0, 1, 0, 0, 1, 0, 0, 0]
noncomputable def o61_13 : List Oper := [sop (some 9) (.assign (.const (.int .i64 0))) none]
theorem xr61_13 : Xr 61 134 r61_13 o61_13 [] := execI_reg' (by kernel_rfl)
noncomputable def l61_3 : Code := navF Try.f61 [1, 1, 1, 1, 0, 1, 0, 0, 1, 0, 0, 1, 0, 0, 1, 0, 0, 1, 0, 0]
noncomputable def r61_14 : Code := navF Try.f61 [1, 1, 1, 1, 0, 1, 0, 0, 1, 0, 0, 1, 0, 0, 1, 0, 0, 1, 0, 0, 0, 0]
noncomputable def o61_14 : List Oper := [sop (some 52) (.move (.tmp 9)) none,
    sop (some 53) (.fieldAddr 34 (.tmp 3) 2) none,
    sop (some 54) (.load 32 (.tmp 53)) none,
    sop (some 55) (.call { callee := (.builtin .len), args := #[(.tmp 54)], argTypes := #[32] }) none,
    sop (some 56) (.binOp .lss 3 (.tmp 52) (.tmp 55) 3) none]
theorem xr61_14 : Xr 61 134 r61_14 o61_14 [] := execI_reg' (by kernel_rfl)
noncomputable def r61_16 : Code := navF Try.f61 [1, 1, 1, 1, 0, 1, 0, 0, 1, 0, 0, 1, 0, 0, 1, 0, 0, 1, 0, 0, 1, 0, 0, 0]
noncomputable def o61_16 : List Oper := [sop (some 10) (.assign (.const (.int .i64 0))) none]
theorem xr61_16 : Xr 61 134 r61_16 o61_16 [] := execI_reg' (by kernel_rfl)
noncomputable def l61_4 : Code := navF Try.f61 [1, 1, 1, 1, 0, 1, 0, 0, 1, 0, 0, 1, 0, 0, 1, 0, 0, 1, 0, 0, 1, 0, 0, 1, 0, 0]
noncomputable def r61_17 : Code := navF Try.f61 [1, 1, 1, 1, 0, 1, 0, 0, 1, 0, 0, 1, 0, 0, 1, 0, 0, 1, 0, 0, 1, 0, 0, 1, 0, 0, 0, 0]
noncomputable def o61_17 : List Oper := [sop (some 59) (.move (.tmp 10)) none,
    sop (some 60) (.fieldAddr 34 (.tmp 2) 0) none,
    sop (some 61) (.load 3 (.tmp 60)) none,
    sop (some 62) (.binOp .lss 3 (.tmp 59) (.tmp 61) 3) none,
    sop (some 63) (.move (.tmp 62)) none,
    sop (some 64) (.move (.tmp 5)) (some (4, true)),
    sop (some 65) (.move (.tmp 8)) (some (4, true)),
    sop (some 66) (.indexAddr 127 (.tmp 64) (.tmp 65)) (some (4, true)),
    sop (some 67) (.load 123 (.tmp 66)) (some (4, true)),
    sop (some 68) (.move (.tmp 9)) (some (4, true)),
    sop (some 69) (.indexAddr 123 (.tmp 67) (.tmp 68)) (some (4, true)),
    sop (some 70) (.load 4 (.tmp 69)) (some (4, true)),
    sop (some 71) (.pick (.tmp 63) (.tmp 70) (.const (.bool false))) none]
theorem xr61_17 : Xr 61 134 r61_17 o61_17 [] := execI_reg' (by kernel_rfl)
noncomputable def r61_19 : Code := navF Try.f61 [1, 1, 1, 1, 0, 1, 0, 0, 1, 0, 0, 1, 0, 0, 1, 0, 0, 1, 0, 0, 1, 0, 0, 1, 0, 0, 1, 0, 0, 0]
noncomputable def o61_19 : List Oper := [sop (some 74) (.fieldAddr 34 (.tmp 2) 2) none,
    sop (some 75) (.load 32 (.tmp 74)) none,
    sop (some 76) (.move (.tmp 8)) none,
    sop (some 77) (.indexAddr 32 (.tmp 75) (.tmp 76)) none,
    sop (some 78) (.load 72 (.tmp 77)) none,
    sop (some 79) (.move (.tmp 10)) none,
    sop (some 80) (.indexAddr 72 (.tmp 78) (.tmp 79)) none,
    sop (some 81) (.load 55 (.tmp 80)) none,
    sop (some 82) (.fieldAddr 34 (.tmp 3) 2) none,
    sop (some 83) (.load 32 (.tmp 82)) none,
    sop (some 84) (.move (.tmp 9)) none,
    sop (some 85) (.indexAddr 32 (.tmp 83) (.tmp 84)) none,
    sop (some 86) (.load 72 (.tmp 85)) none,
    sop (some 87) (.move (.tmp 10)) none,
    sop (some 88) (.indexAddr 72 (.tmp 86) (.tmp 87)) none,
    sop (some 89) (.load 55 (.tmp 88)) none,
    sop (some 11) (.alloc 55) none,
    sop (some 12) (.alloc 55) none,
    sop none (.store 55 (.tmp 11) (.tmp 81)) none,
    sop none (.store 55 (.tmp 12) (.tmp 89)) none]
theorem xr61_19 : Xr 61 134 r61_19 o61_19 [(1, 9), (4, 9), (7, 9), (1, 12), (4, 12), (7, 12), (1, 15), (4, 15), (7, 15), (1, 16), (4, 16), (7, 16), (9, 16), (12, 16), (15, 16), (1, 17), (4, 17), (7, 17), (9, 17), (12, 17), (15, 17), (16, 17), (9, 18), (12, 18), (15, 18)] := execI_reg' (by kernel_rfl)
noncomputable def r61_20 : Code := navF Try.f61 [1, 1, 1, 1, 0, 1, 0, 0, 1, 0, 0, 1, 0, 0, 1, 0, 0, 1, 0, 0, 1, 0, 0, 1, 0, 0, 1, 0, 0, 1, 0]
noncomputable def o61_20 : List Oper := [sop (some 90) (.fieldAddr 55 (.tmp 11) 0) none,
    sop (some 91) (.load 3 (.tmp 90)) none,
    sop (some 92) (.binOp .geq 3 (.tmp 91) (.const (.int .i64 0)) 3) none,
    sop (some 93) (.move (.tmp 92)) none,
    sop (some 94) (.fieldAddr 55 (.tmp 12) 0) (some (3, true)),
    sop (some 95) (.load 3 (.tmp 94)) (some (3, true)),
    sop (some 96) (.binOp .geq 3 (.tmp 95) (.const (.int .i64 0)) 3) (some (3, true)),
    sop (some 97) (.pick (.tmp 93) (.tmp 96) (.const (.bool false))) none]
theorem xr61_20 : Xr 61 134 r61_20 o61_20 [] := execI_reg' (by kernel_rfl)
noncomputable def r61_21 : Code := navF Try.f61 [1, 1, 1, 1, 0, 1, 0, 0, 1, 0, 0, 1, 0, 0, 1, 0, 0, 1, 0, 0, 1, 0, 0, 1, 0, 0, 1, 0, 0, 1, 1, 0]
noncomputable def o61_21 : List Oper := [sop (some 98) (.move (.tmp 5)) none,
    sop (some 99) (.fieldAddr 55 (.tmp 11) 0) none,
    sop (some 100) (.load 3 (.tmp 99)) none,
    sop (some 101) (.indexAddr 127 (.tmp 98) (.tmp 100)) none,
    sop (some 102) (.load 123 (.tmp 101)) none,
    sop (some 103) (.fieldAddr 55 (.tmp 12) 0) none,
    sop (some 104) (.load 3 (.tmp 103)) none,
    sop (some 105) (.indexAddr 123 (.tmp 102) (.tmp 104)) none,
    sop none (.store 4 (.tmp 105) (.const (.bool true))) none]
theorem xr61_21 : Xr 61 134 r61_21 o61_21 [(2, 6), (4, 6)] := execI_reg' (by kernel_rfl)
noncomputable def r61_18 : Code := navF Try.f61 [1, 1, 1, 1, 0, 1, 0, 0, 1, 0, 0, 1, 0, 0, 1, 0, 0, 1, 0, 0, 1, 0, 0, 1, 0, 0, 1, 1]
noncomputable def o61_18 : List Oper := [sop (some 72) (.move (.tmp 10)) none,
    sop (some 73) (.binOp .add 3 (.tmp 72) (.const (.int .i64 1)) 3) none,
    sop (some 10) (.assign (.tmp 73)) none]
theorem xr61_18 : Xr 61 134 r61_18 o61_18 [] := execI_reg' (by kernel_rfl)
theorem cl61_4 : l61_4 = (.seq (.seq r61_17 (.cond (.tmp 71) .skip (.exit 8))) (.seq (.block 9 (.seq r61_19 (.seq r61_20 (.cond (.tmp 97) r61_21 .skip)))) r61_18)) := by kernel_rfl
noncomputable def r61_15 : Code := navF Try.f61 [1, 1, 1, 1, 0, 1, 0, 0, 1, 0, 0, 1, 0, 0, 1, 0, 0, 1, 0, 0, 1, 1]
noncomputable def o61_15 : List Oper := [sop (some 57) (.move (.tmp 9)) none,
    sop (some 58) (.binOp .add 3 (.tmp 57) (.const (.int .i64 1)) 3) none,
    sop (some 9) (.assign (.tmp 58)) none]
theorem xr61_15 : Xr 61 134 r61_15 o61_15 [] := execI_reg' (by kernel_rfl)
theorem cl61_3 : l61_3 = (.seq (.seq r61_14 (.cond (.tmp 56) .skip (.exit 6))) (.seq (.block 7 (.seq r61_16 (.block 8 (.loop l61_4)))) r61_15)) := by kernel_rfl
noncomputable def r61_12 : Code := navF Try.f61 [1, 1, 1, 1, 0, 1, 0, 0, 1, 0, 0, 1, 0, 0, 1, 1]
noncomputable def o61_12 : List Oper := [sop (some 50) (.move (.tmp 8)) none,
    sop (some 51) (.binOp .add 3 (.tmp 50) (.const (.int .i64 1)) 3) none,
    sop (some 8) (.assign (.tmp 51)) none]
theorem xr61_12 : Xr 61 134 r61_12 o61_12 [] := execI_reg' (by kernel_rfl)
theorem cl61_2 : l61_2 = (.seq (.seq r61_11 (.cond (.tmp 49) .skip (.exit 4))) (.seq (.block 5 (.seq r61_13 (.block 6 (.loop l61_3)))) r61_12)) := by kernel_rfl
noncomputable def r61_9 : Code := navF Try.f61 [1, 1, 1, 1, 0, 1, 0, 0, 1, 1]
noncomputable def o61_9 : List Oper := [sop (some 43) (.move (.tmp 7)) none,
    sop (some 44) (.binOp .add 3 (.tmp 43) (.const (.int .i64 1)) 3) none,
    sop (some 7) (.assign (.tmp 44)) none]
theorem xr61_9 : Xr 61 134 r61_9 o61_9 [] := execI_reg' (by kernel_rfl)
theorem cl61_1 : l61_1 = (.seq (.seq r61_8 (.cond (.tmp 42) .skip (.exit 2))) (.seq (.block 3 (.seq r61_10 (.block 4 (.loop l61_2)))) r61_9)) := by kernel_rfl
noncomputable def r61_22 : Code := navF Try.f61 [1, 1, 1, 1, 1, 0]
noncomputable def o61_22 : List Oper := [sop (some 13) (.assign (.const (.slice none 0 0))) none]
theorem xr61_22 : Xr 61 134 r61_22 o61_22 [] := execI_reg' (by kernel_rfl)
noncomputable def r61_23 : Code := navF Try.f61 [1, 1, 1, 1, 1, 1, 0, 0]
noncomputable def o61_23 : List Oper := [sop (some 14) (.assign (.const (.int .i64 0))) none]
theorem xr61_23 : Xr 61 134 r61_23 o61_23 [] := execI_reg' (by kernel_rfl)
noncomputable def l61_5 : Code := navF Try.f61 [1, 1, 1, 1, 1, 1, 0, 1, 0, 0]
noncomputable def r61_24 : Code := navF Try.f61 [1, 1, 1, 1, 1, 1, 0, 1, 0, 0, 0, 0]
noncomputable def o61_24 : List Oper := [sop (some 106) (.move (.tmp 14)) none,
    sop (some 107) (.fieldAddr 34 (.tmp 2) 2) none,
    sop (some 108) (.load 32 (.tmp 107)) none,
    sop (some 109) (.call { callee := (.builtin .len), args := #[(.tmp 108)], argTypes := #[32] }) none,
    sop (some 110) (.binOp .lss 3 (.tmp 106) (.tmp 109) 3) none]
theorem xr61_24 : Xr 61 134 r61_24 o61_24 [] := execI_reg' (by kernel_rfl)
noncomputable def r61_26 : Code := navF Try.f61 [1, 1, 1, 1, 1, 1, 0, 1, 0, 0, 1, 0, 0, 0]
noncomputable def o61_26 : List Oper := [sop (some 15) (.assign (.const (.int .i64 0))) none]
theorem xr61_26 : Xr 61 134 r61_26 o61_26 [] := execI_reg' (by kernel_rfl)
noncomputable def l61_6 : Code := navF Try.f61 [1, 1, 1, 1, 1, 1, 0, 1, 0, 0, 1, 0, 0, 1, 0, 0]
noncomputable def r61_27 : Code := navF Try.f61 [1, 1, 1, 1, 1, 1, 0, 1, 0, 0, 1, 0, 0, 1, 0, 0, 0, 0]
noncomputable def o61_27 : List Oper := [sop (some 113) (.move (.tmp 15)) none,
    sop (some 114) (.fieldAddr 34 (.tmp 3) 2) none,
    sop (some 115) (.load 32 (.tmp 114)) none,
    sop (some 116) (.call { callee := (.builtin .len), args := #[(.tmp 115)], argTypes := #[32] }) none,
    sop (some 117) (.binOp .lss 3 (.tmp 113) (.tmp 116) 3) none]
theorem xr61_27 : Xr 61 134 r61_27 o61_27 [] := execI_reg' (by kernel_rfl)
noncomputable def r61_29 : Code := navF Try.f61 [1, 1, 1, 1, 1, 1, 0, 1, 0, 0, 1, 0, 0, 1, 0, 0, 1, 0, 0, 0]
noncomputable def o61_29 : List Oper := [sop (some 120) (.move (.tmp 5)) none,
    sop (some 121) (.move (.tmp 14)) none,
    sop (some 122) (.indexAddr 127 (.tmp 120) (.tmp 121)) none,
    sop (some 123) (.load 123 (.tmp 122)) none,
    sop (some 124) (.move (.tmp 15)) none,
    sop (some 125) (.indexAddr 123 (.tmp 123) (.tmp 124)) none,
    sop (some 126) (.load 4 (.tmp 125)) none]
theorem xr61_29 : Xr 61 134 r61_29 o61_29 [] := execI_reg' (by kernel_rfl)
noncomputable def r61_30 : Code := navF Try.f61 [1, 1, 1, 1, 1, 1, 0, 1, 0, 0, 1, 0, 0, 1, 0, 0, 1, 0, 0, 1, 0]
noncomputable def o61_30 : List Oper := [sop (some 127) (.move (.tmp 13)) none,
    sop (some 128) (.move (.tmp 14)) none,
    sop (some 129) (.move (.tmp 15)) none,
    sop (some 130) (.build 105 #[(0, (.tmp 128)), (1, (.tmp 129))]) none,
    sop (some 131) (.buildSlice 76 1 #[(0, (.tmp 130))]) none,
    sop (some 132) (.call { callee := (.builtin .append), args := #[(.tmp 127), (.tmp 131)], argTypes := #[76, 76] }) none,
    sop (some 13) (.assign (.tmp 132)) none]
theorem xr61_30 : Xr 61 134 r61_30 o61_30 [] := execI_reg' (by kernel_rfl)
noncomputable def r61_28 : Code := navF Try.f61 [1, 1, 1, 1, 1, 1, 0, 1, 0, 0, 1, 0, 0, 1, 0, 0, 1, 1]
noncomputable def o61_28 : List Oper := [sop (some 118) (.move (.tmp 15)) none,
    sop (some 119) (.binOp .add 3 (.tmp 118) (.const (.int .i64 1)) 3) none,
    sop (some 15) (.assign (.tmp 119)) none]
theorem xr61_28 : Xr 61 134 r61_28 o61_28 [] := execI_reg' (by kernel_rfl)
theorem cl61_6 : l61_6 = (.seq (.seq r61_27 (.cond (.tmp 117) .skip (.exit 12))) (.seq (.block 13 (.seq r61_29 (.cond (.tmp 126) r61_30 .skip))) r61_28)) := by kernel_rfl
noncomputable def r61_25 : Code := navF Try.f61 [1, 1, 1, 1, 1, 1, 0, 1, 0, 0, 1, 1]
noncomputable def o61_25 : List Oper := [sop (some 111) (.move (.tmp 14)) none,
    sop (some 112) (.binOp .add 3 (.tmp 111) (.const (.int .i64 1)) 3) none,
    sop (some 14) (.assign (.tmp 112)) none]
theorem xr61_25 : Xr 61 134 r61_25 o61_25 [] := execI_reg' (by kernel_rfl)
theorem cl61_5 : l61_5 = (.seq (.seq r61_24 (.cond (.tmp 110) .skip (.exit 10))) (.seq (.block 11 (.seq r61_26 (.block 12 (.loop l61_6)))) r61_25)) := by kernel_rfl
noncomputable def r61_31 : Code := navF Try.f61 [1, 1, 1, 1, 1, 1, 1, 0]
noncomputable def o61_31 : List Oper := [sop (some 133) (.move (.tmp 13)) none,
    sop (some 4) (.assign (.tmp 133)) none]
theorem xr61_31 : Xr 61 134 r61_31 o61_31 [] := execI_reg' (by kernel_rfl)
noncomputable def b61 : Code := (.seq r61_0 (.seq r61_1 (.seq (.seq r61_2 (.block 0 (.loop l61_0))) (.seq r61_6 (.seq (.seq r61_7 (.block 2 (.loop l61_1))) (.seq r61_22 (.seq (.seq r61_23 (.block 10 (.loop l61_5))) (.seq r61_31 .ret))))))))
theorem body61 : Try.f61.body = some b61 := by kernel_rfl
theorem fn61 : E.fn 61 = some Try.f61 := by kernel_rfl
theorem run61 (args : List D) (h : H) (hl : args.length ≤ 134) : bodyI E 61 args h = resOf E [(.tmp 4)] (execI E 61 134 b61 ⟨argA args, h⟩) := bodyI_res fn61 body61 rfl rfl args h hl
end Go.Eng.E3
namespace Go.Eng.E3
open Go Go.Eng Go.Proofs
set_option maxRecDepth 100000
attribute [local simp] execR runOps stepOp wantedD evalOp opd upd St.put Eff.apply upds looseOk FP.free FP.idle apart Eff.fp ofVal loadD storeD partD setPart indexAddrD isShift arith unD callOp mapO D.okc pickD buildable buildD placeD convD
set_option linter.unusedSimpArgs false
set_option linter.unusedVariables false
set_option maxHeartbeats 4000000
def msetT (mk : List (List Bool)) (s t : Nat) : List (List Bool) := mk.set s ((mk.getD s []).set t true)
def rel61 (a b : M) (s t : Nat) (mk : List (List Bool)) (i : Nat) : List (List Bool) :=
  if 0 ≤ (edge a s i).1 ∧ 0 ≤ (edge b t i).1 then msetT mk (edge a s i).1.toNat (edge b t i).1.toNat else mk
def cell61 (a b : M) (s t : Nat) : Nat → List (List Bool) → List (List Bool)
  | 0, mk => mk
  | k + 1, mk => if mget mk s t then cell61 a b s t k (rel61 a b s t mk (a.ins - (k + 1))) else mk
def row61 (a b : M) (s : Nat) : Nat → List (List Bool) → List (List Bool)
  | 0, mk => mk
  | t + 1, mk => cell61 a b s t a.ins (row61 a b s t mk)
def round61 (a b : M) : Nat → List (List Bool) → List (List Bool)
  | 0, mk => mk
  | s + 1, mk => row61 a b s b.rows.length (round61 a b s mk)
def all61 (a b : M) : Nat → List (List Bool) → List (List Bool)
  | 0, mk => mk
  | k + 1, mk => round61 a b a.rows.length (all61 a b k mk)
def start61 (a b : M) : List (List Bool) := msetT (List.replicate a.rows.length (List.replicate b.rows.length false)) 0 0
def outRow (mk : List (List Bool)) (s : Nat) : Nat → List (Int × Int)
  | 0 => []
  | t + 1 => outRow mk s t ++ (if mget mk s t then [((s : Int), (t : Int))] else [])
def outAll (mk : List (List Bool)) (m : Nat) : Nat → List (Int × Int)
  | 0 => []
  | s + 1 => outAll mk m s ++ outRow mk s m
def pairs61 (a b : M) : List (Int × Int) := outAll (all61 a b (a.rows.length * b.rows.length) (start61 a b)) b.rows.length a.rows.length
def SqN (n m : Nat) (mk : List (List Bool)) : Prop := mk.length = n ∧ ∀ r ∈ mk, r.length = m
theorem SqN.set {n m s t : Nat} {mk : List (List Bool)} (h : SqN n m mk) (hs : s < n) : SqN n m (msetT mk s t) := by
  unfold msetT
  refine ⟨by simpa using h.1, fun r hr => ?_⟩
  rcases List.mem_or_eq_of_mem_set hr with hr | rfl
  · exact h.2 r hr
  · have : mk.getD s [] = mk[s]'(by rw [h.1]; exact hs) := by simp [h.1, hs]
    rw [List.length_set, this]
    exact h.2 _ (List.getElem_mem _)
structure G61 (a b : M) (v : D) (N : Nat) (mk : List (List Bool)) (st : St) : Prop where
  h2 : st.A 2 = .ptr 0 0 0
  h3 : st.A 3 = .ptr 1 0 0
  h4 : st.A 4 = .frz [] .nil
  h5 : st.A 5 = v
  b0 : st.h.blk 0 = .live 3 [encM a]
  b1 : st.h.blk 1 = .live 3 [encM b]
  mt : Mat st.h v mk b.rows.length 2 N
  hN : 2 ≤ N
  hn : N ≤ st.h.next
  sq : SqN a.rows.length b.rows.length mk
theorem G61.step {a b : M} {v : D} {N : Nat} {mk : List (List Bool)} {A A' : Nat → D} {h h' : H} (g : G61 a b v N mk ⟨A, h⟩) (e : ∀ t, t < 6 → A' t = A t) (hb : ∀ x, x < N → h'.blk x = h.blk x) (hn : h.next ≤ h'.next) : G61 a b v N mk ⟨A', h'⟩ := by
  obtain ⟨q2, q3, q4, q5, q0, q1, m, hN, hn', sq⟩ := g
  simp only at q2 q3 q4 q5 q0 q1 hn'
  exact ⟨(e 2 (by omega)).trans q2, (e 3 (by omega)).trans q3, (e 4 (by omega)).trans q4, (e 5 (by omega)).trans q5, (hb 0 (by omega)).trans q0, (hb 1 (by omega)).trans q1, m.frame (fun x _ hx => hb x hx), hN, by simp only; omega, sq⟩
theorem G61.cell {a b : M} {v : D} {N : Nat} {mk : List (List Bool)} {st : St} (g : G61 a b v N mk st) {s : Nat} (hs : s < a.rows.length) :
    ∃ (bq : Nat) (bs : List Nat) (hs' : s < bs.length) (hs2 : s < mk.length), v = .sl bq 1 0 a.rows.length false ∧ st.h.blk bq = .live 1 (bs.map (rowV b.rows.length)) ∧ bs.length = a.rows.length ∧ st.h.blk bs[s] = .live 1 (mk[s].map .bool) ∧ mk[s].length = b.rows.length ∧ mk.getD s [] = mk[s] ∧ bq < N ∧ bs[s] < N ∧ bs[s] ≠ bq ∧ 2 ≤ bs[s] ∧ 2 ≤ bq := by
  have hl := g.sq.1
  rcases g.mt with ⟨rfl, _⟩ | ⟨bq, bs, _, rfl, m2, m3, m4, m5, m6, m7, m8⟩
  · simp at hl; omega
  have h1 : s < bs.length := by omega
  have h2 : s < mk.length := by omega
  obtain ⟨e1, e2⟩ := m8 s bs[s] mk[s] (List.getElem?_eq_getElem h1) (List.getElem?_eq_getElem h2)
  obtain ⟨e3, e4, e5⟩ := m6 _ (List.getElem_mem h1)
  exact ⟨bq, bs, h1, h2, by rw [hl], m2, by omega, e1, e2, by simp [h2], m5, e4, e5, e3, m4⟩
theorem G61.put {a b : M} {v : D} {N : Nat} {mk : List (List Bool)} {A A' : Nat → D} {h h' : H} (g : G61 a b v N mk ⟨A, h⟩) {s t bq : Nat} {bs : List Nat} (hs : s < a.rows.length) (hsb : s < bs.length) (hv : v = .sl bq 1 0 a.rows.length false) (hbq : h.blk bq = .live 1 (bs.map (rowV b.rows.length))) (hs2 : s < mk.length)
    (e : ∀ t, t < 6 → A' t = A t) (hc : h'.blk bs[s] = .live 1 ((mk[s].set t true).map .bool)) (hb : ∀ x, x < N → x ≠ bs[s] → h'.blk x = h.blk x) (hn : h.next ≤ h'.next) : G61 a b v N (msetT mk s t) ⟨A', h'⟩ := by
  obtain ⟨bq', bs', hs1, hs2', hv', w1, w2, w3, w4, w5, w6, w7, w8, w9, w10⟩ := g.cell hs
  have eb : bq' = bq := by rw [hv] at hv'; injection hv' with q; exact q.symm
  subst eb
  simp only at w1
  have ebs : bs' = bs := by
    rw [hbq] at w1
    injection w1 with _ w1
    have inj : ∀ (x y : List Nat), x.map (rowV b.rows.length) = y.map (rowV b.rows.length) → x = y := by
      intro x
      induction x with
      | nil => intro y hy; cases y with
        | nil => rfl
        | cons _ _ => simp at hy
      | cons a x ih => intro y hy; cases y with
        | nil => simp at hy
        | cons d y =>
          rw [List.map_cons, List.map_cons] at hy
          injection hy with hy1 hy2
          injection hy1 with hy1
          rw [hy1, ih y hy2]
    exact (inj _ _ w1).symm
  subst ebs
  obtain ⟨q2, q3, q4, q5, q0, q1, m, hN, hn', sq⟩ := g
  simp only at q2 q3 q4 q5 q0 q1 hn' m
  refine ⟨(e 2 (by omega)).trans q2, (e 3 (by omega)).trans q3, (e 4 (by omega)).trans q4, (e 5 (by omega)).trans q5, (hb 0 (by omega) (by omega)).trans q0, (hb 1 (by omega) (by omega)).trans q1, ?_, hN, by simp only; omega, sq.set hs⟩
  subst hv
  unfold msetT
  rw [w5]
  have hp := m.put (r := mk[s].set t true) (h' := ⟨h.next, upd h.blk bs'[s] (.live 1 ((mk[s].set t true).map .bool))⟩) hbq (List.getElem?_eq_getElem hs1) hs2 (by simpa using w4) (by simp [upd]) (fun x hx => upd_ne _ _ _ _ hx)
  refine hp.frame (fun x _ hx => ?_)
  by_cases hxc : x = bs'[s]
  · subst hxc; simp [upd, hc]
  · simp only [upd, hxc, if_false]; exact hb x hx hxc
structure J61e (a b : M) (v : D) (N : Nat) (R : List (List Bool)) (r s t k : Nat) (st : St) : Prop where
  le : k ≤ a.ins
  g : ∃ mk, G61 a b v N mk st ∧ cell61 a b s t k mk = R
  h7 : st.A 7 = .int .i64 r
  h8 : st.A 8 = .int .i64 s
  h9 : st.A 9 = .int .i64 t
  h10 : st.A 10 = .int .i64 ((a.ins - k : Nat) : Int)
structure K61e (a b : M) (v : D) (N : Nat) (R : List (List Bool)) (r s t : Nat) (st : St) : Prop where
  g : G61 a b v N R st
  h7 : st.A 7 = .int .i64 r
  h8 : st.A 8 = .int .i64 s
  h9 : st.A 9 = .int .i64 t
theorem loop61e {a b : M} (va : Valid a) (vb : Valid b) (hins : a.ins = b.ins) {v : D} {N r s t : Nat} {R : List (List Bool)} (hs : s < a.rows.length) (ht : t < b.rows.length) {Q : Po} (hQ : ∀ st, K61e a b v N R r s t st → Q.x 8 st) (k : Nat) (st : St) (hI : J61e a b v N R r s t k st) : V E 61 134 (.loop l61_4) st Q := by
  have i2 := va.i2
  refine V_while (J61e a b v N R r s t) ?_ k st hI
  rintro k ⟨A, h⟩ ⟨le, ⟨mk, g, hR⟩, h7, h8, h9, h10⟩
  obtain ⟨bq, bs, hsb, hs2, hv, w1, w2, w3, w4, w5, w6, w7, w8, w9, w10⟩ := g.cell hs
  obtain ⟨q2, q3, q4, q5, q0, q1, qm, qN, qn, qs⟩ := id g
  simp only at q2 q3 q4 q5 q0 q1 qn h7 h8 h9 h10 w1 w3
  rw [hv] at q5
  have hsI : (s : Int) < a.rows.length := by omega
  have htI : (t : Int) < b.rows.length := by omega
  have htl : t < mk[s].length := by omega
  have hmg : mget mk s t = mk[s][t] := by unfold mget; rw [w5]; simp [htl]
  have fin : ∀ (A' : Nat → D) (h' : H), (∀ t, t < 13 → A' t = A t) → (∀ x, x < N → h'.blk x = h.blk x) → h.next ≤ h'.next → R = mk → Q.x 8 ⟨A', h'⟩ := fun A' h' eA eb hn e => by
    subst e
    exact hQ _ ⟨g.step (fun t ht => eA t (by omega)) eb hn, (eA 7 (by omega)).trans h7, (eA 8 (by omega)).trans h8, (eA 9 (by omega)).trans h9⟩
  rw [cl61_4]
  cases k with
  | zero =>
    rw [Nat.sub_zero] at h10
    rw [cell61] at hR
    refine .assoc (.then xr61_17 (by simp [o61_17, builtinD, lenD, pD, argA, q2, q0, encM, h10]; rfl) ?_)
    refine .head (v := false) (by simp [opd, upd]) (fun q => by cases q) (fun _ => fin _ _ (fun t ht => by simp [upd, show ∀ c, 13 ≤ c → ¬ t = c from fun c h => by omega]) (fun _ _ => rfl) (by simp) hR.symm)
  | succ k =>
    obtain ⟨i, hi⟩ : ∃ i, a.ins - (k + 1) = i := ⟨_, rfl⟩
    have hlt : i < a.ins := by omega
    have hltI : (i : Int) < a.ins := by omega
    have hk' : a.ins - k = i + 1 := by omega
    have hw : IntKind.i64.wrap ((i : Int) + 1) = ((i + 1 : Nat) : Int) := by rw [wrap_id] <;> omega
    rw [hi] at h10
    rw [cell61, hmg, hi] at hR
    cases hc : mk[s][t] with
    | false =>
      rw [hc] at hR
      simp only [Bool.false_eq_true, if_false] at hR
      refine .assoc (.then xr61_17 (by simp [o61_17, builtinD, lenD, pD, argA, q2, q5, q0, encM, h8, h9, h10, hltI, hsI, hsb, w1, rowV, w3, htI, htl, hc]; rfl) ?_)
      refine .head (v := false) (by simp [opd, upd]) (fun q => by cases q) (fun _ => fin _ _ (fun t ht => by simp [upd, show ∀ c, 13 ≤ c → ¬ t = c from fun c h => by omega]) (fun _ _ => rfl) (by simp) hR.symm)
    | true =>
      rw [hc] at hR
      simp only [if_true] at hR
      have hsl : i < a.rows[s].length := by rw [va.len _ (List.getElem_mem hs)]; exact hlt
      have htl2 : i < b.rows[t].length := by rw [vb.len _ (List.getElem_mem ht)]; omega
      have ea : edge a s i = a.rows[s][i] := by simp [edge, hs, hsl]
      have eb : edge b t i = b.rows[t][i] := by simp [edge, ht, htl2]
      have oka := edge_ok va hs hlt
      have okb := edge_ok vb ht (by omega : i < b.ins)
      unfold rel61 at hR
      rw [ea] at oka hR
      rw [eb] at okb hR
      obtain ⟨x, hx⟩ : ∃ x, a.rows[s][i] = x := ⟨_, rfl⟩
      obtain ⟨y, hy⟩ : ∃ y, b.rows[t][i] = y := ⟨_, rfl⟩
      rw [hx] at oka hR
      rw [hy] at okb hR
      refine .assoc (.then xr61_17 (by simp [o61_17, builtinD, lenD, pD, argA, q2, q5, q0, encM, h8, h9, h10, hltI, hsI, hsb, w1, rowV, w3, htI, htl, hc]; rfl) ?_)
      refine .head (v := true) (by simp [opd, upd]) (fun _ => ?_) (fun q => by cases q)
      have nxt : ∀ (A2 : Nat → D) (h2 : H) (mk' : List (List Bool)), G61 a b v N mk' ⟨A2, h2⟩ → (∀ t, t < 11 → A2 t = A t) → cell61 a b s t k mk' = R → V E 61 134 r61_18 ⟨A2, h2⟩ (Q.upto fun s' => ∃ k', k' < k + 1 ∧ J61e a b v N R r s t k' s') := by
        intro A2 h2 mk' g2 eA hR2
        have e10 := (eA 10 (by omega)).trans h10
        refine .reg xr61_18 (by simp [o61_18, builtinD, lenD, pD, argA, e10, hw]; rfl) ⟨k, by omega, ?_⟩
        refine ⟨by omega, ⟨mk', g2.step (fun t ht => by simp [upd, show ∀ c, 10 ≤ c → ¬ t = c from fun c h => by omega]) (fun _ _ => rfl) (by simp), hR2⟩, ?_, ?_, ?_, ?_⟩
        · simp [upd, eA, h7]
        · simp [upd, eA, h8]
        · simp [upd, eA, h9]
        · simp [upd, hk']
      have n0 : ∀ q, ¬ (0 : Nat) = h.next + 13 + q := by omega
      have n1 : ∀ q, ¬ (1 : Nat) = h.next + 13 + q := by omega
      refine .seq (.block (.then xr61_19 (by simp [o61_19, builtinD, lenD, pD, argA, q2, q3, q0, q1, encM, h8, h9, h10, hs, ht, hsl, htl2, hx, hy, rowD]; rfl) ?_))
      have n2 : ∀ q, ¬ h.next + 13 + 16 = h.next + 13 + 17 + q := by omega
      by_cases c1 : 0 ≤ x.1 ∧ 0 ≤ y.1
      · rw [if_pos c1] at hR
        have hx2 : x.1.toNat < a.rows.length := by rcases oka with rfl | q; exact absurd c1.1 (by decide); omega
        have hy2 : y.1.toNat < b.rows.length := by rcases okb with rfl | q; exact absurd c1.2 (by decide); omega
        have hxI : x.1 < (a.rows.length : Int) := by omega
        have hyI : y.1 < (b.rows.length : Int) := by omega
        obtain ⟨bq', bs', hsb', hs2', hv', z1, z2, z3, z4, z5, z6, z7, z8, z9, z10⟩ := g.cell hx2
        have eqb : bq' = bq := by rw [hv] at hv'; injection hv' with q; exact q.symm
        subst eqb
        simp only at z1 z3
        have hyl : y.1.toNat < mk[x.1.toNat].length := by omega
        have m1 : ∀ q, ¬ bq' = h.next + 13 + q := by omega
        have m2 : ∀ q, ¬ bs'[x.1.toNat] = h.next + 13 + q := by omega
        refine .then xr61_20 (by simp [o61_20, builtinD, lenD, pD, argA, c1.1, c1.2]; rfl) ?_
        refine .cond (v := true) (by simp [opd, upd]) (fun _ => ?_) (fun q => by cases q)
        refine .reg xr61_21 (by simp [o61_21, builtinD, lenD, pD, argA, q5, z1, z3, rowV, c1.1, c1.2, hxI, hyI, hsb', hyl, m1, m2]; rfl) ?_
        refine nxt _ _ (msetT mk x.1.toNat y.1.toNat) (g.put hx2 hsb' hv z1 hs2' (fun t ht => ?_) ?_ (fun z hz hzc => ?_) (by simp <;> omega)) (fun t ht => ?_) hR
        · simp [upd, show ∀ c, 6 ≤ c → ¬ t = c from fun c h => by omega]
        · simp [upds, upd, List.map_set]
        · simp [upds, upd, hzc, show ¬ z = h.next + 13 + 16 by omega, show ¬ z = h.next + 13 + 17 by omega]
        · simp [upd, show ∀ c, 11 ≤ c → ¬ t = c from fun c h => by omega]
      · rw [if_neg c1] at hR
        have skip : ∀ (A2 : Nat → D) (h2 : H), (∀ t, t < 11 → A2 t = A t) → (∀ x, x < N → h2.blk x = h.blk x) → h.next ≤ h2.next → V E 61 134 r61_18 ⟨A2, h2⟩ (Q.upto fun s' => ∃ k', k' < k + 1 ∧ J61e a b v N R r s t k' s') := fun A2 h2 eA eb hn =>
          nxt A2 h2 mk (g.step (fun t ht => eA t (by omega)) eb hn) eA hR
        by_cases c2 : 0 ≤ x.1
        · have c3 : ¬ 0 ≤ y.1 := fun e => c1 ⟨c2, e⟩
          have c3' : y.1 < 0 := by omega
          refine .then xr61_20 (by simp [o61_20, builtinD, lenD, pD, argA, c2, c3, c3']; rfl) ?_
          refine .cond (v := false) (by simp [opd, upd] <;> omega) (fun q => by cases q) (fun _ => .skip ?_)
          refine skip _ _ (fun t ht => by simp [upd, show ∀ c, 11 ≤ c → ¬ t = c from fun c h => by omega]) (fun z hz => ?_) (by simp <;> omega)
          simp [upds, upd, show ¬ z = h.next + 13 + 16 by omega, show ¬ z = h.next + 13 + 17 by omega]
        · have c2' : x.1 < 0 := by omega
          refine .then xr61_20 (by simp [o61_20, builtinD, lenD, pD, argA, c2, c2']; rfl) ?_
          refine .cond (v := false) (by simp [opd, upd] <;> omega) (fun q => by cases q) (fun _ => .skip ?_)
          refine skip _ _ (fun t ht => by simp [upd, show ∀ c, 11 ≤ c → ¬ t = c from fun c h => by omega]) (fun z hz => ?_) (by simp <;> omega)
          simp [upds, upd, show ¬ z = h.next + 13 + 16 by omega, show ¬ z = h.next + 13 + 17 by omega]
structure C61 (a b : M) (v : D) (N : Nat) (mk : List (List Bool)) (r s : Int) (st : St) : Prop where
  g : G61 a b v N mk st
  h7 : st.A 7 = .int .i64 r
  h8 : st.A 8 = .int .i64 s
theorem loop61d {a b : M} (va : Valid a) (vb : Valid b) (hins : a.ins = b.ins) {v : D} {N r s : Nat} {mk0 : List (List Bool)} (hs : s < a.rows.length) {Q : Po} (hQ : ∀ st, C61 a b v N (row61 a b s b.rows.length mk0) r s st → Q.x 6 st) (k : Nat) (st : St)
    (hI : k ≤ b.rows.length ∧ C61 a b v N (row61 a b s (b.rows.length - k) mk0) r s st ∧ st.A 9 = .int .i64 ((b.rows.length - k : Nat) : Int)) : V E 61 134 (.loop l61_3) st Q := by
  have r2 := vb.r2
  refine V.count (fun k st => k ≤ b.rows.length ∧ C61 a b v N (row61 a b s (b.rows.length - k) mk0) r s st ∧ st.A 9 = .int .i64 ((b.rows.length - k : Nat) : Int)) ?_ ?_ k st hI
  · rintro k ⟨A, h⟩ ⟨le, ⟨g, h7, h8⟩, h9⟩
    have hlt : b.rows.length - (k + 1) < b.rows.length := by omega
    generalize hi : b.rows.length - (k + 1) = t at *
    have hk' : b.rows.length - k = t + 1 := by omega
    have hltI : (t : Int) < b.rows.length := by omega
    have hw : IntKind.i64.wrap ((t : Int) + 1) = ((t + 1 : Nat) : Int) := by rw [wrap_id] <;> omega
    have q3 := g.h3
    have q1 := g.b1
    simp only at q3 q1 h7 h8 h9
    rw [cl61_3]
    refine .assoc (.then xr61_14 (by simp [o61_14, builtinD, lenD, pD, argA, q3, q1, encM, h9, hltI]; rfl) ?_)
    refine .head (v := true) (by simp [opd, upd] <;> omega) (fun _ => ?_) (fun q => by cases q)
    refine .seq (.block (.then xr61_16 (by simp [o61_16, builtinD, lenD, pD, argA]; rfl) ?_))
    refine .block (loop61e va vb hins (v := v) (N := N) (r := r) (s := s) (t := t) (R := cell61 a b s t a.ins (row61 a b s t mk0)) hs hlt ?_ a.ins _ ⟨Nat.le_refl _, ⟨_, g.step (fun t ht => ?_) (fun _ _ => rfl) ?_, rfl⟩, ?_, ?_, ?_, ?_⟩)
    · rintro ⟨A2, h2⟩ ⟨g2, e7, e8, e9⟩
      simp only at e9
      show V E 61 134 r61_15 _ _
      refine .reg xr61_15 (by simp [o61_15, builtinD, lenD, pD, argA, e9, hw]; rfl) ?_
      refine ⟨by omega, ⟨?_, ?_, ?_⟩, ?_⟩
      · rw [hk']
        exact g2.step (fun t ht => by simp [upd, show ∀ c, 9 ≤ c → ¬ t = c from fun c h => by omega]) (fun _ _ => rfl) (by simp)
      · simpa [upd] using e7
      · simpa [upd] using e8
      · simp [upd, hk']
    · simp [upd, show ∀ c, 9 ≤ c → ¬ t = c from fun c h => by omega]
    · simp <;> omega
    · simp [upd, h7]
    · simp [upd, h8]
    · simp [upd, h9]
    · simp [upd]
  · rintro ⟨A, h⟩ ⟨le, ⟨g, h7, h8⟩, h9⟩
    have q3 := g.h3
    have q1 := g.b1
    simp only at q3 q1 h7 h8 h9
    rw [Nat.sub_zero] at h9 g
    rw [cl61_3]
    refine .assoc (.then xr61_14 (by simp [o61_14, builtinD, lenD, pD, argA, q3, q1, encM, h9]; rfl) ?_)
    refine .head (v := false) (by simp [opd, upd]) (fun q => by cases q) (fun _ => hQ _ ⟨g.step (fun t ht => ?_) (fun _ _ => rfl) (by simp), ?_, ?_⟩)
    · simp [upd, show ∀ c, 9 ≤ c → ¬ t = c from fun c h => by omega]
    · simp [upd, h7]
    · simp [upd, h8]
theorem loop61c {a b : M} (va : Valid a) (vb : Valid b) (hins : a.ins = b.ins) {v : D} {N r : Nat} {mk0 : List (List Bool)} {Q : Po} (hQ : ∀ st, G61 a b v N (round61 a b a.rows.length mk0) st → st.A 7 = .int .i64 r → Q.x 4 st) (k : Nat) (st : St)
    (hI : k ≤ a.rows.length ∧ C61 a b v N (round61 a b (a.rows.length - k) mk0) r ((a.rows.length - k : Nat) : Int) st) : V E 61 134 (.loop l61_2) st Q := by
  have r2 := va.r2
  refine V.count (fun k st => k ≤ a.rows.length ∧ C61 a b v N (round61 a b (a.rows.length - k) mk0) r ((a.rows.length - k : Nat) : Int) st) ?_ ?_ k st hI
  · rintro k ⟨A, h⟩ ⟨le, g, h7, h8⟩
    have hlt : a.rows.length - (k + 1) < a.rows.length := by omega
    generalize hi : a.rows.length - (k + 1) = s at *
    have hk' : a.rows.length - k = s + 1 := by omega
    have hltI : (s : Int) < a.rows.length := by omega
    have hw : IntKind.i64.wrap ((s : Int) + 1) = ((s + 1 : Nat) : Int) := by rw [wrap_id] <;> omega
    have q2 := g.h2
    have q0 := g.b0
    simp only at q2 q0 h7 h8
    rw [cl61_2]
    refine .assoc (.then xr61_11 (by simp [o61_11, builtinD, lenD, pD, argA, q2, q0, encM, h8, hltI]; rfl) ?_)
    refine .head (v := true) (by simp [opd, upd] <;> omega) (fun _ => ?_) (fun q => by cases q)
    refine .seq (.block (.then xr61_13 (by simp [o61_13, builtinD, lenD, pD, argA]; rfl) ?_))
    refine .block (loop61d va vb hins (v := v) (N := N) (r := r) (s := s) (mk0 := round61 a b s mk0) hlt ?_ b.rows.length _ ⟨Nat.le_refl _, ⟨?_, ?_, ?_⟩, ?_⟩)
    · rintro ⟨A2, h2⟩ ⟨g2, e7, e8⟩
      simp only at e8
      show V E 61 134 r61_12 _ _
      refine .reg xr61_12 (by simp [o61_12, builtinD, lenD, pD, argA, e8, hw]; rfl) ?_
      refine ⟨by omega, ?_, ?_, ?_⟩
      · rw [hk']
        exact g2.step (fun t ht => by simp [upd, show ∀ c, 8 ≤ c → ¬ t = c from fun c h => by omega]) (fun _ _ => rfl) (by simp)
      · simpa [upd] using e7
      · simp [upd, hk']
    · rw [Nat.sub_self]
      exact g.step (fun t ht => by simp [upd, show ∀ c, 8 ≤ c → ¬ t = c from fun c h => by omega]) (fun _ _ => rfl) (by simp <;> omega)
    · simp [upd, h7]
    · simp [upd, h8]
    · simp [upd]
  · rintro ⟨A, h⟩ ⟨le, g, h7, h8⟩
    have q2 := g.h2
    have q0 := g.b0
    simp only at q2 q0 h7 h8
    rw [Nat.sub_zero] at h8 g
    rw [cl61_2]
    refine .assoc (.then xr61_11 (by simp [o61_11, builtinD, lenD, pD, argA, q2, q0, encM, h8]; rfl) ?_)
    refine .head (v := false) (by simp [opd, upd]) (fun q => by cases q) (fun _ => hQ _ (g.step (fun t ht => ?_) (fun _ _ => rfl) (by simp)) ?_)
    · simp [upd, show ∀ c, 8 ≤ c → ¬ t = c from fun c h => by omega]
    · simp [upd, h7]
theorem loop61b {a b : M} (va : Valid a) (vb : Valid b) (hins : a.ins = b.ins) {v : D} {N : Nat} {mk0 : List (List Bool)} {Q : Po} (hQ : ∀ st, G61 a b v N (all61 a b (a.rows.length * b.rows.length) mk0) st → Q.x 2 st) (k : Nat) (st : St)
    (hI : k ≤ a.rows.length * b.rows.length ∧ G61 a b v N (all61 a b (a.rows.length * b.rows.length - k) mk0) st ∧ st.A 7 = .int .i64 ((a.rows.length * b.rows.length - k : Nat) : Int)) : V E 61 134 (.loop l61_1) st Q := by
  have hmul : a.rows.length * b.rows.length ≤ 64 * 64 := Nat.mul_le_mul va.r2 vb.r2
  have hmw : IntKind.i64.wrap ((a.rows.length : Int) * b.rows.length) = ((a.rows.length * b.rows.length : Nat) : Int) := by rw [wrap_id] <;> rw [← Int.natCast_mul] <;> omega
  refine V.count (fun k st => k ≤ a.rows.length * b.rows.length ∧ G61 a b v N (all61 a b (a.rows.length * b.rows.length - k) mk0) st ∧ st.A 7 = .int .i64 ((a.rows.length * b.rows.length - k : Nat) : Int)) ?_ ?_ k st hI
  · rintro k ⟨A, h⟩ ⟨le, g, h7⟩
    have hlt : a.rows.length * b.rows.length - (k + 1) < a.rows.length * b.rows.length := by omega
    generalize hi : a.rows.length * b.rows.length - (k + 1) = r at *
    have hk' : a.rows.length * b.rows.length - k = r + 1 := by omega
    have hltI : (r : Int) < ((a.rows.length * b.rows.length : Nat) : Int) := by omega
    have hw : IntKind.i64.wrap ((r : Int) + 1) = ((r + 1 : Nat) : Int) := by rw [wrap_id] <;> omega
    have q2 := g.h2
    have q0 := g.b0
    have q3 := g.h3
    have q1 := g.b1
    simp only at q2 q0 q3 q1 h7
    rw [cl61_1]
    refine .assoc (.then xr61_8 (by simp [o61_8, builtinD, lenD, pD, argA, q2, q0, q3, q1, encM, h7, hmw]; rfl) ?_)
    refine .head (v := decide ((r : Int) < ((a.rows.length * b.rows.length : Nat) : Int))) (by simp [opd, upd]) (fun _ => ?_) (fun q => by rw [decide_eq_true hltI] at q; cases q)
    refine .seq (.block (.then xr61_10 (by simp [o61_10, builtinD, lenD, pD, argA]; rfl) ?_))
    refine .block (loop61c va vb hins (v := v) (N := N) (r := r) (mk0 := all61 a b r mk0) ?_ a.rows.length _ ⟨Nat.le_refl _, ⟨?_, ?_, ?_⟩⟩)
    · rintro ⟨A2, h2⟩ g2 e7
      simp only at e7
      show V E 61 134 r61_9 _ _
      refine .reg xr61_9 (by simp [o61_9, builtinD, lenD, pD, argA, e7, hw]; rfl) ?_
      refine ⟨by omega, ?_, ?_⟩
      · rw [hk']
        exact g2.step (fun t ht => by simp [upd, show ∀ c, 7 ≤ c → ¬ t = c from fun c h => by omega]) (fun _ _ => rfl) (by simp)
      · simp [upd, hk']
    · rw [Nat.sub_self]
      exact g.step (fun t ht => by simp [upd, show ∀ c, 7 ≤ c → ¬ t = c from fun c h => by omega]) (fun _ _ => rfl) (by simp <;> omega)
    · simp [upd, h7]
    · simp [upd]
  · rintro ⟨A, h⟩ ⟨le, g, h7⟩
    have q2 := g.h2
    have q0 := g.b0
    have q3 := g.h3
    have q1 := g.b1
    simp only at q2 q0 q3 q1 h7
    rw [Nat.sub_zero] at h7 g
    rw [cl61_1]
    refine .assoc (.then xr61_8 (by simp [o61_8, builtinD, lenD, pD, argA, q2, q0, q3, q1, encM, h7, hmw]; rfl) ?_)
    refine .head (v := false) (by simp [opd, upd]) (fun q => by cases q) (fun _ => hQ _ (g.step (fun t ht => ?_) (fun _ _ => rfl) (by simp)))
    simp [upd, show ∀ c, 7 ≤ c → ¬ t = c from fun c h => by omega]
end Go.Eng.E3
namespace Go.Eng.E3
open Go Go.Eng Go.Proofs
set_option maxRecDepth 100000
attribute [local simp] execR runOps stepOp wantedD evalOp opd upd St.put Eff.apply upds looseOk FP.free FP.idle apart Eff.fp ofVal loadD storeD partD setPart indexAddrD isShift arith unD callOp mapO D.okc pickD buildable buildD placeD convD
set_option linter.unusedSimpArgs false
set_option linter.unusedVariables false
set_option maxHeartbeats 4000000
theorem mu61a : E.pol.mu 61 123 = true := by decide
theorem mu61b : E.pol.mu 61 127 = true := by decide
theorem mu61c : E.pol.mu 61 76 = false := by decide
structure P61 (a b : M) (k : Nat) (st : St) : Prop where
  le : k ≤ a.rows.length
  h2 : st.A 2 = .ptr 0 0 0
  h3 : st.A 3 = .ptr 1 0 0
  h4 : st.A 4 = .frz [] .nil
  b0 : st.h.blk 0 = .live 3 [encM a]
  b1 : st.h.blk 1 = .live 3 [encM b]
  h6 : st.A 6 = .int .i64 ((a.rows.length - k : Nat) : Int)
  mt : Mat st.h (st.A 5) (List.replicate (a.rows.length - k) (List.replicate b.rows.length false)) b.rows.length 2 st.h.next
  hn : 2 ≤ st.h.next
theorem loop61a {a b : M} (va : Valid a) (vb : Valid b) {Q : Po} (hQ : ∀ st, P61 a b 0 st → Q.x 0 st) (k : Nat) (st : St) (hI : P61 a b k st) : V E 61 134 (.loop l61_0) st Q := by
  have r2 := va.r2
  have r2' := vb.r2
  refine V.count (P61 a b) ?_ ?_ k st hI
  · rintro k ⟨A, h⟩ ⟨le, h2, h3, h4, b0, b1, h6, hm, hn⟩
    have hlt : a.rows.length - (k + 1) < a.rows.length := by omega
    generalize hi : a.rows.length - (k + 1) = s at *
    have hk' : a.rows.length - k = s + 1 := by omega
    have hltI : (s : Int) < a.rows.length := by omega
    have hw : IntKind.i64.wrap ((s : Int) + 1) = ((s + 1 : Nat) : Int) := by rw [wrap_id] <;> omega
    simp only at h2 h3 h4 b0 b1 h6 hm hn
    have hmk : (b.rows.length : Int) ≤ 140737488355328 := by omega
    rw [cl61_0]
    refine .assoc (.then xr61_3 (by simp [o61_3, builtinD, lenD, pD, argA, h2, b0, encM, h6, hltI]; rfl) ?_)
    refine .head (v := true) (by simp [opd, upd] <;> omega) (fun _ => ?_) (fun q => by cases q)
    have rest : ∀ (A2 : Nat → D) (h' : H), (∀ t, t < 5 ∨ t = 6 → A2 t = A t) → (∀ x, x < 2 → h'.blk x = h.blk x) → h.next ≤ h'.next → Mat h' (A2 5) (List.replicate s (List.replicate b.rows.length false) ++ [List.replicate b.rows.length false]) b.rows.length 2 h'.next → V E 61 134 r61_4 ⟨A2, h'⟩ (Q.upto (P61 a b k)) := by
      intro A2 h' eA eb hnx m2
      have e6 := (eA 6 (by omega)).trans h6
      refine .reg xr61_4 (by simp [o61_4, builtinD, lenD, pD, argA, e6, hw]; rfl) ?_
      refine ⟨by omega, ?_, ?_, ?_, ?_, ?_, ?_, ?_, ?_⟩
      · simp [upd, eA, h2]
      · simp [upd, eA, h3]
      · simp [upd, eA, h4]
      · simpa [upds] using (eb 0 (by omega)).trans b0
      · simpa [upds] using (eb 1 (by omega)).trans b1
      · simp [upd, hk']
      · rw [hk', List.replicate_succ']
        simpa [upd, upds] using m2.nx (h'.next + 3) (hi' := h'.next + 3) (by omega)
      · simp <;> omega
    have hap : (s + 1) * 24 * 2 ≤ 140737488355328 := by omega
    have hm0 := hm
    rcases hm with ⟨e0, hv0⟩ | ⟨bq, bs, _, hv, g2, g3, g4, g5, g6, g7, g8⟩
    · have hs0 : s = 0 := by
        cases s with
        | zero => rfl
        | succ s => simp at e0
      refine .seq (.block (.reg (xr61_5) (by simp [o61_5, builtinD, lenD, pD, argA, hv0, h3, b1, encM, elemsD, appendD, hmk, snapDepth, mapK, mu61a, mu61b, maxAppend, show List.range 1 = [0] from rfl]; rfl) ?_))
      rw [hv0] at hm0
      refine rest _ _ (fun t ht => ?_) (fun x hx => ?_) (by simp <;> omega) ?_
      · rcases ht with ht | rfl
        · simp [upd, show ∀ c, 5 ≤ c → ¬ t = c from fun c h => by omega]
        · simp [upd]
      · simp [upds, upd, show ∀ q, ¬ x = h.next + 5 + q by omega]
      · have hp := hm0.push (h' := ⟨h.next + 5 + 8, upds (upds (upds h.blk [(h.next + 5 + 4, .live 1 (List.replicate b.rows.length (.bool false)))]) [(h.next + 5 + 5, .live 1 [rowV b.rows.length (h.next + 5 + 4)])]) [(h.next + 5 + 6, .live 1 [rowV b.rows.length (h.next + 5 + 4)])]⟩) (c := h.next + 5 + 4) (s := h.next + 5 + 6) (r := List.replicate b.rows.length false) hn (by omega) (by omega) (by omega) (by simp) (by simp [upds, upd]) (fun x _ hx _ => by simp [upds, upd, show ∀ q, ¬ x = h.next + 5 + q by omega]) (by simp [upds, upd])
        have hl : (List.replicate s (List.replicate b.rows.length false)).length + 1 = 1 := by simp [hs0]
        rw [hl] at hp
        simpa [upd, upds, rowV] using hp.nx (h.next + 5 + 8) (hi' := h.next + 5 + 8) (by omega)
    · have hl : (List.replicate s (List.replicate b.rows.length false)).length = s := by simp
      rw [hl] at hv g3
      have htk : List.take s (List.map (rowV b.rows.length) bs) = List.map (rowV b.rows.length) bs := List.take_of_length_le (by simp; omega)
      have nb : ∀ q, ¬ bq = h.next + 5 + q := by omega
      refine .seq (.block (.reg (xr61_5) (by simp [o61_5, builtinD, lenD, pD, argA, hv, g2, g3, h3, b1, encM, elemsD, appendD, hmk, hap, htk, nb, snapDepth, mapK, mu61a, mu61b, maxAppend, rowV, show List.range 1 = [0] from rfl]; rfl) ?_))
      rw [hv] at hm0
      refine rest _ _ (fun t ht => ?_) (fun x hx => ?_) (by simp <;> omega) ?_
      · rcases ht with ht | rfl
        · simp [upd, show ∀ c, 5 ≤ c → ¬ t = c from fun c h => by omega]
        · simp [upd]
      · simp [upds, upd, show ∀ q, ¬ x = h.next + 5 + q by omega, show ¬ x = bq by omega]
      · have hp := hm0.push (h' := ⟨h.next + 5 + 8, upds (upds (upds h.blk [(h.next + 5 + 4, .live 1 (List.replicate b.rows.length (.bool false)))]) [(h.next + 5 + 5, .live 1 [rowV b.rows.length (h.next + 5 + 4)])]) [(bq, .dead), (h.next + 5 + 6, .live 1 (bs.map (rowV b.rows.length) ++ [rowV b.rows.length (h.next + 5 + 4)]))]⟩) (c := h.next + 5 + 4) (s := h.next + 5 + 6) (r := List.replicate b.rows.length false) hn (by omega) (by omega) (by omega) (by simp) (by simp [upds, upd] <;> omega) (fun x _ hx hne => by
          have : x ≠ bq := fun e => hne (by rw [e, hl])
          simp [upds, upd, this, show ∀ q, ¬ x = h.next + 5 + q by omega]) (by simp [upds, upd, g2])
        rw [hl] at hp
        simpa [upd, upds, rowV] using hp.nx (h.next + 5 + 8) (hi' := h.next + 5 + 8) (by omega)
  · rintro ⟨A, h⟩ ⟨le, h2, h3, h4, b0, b1, h6, hm, hn⟩
    simp only at h2 h3 h4 b0 b1 h6 hm hn
    rw [Nat.sub_zero] at h6 hm
    rw [cl61_0]
    refine .assoc (.then xr61_3 (by simp [o61_3, builtinD, lenD, pD, argA, h2, b0, encM, h6]; rfl) ?_)
    refine .head (v := false) (by simp [opd, upd]) (fun q => by cases q) (fun _ => hQ _ ⟨by omega, ?_, ?_, ?_, b0, b1, ?_, ?_, ?_⟩)
    · simp [upd, h2]
    · simp [upd, h3]
    · simp [upd, h4]
    · simp [upd, h6]
    · rw [Nat.sub_zero]; simpa [upd, upds] using hm.nx (h.next + 5) (hi' := h.next + 5) (by omega)
    · simp <;> omega
end Go.Eng.E3
namespace Go.Eng.E3
open Go Go.Eng Go.Proofs
set_option maxRecDepth 100000
attribute [local simp] execR runOps stepOp wantedD evalOp opd upd St.put Eff.apply upds looseOk FP.free FP.idle apart Eff.fp ofVal loadD storeD partD setPart indexAddrD isShift arith unD callOp mapO D.okc pickD buildable buildD placeD convD
set_option linter.unusedSimpArgs false
set_option linter.unusedVariables false
set_option maxHeartbeats 4000000
theorem app76f {mu : TypeId → Bool} {s : Nat} {blk : Nat → Blk} {xs : List (Int × Int)} {tk tk' : Tok} {x : Int × Int} {nx : Nat} (hmu : mu 76 = false) (ht : TokB blk tk 2 nx) (hl : xs.length < 2 ^ 39) :
    builtinD E.T mu s blk .append [76, 76] [.frz (xs.map pD) tk, .frz [.agg [.int .i64 x.1, .int .i64 x.2]] tk'] = some { v := .frz ((xs ++ [x]).map pD) (.own s 2), wr := tokWr tk s, rd := tokRd tk } := by
  have hall : ∀ z ∈ xs.map pD ++ [pD x], z.cells.length = 2 := fun z hz => by
    rcases List.mem_append.1 hz with hz | hz
    · obtain ⟨y, _, rfl⟩ := List.mem_map.1 hz; rfl
    · simp at hz; subst hz; rfl
  have hle : ((xs.map pD).length + [pD x].length) * 16 * 2 ≤ maxAppend := by
    simp only [List.length_map, List.length_singleton, maxAppend]; omega
  have hsn : mapK (snap false blk snapDepth) [pD x] = some ([pD x], []) := rfl
  rw [show D.agg [.int .i64 x.1, .int .i64 x.2] = pD x from rfl]
  rcases ht with rfl | ⟨o, rfl, h2, h3⟩
  · simp only [builtinD, ok_76, desc_76, if_true, appendD, elem_76, elemsD, hmu, Bool.false_eq_true, if_false, hsn, size_105, bytes_105, kills, List.map_nil, List.append_nil, List.nil_append]
    rw [if_pos ⟨hall, hle, by decide, by decide⟩]
    simp [tokWr, tokRd]
  · simp only [builtinD, ok_76, desc_76, if_true, appendD, elem_76, elemsD, hmu, Bool.false_eq_true, if_false, hsn, size_105, bytes_105, kills, List.map_nil, List.append_nil, List.nil_append]
    rw [if_pos ⟨hall, hle, by decide, by decide⟩]
    simp only [if_true, h2]
    simp [tokWr, tokRd]
theorem outRow_len (mk : List (List Bool)) (s : Nat) : ∀ t, (outRow mk s t).length ≤ t
  | 0 => Nat.le_refl _
  | t + 1 => by
    have := outRow_len mk s t
    rw [outRow, List.length_append]
    split <;> simp <;> omega
theorem outAll_len (mk : List (List Bool)) (m : Nat) : ∀ s, (outAll mk m s).length ≤ s * m
  | 0 => by simp [outAll]
  | s + 1 => by
    have := outAll_len mk m s
    have := outRow_len mk s m
    rw [outAll, List.length_append, Nat.add_mul]; omega
structure O61 (a b : M) (v : D) (N : Nat) (mk : List (List Bool)) (out : List (Int × Int)) (s : Int) (st : St) : Prop where
  g : G61 a b v N mk st
  h13 : ∃ tk, st.A 13 = .frz (out.map pD) tk ∧ T7 st.h.blk tk N st.h.next ∧ (tk = .nil ↔ out = [])
  h14 : st.A 14 = .int .i64 s
theorem O61.step {a b : M} {v : D} {N : Nat} {mk : List (List Bool)} {out : List (Int × Int)} {s : Int} {A A' : Nat → D} {h : H} {nx : Nat} (o : O61 a b v N mk out s ⟨A, h⟩) (e : ∀ t, t < 15 → A' t = A t) (hn : h.next ≤ nx) : O61 a b v N mk out s ⟨A', ⟨nx, h.blk⟩⟩ := by
  obtain ⟨g, ⟨tk, q13, qt, qz⟩, q14⟩ := o
  simp only at q13 q14 qt
  refine ⟨g.step (fun t ht => e t (by omega)) (fun _ _ => rfl) hn, ⟨tk, (e 13 (by omega)).trans q13, ?_, qz⟩, (e 14 (by omega)).trans q14⟩
  rcases qt with q | ⟨o, q1, q2, q3, q4⟩
  · exact .inl q
  · exact .inr ⟨o, q1, q2, q3, by simp only; omega⟩
theorem loop61g {a b : M} (va : Valid a) (vb : Valid b) {v : D} {N s : Nat} {mk : List (List Bool)} {out : List (Int × Int)} (hs : s < a.rows.length) (hol : out.length ≤ 64 * 64) {Q : Po} (hQ : ∀ st, O61 a b v N mk (out ++ outRow mk s b.rows.length) s st → Q.x 12 st) (k : Nat) (st : St)
    (hI : k ≤ b.rows.length ∧ O61 a b v N mk (out ++ outRow mk s (b.rows.length - k)) s st ∧ st.A 15 = .int .i64 ((b.rows.length - k : Nat) : Int)) : V E 61 134 (.loop l61_6) st Q := by
  have r2 := vb.r2
  refine V.count (fun k st => k ≤ b.rows.length ∧ O61 a b v N mk (out ++ outRow mk s (b.rows.length - k)) s st ∧ st.A 15 = .int .i64 ((b.rows.length - k : Nat) : Int)) ?_ ?_ k st hI
  · rintro k ⟨A, h⟩ ⟨le, o, h15⟩
    have hlt : b.rows.length - (k + 1) < b.rows.length := by omega
    generalize hi : b.rows.length - (k + 1) = t at *
    have hk' : b.rows.length - k = t + 1 := by omega
    have hltI : (t : Int) < b.rows.length := by omega
    have hw : IntKind.i64.wrap ((t : Int) + 1) = ((t + 1 : Nat) : Int) := by rw [wrap_id] <;> omega
    have hor : outRow mk s (t + 1) = outRow mk s t ++ (if mget mk s t then [((s : Int), (t : Int))] else []) := rfl
    have hrl := outRow_len mk s t
    obtain ⟨g, ⟨tk, h13, ht, hz⟩, h14⟩ := id o
    obtain ⟨bq, bs, hsb, hs2, hv, w1, w2, w3, w4, w5, w6, w7, w8, w9, w10⟩ := g.cell hs
    obtain ⟨q2, q3, q4, q5, q0, q1, qm, qN, qn, qs⟩ := id g
    simp only at q2 q3 q4 q5 q0 q1 qn h13 ht h14 h15 w1 w3
    rw [hv] at q5
    have hsI : (s : Int) < a.rows.length := by omega
    have htl : t < mk[s].length := by omega
    have hmg : mget mk s t = mk[s][t] := by unfold mget; rw [w5]; simp [htl]
    rw [hmg] at hor
    rw [cl61_6]
    refine .assoc (.then xr61_27 (by simp [o61_27, builtinD, lenD, pD, argA, q3, q1, encM, h15, hltI]; rfl) ?_)
    refine .head (v := true) (by simp [opd, upd] <;> omega) (fun _ => ?_) (fun q => by cases q)
    refine .seq (.block (.then xr61_29 (by simp [o61_29, builtinD, lenD, pD, argA, q5, h14, h15, hsI, hsb, w1, rowV, w3, hltI, htl]; rfl) ?_))
    have fin : ∀ (A2 : Nat → D) (h2 : H), O61 a b v N mk (out ++ outRow mk s (t + 1)) s ⟨A2, h2⟩ → A2 15 = .int .i64 t → V E 61 134 r61_28 ⟨A2, h2⟩ (Q.upto fun st => k ≤ b.rows.length ∧ O61 a b v N mk (out ++ outRow mk s (b.rows.length - k)) s st ∧ st.A 15 = .int .i64 ((b.rows.length - k : Nat) : Int)) := by
      intro A2 h2 o2 e15
      refine .reg xr61_28 (by simp [o61_28, builtinD, lenD, pD, argA, e15, hw]; rfl) ?_
      refine ⟨by omega, ?_, ?_⟩
      · rw [hk']
        exact o2.step (fun t ht => by simp [upd, show ∀ c, 15 ≤ c → ¬ t = c from fun c h => by omega]) (by simp)
      · simp [upd, hk']
    cases hc : mk[s][t] with
    | false =>
      rw [hc] at hor
      simp only [Bool.false_eq_true, if_false, List.append_nil] at hor
      refine .cond (v := false) (by simp [opd, upd, hc]) (fun q => by cases q) (fun _ => .skip (fin _ _ ?_ ?_))
      · rw [hor]
        exact o.step (fun t ht => by simp [upd, show ∀ c, 15 ≤ c → ¬ t = c from fun c h => by omega]) (by omega)
      · simp [upd, h15]
    | true =>
      rw [hc] at hor
      simp only [if_true] at hor
      refine .cond (v := true) (by simp [opd, upd, hc]) (fun _ => ?_) (fun q => by cases q)
      have hll : (out ++ outRow mk s t).length < 2 ^ 39 := by rw [List.length_append]; omega
      replace hor : out ++ outRow mk s (t + 1) = (out ++ outRow mk s t) ++ [((s : Int), (t : Int))] := by rw [hor, List.append_assoc]
      generalize out ++ outRow mk s t = l at h13 hor hll
      have ap := fun s' tkz => app76f (mu := E.pol.mu 61) (s := s') (blk := h.blk) (xs := l) (tk := tk) (tk' := tkz) (x := ((s : Int), (t : Int))) mu61c (ht.tok) hll
      refine .reg xr61_30 (by simp [o61_30, pD, argA, h13, h14, h15, ap, mu61c, show List.range 1 = [0] from rfl, mapK, snapDepth, snap_int, snap, kills]; exact ⟨rfl, rfl⟩) (fin _ _ ⟨?_, ⟨.own (h.next + 5 + 7 + 5) 2, ?_, ?_, ⟨fun e => (by cases e), fun e => (by rw [hor] at e; simp at e)⟩⟩, ?_⟩ ?_)
      · refine g.step (fun t ht => by simp [upd, show ∀ c, 6 ≤ c → ¬ t = c from fun c h => by omega]) (fun x hx => ?_) (by simp <;> omega)
        rcases ht with rfl | ⟨o', rfl, o1, o2, o3⟩
        · simp [tokWr, upds, upd, show ¬ x = h.next + 5 + 7 + 5 by omega]
        · simp [tokWr, upds, upd, show ¬ x = h.next + 5 + 7 + 5 by omega, show ¬ x = o' by omega]
      · rw [hor]; simp [upd, pD]
      · refine .inr ⟨_, rfl, ?_, by omega, by simp⟩
        rcases ht with rfl | ⟨o', rfl, o1, o2, o3⟩ <;> simp [tokWr, upds, upd]
      · simp [upd, h14]
      · simp [upd, h15]
  · rintro ⟨A, h⟩ ⟨le, o, h15⟩
    have q3 := o.g.h3
    have q1 := o.g.b1
    simp only at q3 q1 h15
    rw [Nat.sub_zero] at h15 o
    rw [cl61_6]
    refine .assoc (.then xr61_27 (by simp [o61_27, builtinD, lenD, pD, argA, q3, q1, encM, h15]; rfl) ?_)
    refine .head (v := false) (by simp [opd, upd]) (fun q => by cases q) (fun _ => hQ _ (o.step (fun t ht => ?_) (by simp)))
    simp [upd, show ∀ c, 15 ≤ c → ¬ t = c from fun c h => by omega]
theorem loop61f {a b : M} (va : Valid a) (vb : Valid b) {v : D} {N : Nat} {mk : List (List Bool)} {Q : Po} (hQ : ∀ st, (∃ tk, (tk = .nil ∨ ∃ o, tk = .own o 2) ∧ (tk = .nil ↔ outAll mk b.rows.length a.rows.length = []) ∧ st.A 13 = .frz ((outAll mk b.rows.length a.rows.length).map pD) tk) → Q.x 10 st) (k : Nat) (st : St)
    (hI : k ≤ a.rows.length ∧ O61 a b v N mk (outAll mk b.rows.length (a.rows.length - k)) ((a.rows.length - k : Nat) : Int) st) : V E 61 134 (.loop l61_5) st Q := by
  have r2 := va.r2
  have r2' := vb.r2
  refine V.count (fun k st => k ≤ a.rows.length ∧ O61 a b v N mk (outAll mk b.rows.length (a.rows.length - k)) ((a.rows.length - k : Nat) : Int) st) ?_ ?_ k st hI
  · rintro k ⟨A, h⟩ ⟨le, o⟩
    have hlt : a.rows.length - (k + 1) < a.rows.length := by omega
    generalize hi : a.rows.length - (k + 1) = s at *
    have hk' : a.rows.length - k = s + 1 := by omega
    have hltI : (s : Int) < a.rows.length := by omega
    have hw : IntKind.i64.wrap ((s : Int) + 1) = ((s + 1 : Nat) : Int) := by rw [wrap_id] <;> omega
    have q2 := o.g.h2
    have q0 := o.g.b0
    have h14 := o.h14
    simp only at q2 q0 h14
    rw [cl61_5]
    refine .assoc (.then xr61_24 (by simp [o61_24, builtinD, lenD, pD, argA, q2, q0, encM, h14, hltI]; rfl) ?_)
    refine .head (v := true) (by simp [opd, upd] <;> omega) (fun _ => ?_) (fun q => by cases q)
    refine .seq (.block (.then xr61_26 (by simp [o61_26, builtinD, lenD, pD, argA]; rfl) ?_))
    have hol := outAll_len mk b.rows.length s
    have hmul : s * b.rows.length ≤ 64 * 64 := Nat.mul_le_mul (by omega) r2'
    refine .block (loop61g va vb (v := v) (N := N) (s := s) (mk := mk) (out := outAll mk b.rows.length s) hlt (by omega) ?_ b.rows.length _ ⟨Nat.le_refl _, ?_, ?_⟩)
    · rintro ⟨A2, h2⟩ o2
      have e14 := o2.h14
      simp only at e14
      show V E 61 134 r61_25 _ _
      refine .reg xr61_25 (by simp [o61_25, builtinD, lenD, pD, argA, e14, hw]; rfl) ?_
      refine ⟨by omega, ?_, ?_, ?_⟩
      · exact o2.g.step (fun t ht => by simp [upd, show ∀ c, 14 ≤ c → ¬ t = c from fun c h => by omega]) (fun _ _ => rfl) (by simp)
      · obtain ⟨tk, e13, et, ez⟩ := o2.h13
        simp only at e13 et
        rw [hk']
        have e13' : A2 13 = .frz ((outAll mk b.rows.length (s + 1)).map pD) tk := e13
        refine ⟨tk, by simpa [upd] using e13', ?_, ez⟩
        rcases et with q | ⟨o, q1, q2, q3, q4⟩
        · exact .inl q
        · exact .inr ⟨o, q1, q2, q3, by simp <;> omega⟩
      · simp [upd, hk']
    · rw [Nat.sub_self]
      have := o.step (A' := upd (upd (upd (upd (upd (upd A 106 (.int .i64 s)) 107 (.ptr 0 0 2)) 108 (.frz (a.rows.map rowD) .unk)) 109 (.int .i64 a.rows.length)) 110 (.bool (decide ((s : Int) < a.rows.length)))) 15 (.int .i64 0)) (nx := h.next + 5 + 1) (fun t ht => by simp [upd, show ∀ c, 15 ≤ c → ¬ t = c from fun c h => by omega]) (by omega)
      simpa [outRow, hlt] using this
    · simp [upd]
  · rintro ⟨A, h⟩ ⟨le, o⟩
    have q2 := o.g.h2
    have q0 := o.g.b0
    have h14 := o.h14
    obtain ⟨tk, e13, et, ez⟩ := o.h13
    simp only at q2 q0 h14 e13
    rw [Nat.sub_zero] at h14 e13 ez
    have et' : tk = .nil ∨ ∃ o, tk = .own o 2 := by
      rcases et with rfl | ⟨o, rfl, _⟩
      · exact .inl rfl
      · exact .inr ⟨o, rfl⟩
    rw [cl61_5]
    refine .assoc (.then xr61_24 (by simp [o61_24, builtinD, lenD, pD, argA, q2, q0, encM, h14]; rfl) ?_)
    exact .head (v := false) (by simp [opd, upd]) (fun q => by cases q) (fun _ => hQ _ ⟨tk, et', ez, by simp [upd, e13]⟩)
def tk61 (a b : M) : Tok := if pairs61 a b = [] then .nil else .unk
theorem spec61 {a b : M} (va : Valid a) (vb : Valid b) (hins : a.ins = b.ins) : bodyR 61 [encM a, encM b] = some (.frz ((pairs61 a b).map pD) (tk61 a b)) := by
  have r1 : 0 < a.rows.length := va.r1
  have r1' : 0 < b.rows.length := vb.r1
  have r2 := va.r2
  have r2' := vb.r2
  refine bodyR_V (run61 _ _ (by simp)) ?_
  unfold b61
  refine .then xr61_0 (by simp [o61_0, builtinD, lenD, pD, argA, encM]; rfl) ?_
  refine .then xr61_1 (by simp [o61_1, builtinD, lenD, pD, argA]; rfl) ?_
  refine .assoc (.then xr61_2 (by simp [o61_2, builtinD, lenD, pD, argA]; rfl) ?_)
  refine .seq (.block (loop61a va vb ?_ a.rows.length _ ?_))
  · rintro ⟨A, h⟩ ⟨le, h2, h3, h4, b0, b1, h6, hm, hn⟩
    simp only at h2 h3 h4 b0 b1 h6 hm hn
    rw [Nat.sub_zero] at hm
    show V E 61 134 _ _ _
    have g : G61 a b (A 5) h.next (List.replicate a.rows.length (List.replicate b.rows.length false)) ⟨A, h⟩ := ⟨h2, h3, h4, rfl, b0, b1, hm, hn, Nat.le_refl _, by simp, fun r hr => by rw [List.eq_of_mem_replicate hr]; simp⟩
    obtain ⟨bq, bs, hsb, hs2, hv, w1, w2, w3, w4, w5, w6, w7, w8, w9, w10⟩ := g.cell r1
    simp only at w1 w3
    have htl : 0 < (List.replicate a.rows.length (List.replicate b.rows.length false))[0].length := by omega
    refine .then xr61_6 (by simp [o61_6, builtinD, lenD, pD, argA, hv, w1, w3, rowV, r1, r1', hsb, htl]; rfl) ?_
    have hm0 : (List.replicate a.rows.length (List.replicate b.rows.length false)).length = a.rows.length := by simp
    refine .assoc (.then xr61_7 (by simp [o61_7, builtinD, lenD, pD, argA]; rfl) ?_)
    have fin : ∀ st : St, G61 a b (A 5) h.next (start61 a b) st → st.A 7 = .int .i64 0 → V E 61 134 (.seq (.block 2 (.loop l61_1)) (.seq r61_22 (.seq (.seq r61_23 (.block 10 (.loop l61_5))) (.seq r61_31 .ret)))) st ⟨fun s => ∃ v, resultsD E [(.tmp 4)] s = some v ∧ (snap true s.h.blk snapDepth v).map (·.1) = some (.frz ((pairs61 a b).map pD) (tk61 a b)), fun s => ∃ v, resultsD E [(.tmp 4)] s = some v ∧ (snap true s.h.blk snapDepth v).map (·.1) = some (.frz ((pairs61 a b).map pD) (tk61 a b)), fun _ _ => False, fun _ _ => False⟩ := by
      intro st g h7
      refine .seq (.block (loop61b va vb hins (v := A 5) (N := h.next) (mk0 := start61 a b) ?_ (a.rows.length * b.rows.length) _ ⟨Nat.le_refl _, ?_, ?_⟩))
      · rintro ⟨A2, h2⟩ g2
        show V E 61 134 _ _ _
        refine .then xr61_22 (by simp [o61_22, builtinD, lenD, pD, argA]; rfl) ?_
        refine .assoc (.then xr61_23 (by simp [o61_23, builtinD, lenD, pD, argA]; rfl) ?_)
        refine .seq (.block (loop61f va vb (v := A 5) (N := h.next) (mk := all61 a b (a.rows.length * b.rows.length) (start61 a b)) ?_ a.rows.length _ ⟨Nat.le_refl _, ?_⟩))
        · rintro ⟨A3, h3⟩ ⟨tk, et, ez, e13⟩
          simp only at e13
          show V E 61 134 _ _ _
          refine .then xr61_31 (by simp [o61_31, builtinD, lenD, pD, argA, e13]; rfl) (.ret ⟨_, by simp [resultsD, mapO, resultD, upd]; rfl, ?_⟩)
          refine (congrArg (Option.map fun x => x.1) (snap_pairs true _ 6 _ _)).trans ?_
          have : tk.fade true = tk61 a b := by
            unfold tk61 pairs61
            rcases et with rfl | ⟨o, rfl⟩
            · rw [if_pos (ez.1 rfl)]; rfl
            · rw [if_neg (fun e => by cases ez.2 e)]; rfl
          rw [this]; rfl
        · rw [Nat.sub_self]
          exact ⟨g2.step (fun t ht => by simp [upd, show ∀ c, 13 ≤ c → ¬ t = c from fun c h => by omega]) (fun _ _ => rfl) (by simp <;> omega), ⟨.nil, by simp [upd, outAll], .inl rfl, by simp [outAll]⟩, by simp [upd]⟩
      · rw [Nat.sub_self]; exact g
      · rw [Nat.sub_self]; exact h7
    refine fin _ (g.put (s := 0) (t := 0) r1 hsb hv w1 hs2 (fun t ht => ?_) ?_ (fun z hz hzc => ?_) (by simp <;> omega)) ?_
    · simp [upd, show ∀ c, 6 ≤ c → ¬ t = c from fun c h => by omega]
    · simp [upds, upd, List.map_set]
    · simp [upds, upd, hzc]
    · simp [upd]
  · refine ⟨Nat.le_refl _, ?_, ?_, ?_, ?_, ?_, ?_, ?_, ?_⟩
    · simp [upd]
    · simp [upd]
    · simp [upd]
    · simp [upds, upd, encM]
    · simp [upds, upd, encM]
    · simp [upd]
    · exact .inl ⟨by simp, by simp [upd]⟩
    · simp [upd, H.empty] <;> omega
end Go.Eng.E3
namespace Go.Eng.E3
open Go Go.Eng Go.Proofs
set_option maxRecDepth 100000
attribute [local simp] execR runOps stepOp wantedD evalOp opd upd St.put Eff.apply upds looseOk FP.free FP.idle apart Eff.fp ofVal loadD storeD partD setPart indexAddrD isShift arith unD callOp mapO D.okc pickD buildable buildD placeD convD
set_option linter.unusedSimpArgs false
def forceR {α : Type} : List Bool → (List Bool → α) → α
  | [], k => k []
  | x :: l, k => bif x then forceR l (fun l' => k (true :: l')) else forceR l (fun l' => k (false :: l'))
def forceM {α : Type} : List (List Bool) → (List (List Bool) → α) → α
  | [], k => k []
  | r :: l, k => forceR r fun r' => forceM l fun l' => k (r' :: l')
theorem forceR_eq {α : Type} : ∀ (l : List Bool) (k : List Bool → α), forceR l k = k l
  | [], _ => rfl
  | x :: l, k => by cases x <;> exact forceR_eq l _
theorem forceM_eq {α : Type} : ∀ (l : List (List Bool)) (k : List (List Bool) → α), forceM l k = k l
  | [], _ => rfl
  | r :: l, k => by rw [forceM, forceR_eq, forceM_eq l]
def eqR : List Bool → List Bool → Bool
  | [], [] => true
  | x :: l, y :: m => bif x then bif y then eqR l m else false else bif y then false else eqR l m
  | _, _ => false
def eqM : List (List Bool) → List (List Bool) → Bool
  | [], [] => true
  | x :: l, y :: m => bif eqR x y then eqM l m else false
  | _, _ => false
theorem eqR_ok : ∀ l m, eqR l m = true → l = m
  | [], [], _ => rfl
  | [], _ :: _, h => by cases h
  | _ :: _, [], h => by cases h
  | x :: l, y :: m, h => by
    cases x <;> cases y
    · rw [eqR_ok l m h]
    · cases h
    · cases h
    · rw [eqR_ok l m h]
theorem eqM_ok : ∀ l m, eqM l m = true → l = m
  | [], [], _ => rfl
  | [], _ :: _, h => by cases h
  | _ :: _, [], h => by cases h
  | x :: l, y :: m, h => by
    rw [eqM] at h
    cases hc : eqR x y with
    | false => rw [hc] at h; cases h
    | true => rw [hc] at h; rw [eqR_ok x y hc, eqM_ok l m h]
def rowF (a b : M) (s : Nat) : Nat → List (List Bool) → List (List Bool)
  | 0, mk => mk
  | t + 1, mk => forceM (rowF a b s t mk) fun m => cell61 a b s t a.ins m
def roundF (a b : M) : Nat → List (List Bool) → List (List Bool)
  | 0, mk => mk
  | s + 1, mk => forceM (roundF a b s mk) fun m => rowF a b s b.rows.length m
def allF (a b : M) : Nat → List (List Bool) → List (List Bool)
  | 0, mk => mk
  | k + 1, mk => forceM (roundF a b a.rows.length mk) fun m => bif eqM m mk then mk else allF a b k m
theorem rowF_eq (a b : M) (s : Nat) : ∀ t mk, rowF a b s t mk = row61 a b s t mk
  | 0, _ => rfl
  | t + 1, mk => by rw [rowF, forceM_eq, rowF_eq a b s t, row61]
theorem roundF_eq (a b : M) : ∀ s mk, roundF a b s mk = round61 a b s mk
  | 0, _ => rfl
  | s + 1, mk => by rw [roundF, forceM_eq, roundF_eq a b s, rowF_eq, round61]
theorem all61_one (a b : M) : ∀ k mk, all61 a b (k + 1) mk = all61 a b k (round61 a b a.rows.length mk)
  | 0, _ => rfl
  | k + 1, mk => by rw [all61, all61_one a b k, all61]
theorem all61_fix (a b : M) {mk : List (List Bool)} (h : round61 a b a.rows.length mk = mk) : ∀ k, all61 a b k mk = mk
  | 0 => rfl
  | k + 1 => by rw [all61, all61_fix a b h k, h]
theorem allF_eq (a b : M) : ∀ k mk, allF a b k mk = all61 a b k mk
  | 0, _ => rfl
  | k + 1, mk => by
    rw [allF, forceM_eq, roundF_eq, allF_eq a b k]
    cases hc : eqM (round61 a b a.rows.length mk) mk with
    | true => exact (all61_fix a b (eqM_ok _ _ hc) _).symm
    | false => exact (all61_one a b k mk).symm
def pairsF (a b : M) : List (Int × Int) := forceM (start61 a b) fun m => forceM (allF a b (a.rows.length * b.rows.length) m) fun m => outAll m b.rows.length a.rows.length
theorem pairsF_eq (a b : M) : pairsF a b = pairs61 a b := by
  unfold pairsF pairs61
  rw [forceM_eq, forceM_eq, allF_eq]
def m61 : List D → Option D
  | [da, db] => match decM da, decM db with
    | some a, some b => bif validB a && (validB b && Nat.beq a.ins b.ins) then (match pairsF a b with
      | [] => none
      | p :: l => some (.frz ((p :: l).map pD) .unk)) else none
    | _, _ => none
  | _ => none
theorem ok61 : ModelOk E 61 m61 := modelOk_of fun xs r h => by
  unfold m61 at h
  split at h
  · split at h
    · rename_i a b ha hb
      cases hc : validB a && (validB b && Nat.beq a.ins b.ins) with
      | false => rw [hc] at h; cases h
      | true =>
        rw [hc] at h
        simp only [Bool.and_eq_true, Nat.beq_eq] at hc
        rw [decM_ok ha, decM_ok hb, spec61 (validB_ok hc.1) (validB_ok hc.2.1) hc.2.2]
        simp only [cond_true] at h
        split at h
        · cases h
        · rename_i p l hp
          rw [pairsF_eq] at hp
          rw [hp, tk61, if_neg (by rw [hp]; simp)]
          exact h
    · cases h
  · cases h
def XQ : Ext' := fun g => match g with
  | 111 => some m111
  | 85 => some m85
  | 74 => some m74
  | 25 => some m25
  | 23 => some m23
  | 61 => some m61
  | _ => none
theorem okXQ (g : FuncId) (m : List D → Option D) (h : XQ g = some m) : ModelOk E g m := by
  unfold XQ at h
  split at h
  · cases h; exact ok111
  · cases h; exact ok85
  · cases h; exact ok74
  · cases h; exact ok25
  · cases h; exact ok23
  · cases h; exact ok61
  · cases h
end Go.Eng.E3
