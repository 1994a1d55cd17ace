import Derived.Test.YtcogomacihefoaaKnA
import Derived.OrdersIn
import Derived.RangeFuncCalls
import Derived.RangeFuncRecord
set_option linter.unusedVariables false
set_option linter.unusedSimpArgs false
set_option linter.unusedSectionVars false
set_option linter.deprecated false
namespace Go.Eng
open Go
section
variable {P : Program} {T : Tab} {S : Sim} {h : H} {w : World} {s : Nat} {e : Eff}
theorem mapO_array {N : Nat} {A : Nat → D} {a : Act} (f : FR N S A a) {xs : Array Operand} {ds : List D} (he : mapO (opd A) xs.toList = some ds) : VRs S ds (xs.map a.eval).toList := by
  have := mapO_sim f he
  simpa using this
theorem arrOf_spec (hT : TOK P T) {t n el : Nat} (he : arrOf? T t = some (n, el)) (w : World) : (underlying t).run P w = .ok (.array n el) w ∧ T.ok el = true := by
  unfold arrOf? at he
  split at he
  · rename_i ht
    have hu := run_und hT ht w
    split at he
    · rename_i n' e' hd
      rw [hd] at hu
      split at he
      · rename_i hok; cases he; exact ⟨hu, hok⟩
      · cases he
    · cases he
  · cases he
theorem sim_len (hT : TOK P T) (hr : HR S h w) {t : TypeId} {ts : Array TypeId} {ty : TypeId} {x : D} {vx : Value} (hx : VR S x vx) (he : lenD T h.blk t x = some e) :
    OpSim P S h w s e (do pure (Next.value (← Builtin.len_ (#[t] ++ ts) ty #[vx]))) := by
  unfold lenD at he
  split at he
  case isFalse => cases he
  rename_i ht
  have hu := run_und hT ht w
  have h0 : ((#[t] ++ ts)[0]? : Option TypeId) = some t := by rw [Array.getElem?_append_left (by simp)]; rfl
  split at he
  · rename_i el xs tk hd
    cases he; cases hx
    refine opSim_pureVal hr (v := .int .i64 _) ?_ (.int _ _) rfl
    simp only [Builtin.len_, h0, List.getElem?_toArray, List.getElem?_cons_zero, Sem.run_bind, hu, hd, Result.andThen_ok]
    rfl
  · rename_i el b esz off len ex hd
    cases he
    have : ∃ a cap, vx = .slice a len cap := by cases hx <;> exact ⟨_, _, rfl⟩
    obtain ⟨a, cap, rfl⟩ := this
    refine opSim_pureVal hr (v := .int .i64 _) ?_ (.int _ _) rfl
    simp only [Builtin.len_, h0, List.getElem?_toArray, List.getElem?_cons_zero, Sem.run_bind, hu, hd, Result.andThen_ok]
    rfl
  · rename_i st hd
    cases he; cases hx
    refine opSim_pureVal hr (v := .int .i64 _) ?_ (.int _ _) rfl
    simp only [Builtin.len_, h0, List.getElem?_toArray, List.getElem?_cons_zero, Sem.run_bind, hu, hd, Result.andThen_ok]
    rfl
  · rename_i n el hd
    cases he
    refine opSim_pureVal hr (v := .int .i64 _) ?_ (.int _ _) rfl
    simp only [Builtin.len_, h0, List.getElem?_toArray, List.getElem?_cons_zero, Sem.run_bind, hu, hd, Result.andThen_ok]
    rfl
  · rename_i k el hd
    cases he; cases hx
    refine opSim_pureVal hr (v := .int .i64 0) ?_ (.int _ _) rfl
    simp only [Builtin.len_, h0, List.getElem?_toArray, List.getElem?_cons_zero, Sem.run_bind, hu, hd, Result.andThen_ok]
    rfl
  · rename_i k el b hd
    split at he
    case h_2 => cases he
    rename_i es hb
    cases he
    obtain ⟨r, ens, ck, h1, h2, h3⟩ := hr.map b es hb
    cases hx with
    | mp hφ =>
      rw [h1] at hφ; cases hφ
      have hl : es.length = ens.size := by simpa using h3.1
      refine opSim_pureVal hr (v := .int .i64 (ens.size : Nat)) ?_ (by rw [hl]; exact .int _ _) rfl
      simp only [Builtin.len_, h0, List.getElem?_toArray, List.getElem?_cons_zero, Sem.run_bind, hu, hd, Result.andThen_ok, run_getObj_map h2]
      rfl
  · cases he
theorem sim_cap (hT : TOK P T) (hr : HR S h w) {t : TypeId} {ts : Array TypeId} {ty : TypeId} {x : D} {vx : Value} (hx : VR S x vx) (he : capD T t x = some e) :
    OpSim P S h w s e (do pure (Next.value (← Builtin.cap_ (#[t] ++ ts) ty #[vx]))) := by
  unfold capD at he
  split at he
  case isFalse => cases he
  rename_i ht
  have hu := run_und hT ht w
  have h0 : ((#[t] ++ ts)[0]? : Option TypeId) = some t := by rw [Array.getElem?_append_left (by simp)]; rfl
  split at he
  · rename_i el xs hd
    cases he
    cases hx with
    | frz he hq hs hr' htk hc hn =>
      rename_i a cap esz vs
      have : cap = xs.length := htk
      subst this
      refine opSim_pureVal hr (v := .int .i64 _) ?_ (.int _ _) rfl
      simp only [Builtin.cap_, h0, List.getElem?_toArray, List.getElem?_cons_zero, Sem.run_bind, hu, hd, Result.andThen_ok]
      rfl
  · rename_i el xs hd
    cases he
    cases hx with
    | frz he hq hs hr' htk hc hn =>
      rename_i a cap esz vs
      obtain ⟨_, h1, h2⟩ := htk
      have : cap = xs.length := by omega
      subst this
      refine opSim_pureVal hr (v := .int .i64 _) ?_ (.int _ _) rfl
      simp only [Builtin.cap_, h0, List.getElem?_toArray, List.getElem?_cons_zero, Sem.run_bind, hu, hd, Result.andThen_ok]
      rfl
  · rename_i el b esz off len hd
    cases he
    have : ∃ a, vx = .slice a len len := by
      cases hx with
      | sl _ _ _ hex _ => rw [hex rfl]; exact ⟨_, rfl⟩
      | slv a => exact ⟨_, rfl⟩
    obtain ⟨a, rfl⟩ := this
    refine opSim_pureVal hr (v := .int .i64 _) ?_ (.int _ _) rfl
    simp only [Builtin.cap_, h0, List.getElem?_toArray, List.getElem?_cons_zero, Sem.run_bind, hu, hd, Result.andThen_ok]
    rfl
  · cases he
theorem run_fold {f : Value → Value → Sem Value} {g : D → D → Option D} (hfg : ∀ x y d vx vy, g x y = some d → VR S x vx → VR S y vy → ∃ v, (f vx vy).run P w = .ok v w ∧ VR S d v) :
    ∀ (xs : List D) (vs : List Value) (x d : D) (vx : Value), xs.foldlM g x = some d → VR S x vx → VRs S xs vs → ∃ v, (vs.foldlM f vx).run P w = .ok v w ∧ VR S d v
  | [], vs, x, d, vx, he, hx, hv => by
    cases hv
    simp at he; subst he
    exact ⟨vx, by simp, hx⟩
  | y :: xs, vs, x, d, vx, he, hx, hv => by
    cases hv with
    | cons h1 h2 =>
      simp only [List.foldlM_cons] at he ⊢
      cases hg : g x y with
      | none => rw [hg] at he; cases he
      | some z =>
        rw [hg] at he
        obtain ⟨u, hu1, hu2⟩ := hfg x y z _ _ hg hx h1
        obtain ⟨v, hv1, hv2⟩ := run_fold hfg xs _ z d u he hu2 h2
        exact ⟨v, by simp only [Sem.run_bind, hu1, Result.andThen_ok, hv1], hv2⟩
theorem sim_min (hr : HR S h w) {ts : Array TypeId} {ty : TypeId} {mx : Bool} {xs : List D} {d : D} {vs : Array Value} (hx : VRs S xs vs.toList) (he : minD mx xs = some d) :
    OpSim P S h w s { v := d } ((if mx then Builtin.max_ ts ty vs else Builtin.min_ ts ty vs) >>= fun v => pure (Next.value v)) := by
  cases xs with
  | nil => cases he
  | cons x xs =>
    simp only [minD] at he
    generalize hvs : vs.toList = l at hx
    cases hx with
    | cons h1 h2 =>
      rename_i vx vl
      have := run_fold (P := P) (S := S) (w := w) (f := if mx then Builtin.max2 else Builtin.min2) (g := fun a b => match a, b with
        | .int k p, .int _ q => some (.int k (if mx then (if q > p then q else p) else (if q < p then q else p)))
        | _, _ => none) (by
          intro x y d vx vy hg hx hy
          split at hg
          · cases hg; cases hx; cases hy
            cases mx
            · exact ⟨_, rfl, .int _ _⟩
            · exact ⟨_, rfl, .int _ _⟩
          · cases hg) xs vl x d vx he h1 h2
      obtain ⟨v, hv1, hv2⟩ := this
      refine opSim_pureVal (e := { v := d }) hr (v := v) ?_ hv2 rfl
      cases mx
      · simp only [Bool.false_eq_true, if_false] at hv1 ⊢
        simp only [Builtin.min_, hvs]
        exact hv1
      · simp only [if_true] at hv1 ⊢
        simp only [Builtin.max_, hvs]
        exact hv1
theorem evalOp_sim (hT : TOK P T) (hr : HR S h w) (hφ : S.φ s = none) (htk : S.tk s = none) (hs : s < h.next) {mu : TypeId → Bool} {N : Nat} {A : Nat → D} {a : Act} (f : FR N S A a) {o : Oper}
    (he : evalOp T mu s h.blk (opd A) o.op = some e) : OpSim P S h w s e (execOp a.eval o) := by
  have heo := he
  cases ho : o.op <;> rw [ho] at he heo <;> simp only [evalOp] at he <;> simp only [execOp, ho]
  case move x =>
    split at he
    · rename_i d hd; cases he; exact OpSim.pure hr rfl (opd_sim f hd) rfl
    · cases he
  case assign x =>
    split at he
    · rename_i d hd; cases he; exact OpSim.pure hr rfl (opd_sim f hd) rfl
    · cases he
  case pick c x y =>
    split at he
    · rename_i b dx dy hc hx hy
      cases he
      have hcv := opd_sim f hc
      generalize a.eval c = vc at hcv
      cases hcv
      refine OpSim.pure hr (v := if b then a.eval x else a.eval y) ?_ (pick_sim (opd_sim f hx) (opd_sim f hy)) rfl
      simp [asBool]
    · cases he
  case alloc t =>
    split at he
    · rename_i ht; cases he; exact sim_alloc hT hr hφ hs ht
    · cases he
  case box t x =>
    split at he
    · rename_i d hd
      split at he
      · rename_i hc
        simp only [Bool.and_eq_true, beq_iff_eq] at hc
        cases he
        exact sim_box hr hφ hs (opd_sim f hd) hc.1.2 hc.2
      · cases he
    · cases he
  case build t parts => exact sim_build hT hr f heo
  case buildSlice t len parts => exact sim_buildSlice hT hr hφ hs f heo
  case load t x =>
    split at he
    · rename_i d hd; exact sim_load hT hr (opd_sim f hd) he
    · cases he
  case store t x y =>
    split at he
    · rename_i dx dy hx hy; exact sim_store hT hr (opd_sim f hx) (opd_sim f hy) he
    · cases he
  case nilCheck x =>
    split at he
    · rename_i b i o' hd
      cases he
      have hv := opd_sim f hd
      generalize a.eval x = v at hv ⊢
      cases hv with
      | ptr _ _ hp => exact OpSim.pure hr rfl (.ptr _ _ hp) rfl
    · rename_i u hd
      cases he
      have hv := opd_sim f hd
      generalize a.eval x = v at hv ⊢
      cases hv with
      | iref h1 h2 h3 => exact OpSim.pure hr rfl (.iref h1 h2 h3) rfl
    · rename_i g c hd
      cases he
      have hv := opd_sim f hd
      generalize a.eval x = v at hv ⊢
      cases hv with
      | fn h1 => exact OpSim.pure hr rfl (.fn h1) rfl
    · cases he
  case binOp op t x y ty =>
    split at he
    · rename_i dx dy hx hy
      cases hb : binD T op t dx dy with
      | none => rw [hb] at he; cases he
      | some d => rw [hb] at he; cases he; exact sim_bin hT hr (opd_sim f hx) (opd_sim f hy) hb
    · cases he
  case unOp op t x =>
    split at he
    · rename_i dx hx
      cases hb : unD op dx with
      | none => rw [hb] at he; cases he
      | some d => rw [hb] at he; cases he; exact sim_un hr (opd_sim f hx) hb
    · cases he
  case convert src dst x =>
    split at he
    · rename_i dx hx
      cases hb : convD T src dst dx with
      | none => rw [hb] at he; cases he
      | some d => rw [hb] at he; cases he; exact sim_conv hT hr (opd_sim f hx) hb
    · cases he
  case makeFunc fn first cap =>
    cases fn with
    | func g =>
      simp only [evalOp] at heo
      split at heo
      · rename_i hfe
        split at heo
        · rename_i cs hcs
          cases heo
          have h1 : first = #[] := by simpa using hfe
          subst h1
          refine opSim_pureVal hr (v := .func (.func g) #[] (cap.map a.eval)) (by simp [Instr.makeFunc]) (.fn (mapO_array f hcs)) rfl
        · cases heo
      · cases heo
    | _ => simp only [evalOp] at heo; cases heo
  case makeMap t r =>
    split at he
    · split at he
      · rename_i hrn
        cases he
        have : r = none := by simpa using hrn
        subst this
        exact sim_makeMap hT hr hφ hs
      · cases he
    · cases he
  case makeSlice t l c =>
    split at he
    · rename_i el k1 li k2 ci hel hl hc
      split at he
      · rename_i hcond
        obtain ⟨c1, c2, c3, c4, c5⟩ := hcond
        have hlv := opd_sim f hl
        have hcv := opd_sim f hc
        generalize a.eval l = vl at hlv ⊢
        generalize a.eval c = vc at hcv ⊢
        cases hlv; cases hcv
        exact sim_makeSlice hT hr hφ htk hs hel c1 c2 c3 c4 c5 he
      · cases he
    · cases he
  case slice t x lo hi mx =>
    split at he
    · rename_i d l' h' m' hx hl hh hm
      split at he
      · rename_i hc
        simp only [Bool.and_eq_true, beq_iff_eq] at hc
        exact sim_slice hT hr (OptRel f hl hc.1.1) (OptRel f hh hc.1.2) (OptRel f hm hc.2) (opd_sim f hx) he
      · cases he
    · cases he
  case fieldAddr t x fi =>
    split at he
    · rename_i b i o' fd hx hf
      split at he
      · rename_i hc
        simp only [Bool.and_eq_true, bne_iff_ne, ne_eq] at hc
        cases he
        exact sim_fieldAddr hT hr (opd_sim f hx) hf hc.1 hc.2 (.inl ⟨b, i, o', rfl, rfl⟩)
      · cases he
    · rename_i u fd hx hf
      split at he
      · rename_i hc
        simp only [Bool.and_eq_true, bne_iff_ne, ne_eq] at hc
        cases hp : partD T fd.type u.cells fd.offset with
        | none => rw [hp] at he; cases he
        | some d => rw [hp] at he; cases he; exact sim_fieldAddr hT hr (opd_sim f hx) hf hc.1 hc.2 (.inr ⟨u, d, rfl, hp, rfl⟩)
      · cases he
    · cases he
  case field t x fi =>
    split at he
    · rename_i cs fd hx hf
      cases hp : partD T fd.type cs fd.offset with
      | none => rw [hp] at he; cases he
      | some d =>
        rw [hp] at he; cases he
        obtain ⟨fs, hu, hfs⟩ := fieldOf_spec hT hf w
        have hv := opd_sim f hx
        generalize a.eval x = v at hv ⊢
        cases hv with
        | agg hc hsx =>
          obtain ⟨u, e1, r1⟩ := run_part hT w hp hsx hc
          exact opSim_pureVal hr (v := u) (by simp only [Instr.field, Sem.run_bind, hu, Result.andThen_ok, hfs, asAgg, Sem.run_pure, e1]) r1 rfl
    · cases he
  case indexAddr t x ix =>
    split at he
    · rename_i dx di hx hi
      cases hp : indexAddrD T t dx di with
      | none => rw [hp] at he; cases he
      | some d => rw [hp] at he; cases he; exact sim_indexAddr hT hr (opd_sim f hx) (opd_sim f hi) hp
    · cases he
  case index t x ix =>
    split at he
    · rename_i cs k n len el hx hi ha
      split at he
      · rename_i hb
        cases hp : partD T el cs (n.toNat * T.size el) with
        | none => rw [hp] at he; cases he
        | some d =>
          rw [hp] at he; cases he
          obtain ⟨hu, hel⟩ := arrOf_spec hT ha w
          have hv := opd_sim f hx
          have hiv := opd_sim f hi
          generalize a.eval x = v at hv ⊢
          generalize a.eval ix = vi at hiv ⊢
          cases hiv
          cases hv with
          | agg hc hsx =>
            obtain ⟨u, e1, r1⟩ := run_part hT w hp hsx hc
            exact opSim_pureVal hr (v := u) (by simp only [Instr.index, asIntOf, Sem.run_bind, hu, Result.andThen_ok, Sem.run_pure, hb, and_self, if_true, run_size hT hel, e1]) r1 rfl
      · cases he
    · rename_i s k n hx hi ha
      unfold strAtD at he
      split at he
      · rename_i hok
        split at he
        · rename_i hd
          split at he
          · rename_i b hb
            cases he
            have hv := opd_sim f hx
            have hiv := opd_sim f hi
            generalize a.eval x = v at hv ⊢
            generalize a.eval ix = vi at hiv ⊢
            cases hiv
            cases hv
            exact opSim_pureVal hr (v := .int .u8 b.toNat) (by simp only [Instr.index, asIntOf, Sem.run_bind, run_und hT hok, hd, Result.andThen_ok, Sem.run_pure, hb]) (.int _ _) rfl
          · cases he
        · cases he
      · cases he
    · cases he
  case lookup t m k ok =>
    split at he
    · rename_i dm dk hm hk; exact sim_lookup hT hr (opd_sim f hm) (opd_sim f hk) he
    · cases he
  case mapUpdate t m k x =>
    split at he
    · rename_i dm dk dx hm hk hx; exact sim_update hT hr (opd_sim f hm) (opd_sim f hk) (opd_sim f hx) he
    · cases he
  case insert t m k x =>
    split at he
    · rename_i dm dk dx hm hk hx; exact sim_update hT hr (opd_sim f hm) (opd_sim f hk) (opd_sim f hx) he
    · cases he
  case extract x i =>
    split at he
    · rename_i vs hx
      split at he
      · rename_i d hd
        cases he
        have hv := opd_sim f hx
        generalize a.eval x = v at hv ⊢
        cases hv with
        | tup hsx =>
          rename_i us
          obtain ⟨u, e1, r1⟩ := hsx.get i hd
          have : us[i]? = some u := by rw [← Array.getElem?_toList]; exact e1
          exact opSim_pureVal hr (v := u) (by simp [Instr.extract, this]) r1 rfl
      · cases he
    · cases he
  all_goals (cases he)
end
end Go.Eng
namespace Go.Eng
open Go
section
variable {P : Program} {T : Tab} {S : Sim} {h : H} {w : World} {s : Nat} {e : Eff}
theorem vrs_one {x : D} {vs : Array Value} (h : VRs S [x] vs.toList) : ∃ vx, vs = #[vx] ∧ VR S x vx := by
  generalize hl : vs.toList = l at h
  cases h with
  | cons h1 h2 => cases h2; rename_i vx; exact ⟨vx, Array.toList_inj.1 (by simpa using hl), h1⟩
theorem vrs_two {x y : D} {vs : Array Value} (h : VRs S [x, y] vs.toList) : ∃ vx vy, vs = #[vx, vy] ∧ VR S x vx ∧ VR S y vy := by
  generalize hl : vs.toList = l at h
  cases h with
  | cons h1 h2 => cases h2 with
    | cons h2 h3 => cases h3; rename_i vx vy; exact ⟨vx, vy, Array.toList_inj.1 (by simpa using hl), h1, h2⟩
theorem builtin_sim (hT : TOK P T) (hr : HR S h w) (hφ : S.φ s = none) (htk : S.tk s = none) (hs : s < h.next) {mu : TypeId → Bool} {b : Builtin} {ts : Array TypeId} {ty : TypeId} {cs : Array Bool} {args : List D} {vs : Array Value}
    (ha : VRs S args vs.toList) (he : builtinD T mu s h.blk b ts.toList args = some e) : OpSim P S h w s e (builtin b ts ty cs vs) := by
  unfold builtinD at he
  split at he
  · rename_i t x hts
    obtain ⟨vx, rfl, hx⟩ := vrs_one ha
    have : ts = #[t] := Array.toList_inj.1 (by simpa using hts)
    subst this
    exact sim_len (ts := #[]) hT hr hx he
  · rename_i t x hts
    obtain ⟨vx, rfl, hx⟩ := vrs_one ha
    have : ts = #[t] := Array.toList_inj.1 (by simpa using hts)
    subst this
    exact sim_cap (ts := #[]) hT hr hx he
  · rename_i t t' x y hts
    obtain ⟨vx, vy, rfl, hx, hy⟩ := vrs_two ha
    have : ts = #[t, t'] := Array.toList_inj.1 (by simpa using hts)
    subst this
    split at he
    · rename_i ht'
      split at he
      · rename_i el hd; exact sim_append hT hr hφ htk hs hx hy ht' hd he
      · cases he
    · cases he
  · obtain ⟨d, hm, rfl⟩ := Option.map_eq_some_iff.1 he
    exact sim_min (ts := ts) (ty := ty) (mx := false) hr ha hm
  · obtain ⟨d, hm, rfl⟩ := Option.map_eq_some_iff.1 he
    exact sim_min (ts := ts) (ty := ty) (mx := true) hr ha hm
  · cases he
end
theorem FR.put {N : Nat} {S : Sim} {A : Nat → D} {a : Act} (f : FR N S A a) {t : Nat} {d : D} {v : Value} (ht : t < N) (hv : VR S d v) : FR N S (upd A t d) (a.put (some t) v) := by
  refine ⟨by simp [Act.put, f.size], fun u => ?_⟩
  have hsz := f.size
  by_cases hu : u = t
  · subst hu
    have : (a.put (some u) v).tmps.getD u undef = v := by simp [Act.put, Array.getD, hsz, ht]
    rw [this]; simpa using hv
  · have : (a.put (some t) v).tmps.getD u undef = a.tmps.getD u undef := by
      simp only [Act.put, Array.getD_eq_getD_getElem?]
      rw [Array.getElem?_setIfInBounds_ne (Ne.symm hu)]
    rw [this, upd_ne _ _ _ _ hu]; exact f.val u
theorem FR.putO {N : Nat} {S : Sim} {st : St} {a : Act} (f : FR N S st.A a) {dst : Option Tmp} {d : D} {v : Value} (ht : ∀ t, dst = some t → t < N) (hv : VR S d v) :
    FR N S (st.put dst d).A (a.put dst v) := by
  cases dst with
  | none => exact f
  | some t => exact f.put (ht t rfl) hv
@[simp] theorem St.put_h (st : St) (dst : Option Tmp) (d : D) : (st.put dst d).h = st.h := by cases dst <;> rfl
@[simp] theorem put_defers (a : Act) (dst : Option Tmp) (v : Value) : (a.put dst v).defers = a.defers := by cases dst <;> rfl
theorem wanted_ok {N : Nat} {S : Sim} {A : Nat → D} {a : Act} (f : FR N S A a) {ops : Array Oper} {o : Oper} {b : Bool} (h : wantedD ops.toList A o = some b) : Region.wanted o (yielded ops a.tmps) = b := by
  unfold wantedD at h
  unfold Region.wanted
  split at h
  · rename_i hg; cases h; simp [hg]
  · rename_i j want hg
    simp only [hg]
    rw [Array.getElem?_toList] at h
    split at h
    · rename_i d hd
      have hv := f.val d
      have hy : yielded ops a.tmps j = match a.tmps[d]? with | some (.bool b) => some b | _ => none := by
        simp only [yielded, hd, Option.bind_some]
        cases a.tmps[d]? with
        | none => rfl
        | some u => cases u <;> rfl
      rw [hy]
      have hget : a.tmps.getD d undef = (a.tmps[d]?).getD undef := by simp [Array.getD_eq_getD_getElem?]
      rw [hget] at hv
      split at h
      · rename_i b' hb
        cases h
        rw [hb] at hv
        generalize hq : a.tmps[d]? = q at hv
        cases q with
        | none => simp [undef] at hv; cases hv
        | some u => simp only [Option.getD_some] at hv; cases hv; simp only []; cases b' <;> cases want <;> rfl
      · rename_i hb
        cases h
        rw [hb] at hv
        generalize hq : a.tmps[d]? = q at hv
        cases q with
        | none => cases want <;> rfl
        | some u => simp only [Option.getD_some] at hv; cases hv; cases want <;> rfl
      · cases h
    · cases h
structure Run (n : Nat) (S : Sim) (h : H) (w : World) (S' : Sim) (h' : H) (w' : World) : Prop where
  ext : Ext S h w S' h' w'
  nx : h.next ≤ h'.next
  old : ∀ b, b < n → S'.φ b = S.φ b ∧ S'.tk b = S.tk b
theorem Run.refl (n : Nat) (S : Sim) (h : H) (w : World) : Run n S h w S h w := ⟨.refl S h w, Nat.le_refl _, fun _ _ => ⟨rfl, rfl⟩⟩
theorem Run.trans {n : Nat} {S S' S'' : Sim} {h h' h'' : H} {w w' w'' : World} (a : Run n S h w S' h' w') (b : Run n S' h' w' S'' h'' w'') : Run n S h w S'' h'' w'' :=
  ⟨a.ext.trans b.ext, Nat.le_trans a.nx b.nx, fun i hi => ⟨(b.old i hi).1.trans (a.old i hi).1, (b.old i hi).2.trans (a.old i hi).2⟩⟩
theorem Run.less {n m : Nat} {S S' : Sim} {h h' : H} {w w' : World} (a : Run n S h w S' h' w') (hm : m ≤ n) : Run m S h w S' h' w' :=
  ⟨a.ext, a.nx, fun i hi => a.old i (Nat.lt_of_lt_of_le hi hm)⟩
theorem Run.heap {n : Nat} {S S' : Sim} {h h' : H} {w w' w'' : World} (e : w''.heap = w'.heap) (a : Run n S h w S' h' w') (e2 : w''.os = w'.os ∧ w''.output = w'.output := by exact ⟨rfl, rfl⟩) : Run n S h w S' h' w'' := ⟨a.ext.heap e e2, a.nx, a.old⟩
def MK (S : Sim) (h : H) (w : World) (z : Nat) (ds : List Deferred) : Prop :=
  ∃ rs : List Nat, ds.map (·.target) = rs.map Target.collected ∧ rs.Nodup ∧ ∀ r ∈ rs, z ≤ r ∧ w.heap[r]? = some (.deferred (some [])) ∧ ¬ Owned S h r
theorem MK.nil {S : Sim} {h : H} {w : World} {z : Nat} : MK S h w z [] := ⟨[], rfl, .nil, by simp⟩
theorem MK.ext {S S' : Sim} {h h' : H} {w w' : World} {z : Nat} {ds : List Deferred} (m : MK S h w z ds) (x : Ext S h w S' h' w') : MK S' h' w' z ds := by
  obtain ⟨rs, h1, h2, h3⟩ := m
  refine ⟨rs, h1, h2, fun r hr => ?_⟩
  obtain ⟨a, b, c⟩ := h3 r hr
  have hlt := size_of_some b
  refine ⟨a, by rw [x.same r hlt c]; exact b, fun ho => ?_⟩
  rcases x.own r ho with h | h
  · exact c h
  · omega
theorem HR.bump {S : Sim} {h : H} {w : World} (r : HR S h w) (k : Nat) : HR S ⟨h.next + k, h.blk⟩ w where
  imm := r.imm
  live := r.live
  map := r.map
  loop := r.loop
  tok := r.tok
  disI := r.disI
  inj := r.inj
  fresh b hb := r.fresh b (by simp at hb; omega)
  fix := r.fix
theorem Ext.bump {S : Sim} {h : H} {w : World} (k : Nat) : Ext S h w S ⟨h.next + k, h.blk⟩ w :=
  ⟨.refl S, Nat.le_refl _, fun _ _ _ => rfl, fun _ h => .inl h, fun _ _ _ h => .inl h, .rfl'⟩
def Wide (F : Fence) : Prop := (∀ f, F.fn f) ∧ F.depth = none
theorem Wide.inRound {F : Fence} (hF : Wide F) (l : Nat) : Wide (F.inRound l) := hF
theorem Wide.none {F : Fence} (hF : Wide F) {n : Nat} (h : F.depth.isSome = true) : 1 ≤ n := by rw [hF.2] at h; cases h
def Ends (S : Sim) (h : H) (w : World) (r : D) (h' : H) (e : Ending) (w' : World) : Prop :=
  ∃ v S', e = .returned v ∧ Run h.next S h w S' h' w' ∧ HR S' h' w' ∧ VR S' r v
def CallOK (P : Program) (F : Fence) (cv : CallV) : Prop := ∀ fv args h r h' fp, cv fv args h = some (r, h', fp) → ∀ S w vf (vs : Array Value), HR S h w → VR S fv vf → VRs S args vs.toList →
  (∃ g cap aa_, vf = .func (.func g) #[] cap ∧ (invoke (.fn (.func g) cap) vs).run P w = .ok (.enter g aa_) w ∧ ∀ m, CallsIn F m P g aa_ w (Ends S h w r h')) ∨
  (∃ b l f tmps aa_ bd, fv = .yld b ∧ vf = .func (.yield l) #[] #[] ∧ (invoke (.fn (.yield l) #[]) vs).run P w = .ok (.round l f tmps aa_ bd) w ∧ ∀ m, RoundIn F m P l f tmps aa_ bd w (Ends S h w r h'))
section
variable {P : Program} {F : Fence} {E : Env} {cv : CallV} {cur : FuncId} {N : Nat}
def OpPost (N : Nat) (S : Sim) (h : H) (w : World) (s : Nat) (a : Act) (st' : St) (a' : Act) (w' : World) : Prop :=
  ∃ S', Ext S h w S' st'.h w' ∧ h.next ≤ st'.h.next ∧ (∀ b, b ≠ s → b < h.next → S'.φ b = S.φ b ∧ S'.tk b = S.tk b) ∧ HR S' st'.h w' ∧ FR N S' st'.A a' ∧ a'.defers = a.defers
theorem op_of_sim {S : Sim} {st : St} {w : World} {s : Nat} {e : Eff} {a : Act} {o : Oper} {m : Nat} {Q : Exit → Act → World → Prop} {K : Act → World → Prop} (hF : Wide F) (hop : opOk o.op = true) (hd : dstOk N o = true)
    (f : FR N S st.A a) (hs : OpSim P S st.h w s e (execOp a.eval o)) (hK : ∀ a' w', OpPost N S st.h w s a (e.apply o.dst st) a' w' → K a' w') : o.wpIn F m P a w K Q := by
  obtain ⟨nx, w', S', h1, ⟨v, h2, h3⟩, h4, h5, h6⟩ := hs
  have hdst : ∀ t, o.dst = some t → t < N := fun t ht => by simpa [dstOk, ht] using hd
  have hpost : OpPost N S st.h w s a (e.apply o.dst st) (a.put o.dst v) w' := by
    refine ⟨S', ?_, ?_, fun b hb _ => h6 b hb, ?_, ?_, by simp⟩
    · simpa [Eff.apply] using h4
    · simp [Eff.apply]
    · simpa [Eff.apply] using h5
    · exact (f.mono h4.le).putO (st := ⟨st.A, ⟨st.h.next, upds st.h.blk e.wr⟩⟩) hdst h3
  refine ⟨fun g _ => hF.1 g, ?_⟩
  rw [Oper.semAt_eq _ _ _ (fun c hc => by rw [hc] at hop; cases hop), h1]
  rcases h2 with rfl | ⟨rfl, rfl⟩
  · exact hK _ _ hpost
  · exact hK _ _ hpost
theorem op_step (hF : Wide F) (hT : TOK P E.T) (hcv : CallOK P F cv) {ops : Array Oper} {base i : Nat} {o : Oper} {st st' : St} {fp : FP} {S : Sim} {w : World} {a : Act} {m : Nat} {Q : Exit → Act → World → Prop} {K : Act → World → Prop}
    (he : stepOp E cv cur ops.toList base i o st = some (st', fp)) (hi : ops[i]? = some o) (hop : opOk o.op = true) (hd : dstOk N o = true) (hr : HR S st.h w) (f : FR N S st.A a)
    (hφ : S.φ (base + i) = none) (htk : S.tk (base + i) = none) (hs : base + i < st.h.next)
    (hK : ∀ a' w', OpPost N S st.h w (base + i) a st' a' w' → K a' w') : wpOpIn F m P ops Q i K a w := by
  unfold wpOpIn
  simp only [hi]
  have hdst : ∀ t, o.dst = some t → t < N := fun t ht => by simpa [dstOk, ht] using hd
  unfold stepOp at he
  split at he
  · cases he
  · rename_i hw
    rw [wanted_ok f hw]
    cases he
    refine ⟨fun g _ => hF.1 g, hK _ _ ⟨S, ?_, ?_, fun _ _ _ => ⟨rfl, rfl⟩, ?_, f.putO hdst .undef, by simp⟩⟩
    · simpa using Ext.refl S st.h w
    · simp
    · simpa using hr
  · rename_i hw
    rw [wanted_ok f hw, if_pos rfl]
    split at he
    · rename_i c hc
      split at he
      · rename_i v h' fp' hcall
        cases he
        unfold callOp at hcall
        split at hcall
        · cases hcall
        · rename_i args hargs
          have hvs : VRs S args (c.args.map a.eval).toList := mapO_array f hargs
          split at hcall
          · rename_i b hb
            split at hcall
            · rename_i e he
              cases hcall
              have hsim := builtin_sim (ty := o.type) (cs := c.args.map fun | .const _ => true | _ => false) hT hr hφ htk hs hvs he
              refine op_of_sim (e := e) hF hop hd f ?_ hK
              obtain ⟨nx, w', S', h1, hrest⟩ := hsim
              refine ⟨nx, w', S', ?_, hrest⟩
              rw [← h1]
              simp only [execOp, hc, resolve, hb, Sem.run_bind, Sem.run_pure, Result.andThen_ok, invoke]
              rfl
            · cases hcall
          · rename_i fo hfo
            split at hcall
            · rename_i fv hfv
              have hvf := opd_sim f hfv
              have hres := hcv _ _ _ _ _ _ hcall S w (a.eval fo) (c.args.map a.eval) hr hvf hvs
              refine ⟨fun g _ => hF.1 g, ?_⟩
              rw [Oper.semAt_eq _ _ _ (fun c hc => by rw [hc] at hop; cases hop)]
              have hends : ∀ (u : Value) (w'' : World), Ends S st.h w v h' (.returned u) w'' → K (a.put o.dst u) w'' := by
                rintro u w'' ⟨u', S', e1, e2, e3, e4⟩
                cases e1
                refine hK _ _ ⟨S', ?_, ?_, fun b _ hb => e2.old b hb, ?_, ?_, by simp⟩
                · simpa using e2.ext
                · simpa using e2.nx
                · simpa using e3
                · exact (f.mono e2.ext.le).putO (st := ⟨st.A, h'⟩) hdst e4
              rcases hres with ⟨g, cap, aa_, q1, q2, q3⟩ | ⟨b, l, g, tmps, aa_, bd, q0, q1, q2, q3⟩
              · have hrun : (execOp a.eval o).run P w = .ok (.enter g aa_) w := by
                  simp only [execOp, hc, resolve, hfo, q1, Deferred.ofValue, Sem.run_bind, Sem.run_pure, Result.andThen_ok]
                  simpa using q2
                rw [hrun]
                refine ⟨fun h => hF.none h, (q3 _).mono fun e w'' he => ?_⟩
                cases e with
                | returned u => exact hends u w'' he
                | panicked ch => obtain ⟨_, _, e1, _⟩ := he; cases e1
                | outgrown => obtain ⟨_, _, e1, _⟩ := he; cases e1
              · have hrun : (execOp a.eval o).run P w = .ok (.round l g tmps aa_ bd) w := by
                  simp only [execOp, hc, resolve, hfo, q1, Deferred.ofValue, Sem.run_bind, Sem.run_pure, Result.andThen_ok]
                  simpa using q2
                rw [hrun]
                refine ⟨fun h => hF.none h, (q3 _).mono fun e w'' he => ?_⟩
                cases e with
                | returned u => exact hends u w'' he
                | panicked ch => obtain ⟨_, _, e1, _⟩ := he; cases e1
                | outgrown => obtain ⟨_, _, e1, _⟩ := he; cases e1
            · cases hcall
          · cases hcall
      · cases he
    · split at he
      · rename_i e hev
        cases he
        exact op_of_sim hF hop hd f (evalOp_sim hT hr hφ htk hs f hev) hK
      · cases he
end
end Go.Eng
namespace Go.Eng
open Go
theorem mapO_congr {α β : Type} {f g : α → Option β} : ∀ {l : List α}, (∀ x ∈ l, f x = g x) → mapO f l = mapO g l
  | [], _ => rfl
  | x :: xs, h => by
    simp only [mapO]
    rw [h x (List.mem_cons_self ..), mapO_congr fun y hy => h y (List.mem_cons_of_mem _ hy)]
theorem mapK_congr {f g : D → Option (D × List Nat)} : ∀ {ds ys : List D} {k : List Nat}, mapK f ds = some (ys, k) → (∀ d y k', f d = some (y, k') → (∀ b ∈ k', b ∈ k) → g d = some (y, k')) → mapK g ds = some (ys, k)
  | [], ys, k, h, _ => h
  | d :: ds, ys, k, h, hg => by
    simp only [mapK] at h ⊢
    split at h
    · rename_i y k1 h1
      split at h
      · rename_i ys' k2 h2
        cases h
        rw [hg d y k1 h1 (fun b hb => List.mem_append_left _ hb)]
        rw [mapK_congr h2 fun d y k' h3 h4 => hg d y k' h3 fun b hb => List.mem_append_right _ (h4 b hb)]
      · cases h
    · cases h
theorem snap_local {blk blk' : Nat → Blk} : ∀ (n : Nat) (kp : Bool) (d y : D) (k : List Nat), snap kp blk n d = some (y, k) → (∀ b ∈ k, blk' b = blk b) → snap kp blk' n d = some (y, k)
  | 0, _, _, _, _, h, _ => by cases h
  | n + 1, kp, d, y, k, h, hb => by
    have ih := snap_local (blk := blk) (blk' := blk') n
    unfold snap at h ⊢
    split at h <;> first | exact h | (cases h; done) | skip
    · rename_i x
      split at h
      · rename_i y1 k1 hk
        cases h
        try simp only []
        rw [ih false x _ _ hk hb]
      · cases h
    · rename_i xs tk
      split at h
      · rename_i ys k1 hk
        cases h
        try simp only []
        rw [mapK_congr hk fun d y k' h1 h2 => ih false d y k' h1 fun b hbb => hb b (h2 b hbb)]
      · cases h
    · rename_i cs
      split at h
      · rename_i ys k1 hk
        cases h
        try simp only []
        rw [mapK_congr hk fun d y k' h1 h2 => ih kp d y k' h1 fun b hbb => hb b (h2 b hbb)]
      · cases h
    · rename_i cs
      split at h
      · rename_i ys k1 hk
        cases h
        try simp only []
        rw [mapK_congr hk fun d y k' h1 h2 => ih kp d y k' h1 fun b hbb => hb b (h2 b hbb)]
      · cases h
    · rename_i f cs
      split at h
      · rename_i ys k1 hk
        cases h
        try simp only []
        rw [mapK_congr hk fun d y k' h1 h2 => ih kp d y k' h1 fun b hbb => hb b (h2 b hbb)]
      · cases h
    · rename_i b esz off len ex
      split at h
      · rename_i e xs hk
        split at h
        · rename_i hc
          split at h
          · rename_i ys k1 hk1
            cases h
            try simp only []
            rw [hb b (List.mem_cons_self ..), hk]
            try simp only []
            rw [if_pos hc, mapK_congr hk1 fun d y k' h1 h2 => ih false d y k' h1 fun b hbb => hb b (List.mem_cons_of_mem _ (h2 b hbb))]
          · cases h
        · cases h
      · cases h
    · rename_i b
      split at h
      · rename_i e x hk
        split at h
        · rename_i y' k1 hk1
          cases h
          try simp only []
          rw [hb b (List.mem_cons_self ..), hk]
          try simp only []
          rw [ih false x y' k1 hk1 fun b hbb => hb b (List.mem_cons_of_mem _ hbb)]
        · cases h
      · cases h
theorem mapK_snap_local {blk blk' : Nat → Blk} {n : Nat} {kp : Bool} {ds ys : List D} {k : List Nat} (h : mapK (snap kp blk n) ds = some (ys, k)) (hb : ∀ b ∈ k, blk' b = blk b) : mapK (snap kp blk' n) ds = some (ys, k) :=
  mapK_congr h fun d y k' h1 h2 => snap_local n kp d y k' h1 fun b hbb => hb b (h2 b hbb)
theorem mem_kills {blk : Nat → Blk} {b : Nat} {ks : List Nat} (h : b ∈ ks) : b ∈ (kills blk ks).map (·.1) := by simpa [kills] using h
theorem kills_congr {blk blk' : Nat → Blk} {ks : List Nat} (h : ∀ b ∈ ks, blk' b = blk b) : kills blk' ks = kills blk ks := by
  have hm : mask ks blk' = mask ks blk := by
    funext b
    unfold mask
    split
    · rename_i hb; exact h b hb
    · rfl
  unfold kills
  refine List.map_congr_left fun k hk => ?_
  unfold fixOf
  rw [h k hk, hm]
section
variable {T : Tab} {mu : Bool} {s : Nat} {blk blk' : Nat → Blk} {e : Eff}
theorem loadD_local {t : TypeId} {x : D} (h : loadD T blk t x = some e) (hb : ∀ b, (b ∈ e.rd ∨ b ∈ e.wr.map (·.1)) → blk' b = blk b) : loadD T blk' t x = some e := by
  unfold loadD at h ⊢
  split at h
  · exact h
  · rename_i b i o
    split at h
    · rename_i esz xs hk
      split at h
      · rename_i el hel
        have h' := h
        obtain ⟨v, hv, rfl⟩ := Option.map_eq_some_iff.1 h
        try simp only []
        rw [hb b (.inl (List.mem_cons_self ..)), hk]
        simp only [hel]
        exact h'
      · cases h
    · cases h
  · cases h
theorem storeD_local {t : TypeId} {x v : D} (h : storeD T blk t x v = some e) (hb : ∀ b, (b ∈ e.rd ∨ b ∈ e.wr.map (·.1)) → blk' b = blk b) : storeD T blk' t x v = some e := by
  unfold storeD at h ⊢
  split at h
  · rename_i b i o
    split at h
    · rename_i esz xs hk
      split at h
      · rename_i el hel
        split at h
        · rename_i hc
          split at h
          · rename_i e' hs
            cases h
            try simp only []
            rw [hb b (.inl (List.mem_cons_self ..)), hk]
            simp only [hel]
            rw [if_pos hc]
            simp only [hs]
          · cases h
        · cases h
      · cases h
    · cases h
  · cases h
theorem sliceD_local {t : TypeId} {x : D} {lo hi mx : Option Int} (h : sliceD T blk t x lo hi mx = some e) (hb : ∀ b, (b ∈ e.rd ∨ b ∈ e.wr.map (·.1)) → blk' b = blk b) : sliceD T blk' t x lo hi mx = some e := by
  unfold sliceD at h ⊢
  split at h
  · rename_i ht
    rw [if_pos ht]
    split at h
    · exact h
    · rename_i n el hel
      try simp only [hel]
      split at h
      · rename_i hc
        rw [if_pos hc]
        split at h
        · exact h
        · rename_i b
          split at h
          · rename_i e' cs hk
            split at h
            · rename_i hcs
              split at h
              · rename_i l h' ex hbd
                split at h
                · rename_i ys k hm
                  cases h
                  try simp only []
                  rw [hb b (.inr (mem_kills (List.mem_cons_self ..))), hk]
                  try simp only []
                  rw [if_pos hcs]
                  try simp only [hbd]
                  try simp only []
                  rw [mapK_snap_local hm fun b hbb => hb b (.inr (mem_kills (List.mem_cons_of_mem _ hbb)))]
                  try simp only []
                  rw [kills_congr fun q hq => hb q (.inr (mem_kills hq))]
                · cases h
              · cases h
            · cases h
          · cases h
        · cases h
      · cases h
    · cases h
  · cases h
theorem appendD_local {t : TypeId} {x y : D} (h : appendD T mu s blk t x y = some e) (hb : ∀ b, (b ∈ e.rd ∨ b ∈ e.wr.map (·.1)) → blk' b = blk b) : appendD T mu s blk' t x y = some e := by
  unfold appendD at h ⊢
  split at h
  · cases h
  rename_i el hel
  try simp only [hel]
  try simp only []
  split at h
  · cases h
  rename_i ys rd hys
  split at h
  · rename_i xs tk
    split at h
    · rename_i hmu
      split at h
      · rename_i hc
        split at h
        · cases h
          rw [elemsD_local hys fun b hbb => hb b (.inl hbb)]
          try simp only []
          rw [if_pos hmu, if_pos hc]
        · cases h
          rw [elemsD_local hys fun b hbb => hb b (.inl hbb)]
          try simp only []
          rw [if_pos hmu, if_pos hc]
        · cases h
      · cases h
    · rename_i hmu
      split at h
      · cases h
      rename_i zs k hz
      split at h
      · rename_i hc
        split at h
        · cases h
          rw [elemsD_local hys fun b hbb => hb b (.inl hbb)]
          try simp only []
          rw [if_neg hmu, mapK_snap_local hz fun b hbb => hb b (.inr (by simp only [List.map_append]; exact List.mem_append_left _ (mem_kills hbb)))]
          try simp only []
          rw [if_pos hc]
          rw [kills_congr fun q hq => hb q (.inr (by simp only [List.map_append]; exact List.mem_append_left _ (mem_kills hq)))]
        · cases h
          rw [elemsD_local hys fun b hbb => hb b (.inl hbb)]
          try simp only []
          rw [if_neg hmu, mapK_snap_local hz fun b hbb => hb b (.inr (by simp only [List.map_append]; exact List.mem_append_left _ (mem_kills hbb)))]
          try simp only []
          rw [if_pos hc]
          rw [kills_congr fun q hq => hb q (.inr (by simp only [List.map_append]; exact List.mem_append_left _ (mem_kills hq)))]
        · rename_i o z
          split at h
          · rename_i hzz
            split at h
            · rename_i ho
              cases h
              rw [elemsD_local hys fun b hbb => hb b (.inl (List.mem_cons_of_mem _ hbb))]
              try simp only []
              rw [if_neg hmu, mapK_snap_local hz fun b hbb => hb b (.inr (by simp only [List.map_append]; exact List.mem_append_left _ (mem_kills hbb)))]
              try simp only []
              rw [if_pos hc, if_pos hzz, hb o (.inl (List.mem_cons_self ..)), ho]
              try simp only []
              rw [kills_congr fun q hq => hb q (.inr (by simp only [List.map_append]; exact List.mem_append_left _ (mem_kills hq)))]
            · cases h
          · cases h
        · cases h
      · cases h
  · rename_i b esz off len ex
    split at h
    · rename_i e' xs hk
      split at h
      · rename_i hc
        cases h
        rw [elemsD_local hys fun b hbb => hb b (.inl (List.mem_cons_of_mem _ hbb))]
        try simp only []
        rw [hb b (.inl (List.mem_cons_self ..)), hk]
        try simp only []
        rw [if_pos hc]
      · cases h
    · cases h
  · cases h
theorem lenD_local {t : TypeId} {x : D} (h : lenD T blk t x = some e) (hb : ∀ b, (b ∈ e.rd ∨ b ∈ e.wr.map (·.1)) → blk' b = blk b) : lenD T blk' t x = some e := by
  unfold lenD at h ⊢
  split at h
  · rename_i ht
    rw [if_pos ht]
    split at h <;> try exact h
    rename_i b hd
    try simp only [hd]
    try simp only []
    split at h
    · rename_i es hk
      cases h
      rw [hb b (.inl (List.mem_cons_self ..)), hk]
    · cases h
  · cases h
theorem builtinD_local {mu : TypeId → Bool} {b : Builtin} {ts : List TypeId} {xs : List D} (h : builtinD T mu s blk b ts xs = some e) (hb : ∀ b, (b ∈ e.rd ∨ b ∈ e.wr.map (·.1)) → blk' b = blk b) : builtinD T mu s blk' b ts xs = some e := by
  unfold builtinD at h ⊢
  split at h
  · exact lenD_local h hb
  · exact h
  · split at h
    · rename_i ht
      try simp only []
      rw [if_pos ht]
      split at h
      · rename_i el hd; try simp only [hd]
        exact appendD_local h hb
      · cases h
    · cases h
  · exact h
  · exact h
  · cases h
theorem lookupD_local {t : TypeId} {m k : D} {ok : Bool} (h : lookupD T blk t m k ok = some e) (hb : ∀ b, (b ∈ e.rd ∨ b ∈ e.wr.map (·.1)) → blk' b = blk b) : lookupD T blk' t m k ok = some e := by
  unfold lookupD at h ⊢
  split at h
  · cases h
  rename_i kt et hm
  try simp only [hm]
  try simp only []
  split at h
  · rename_i hk
    rw [if_pos hk]
    split at h
    · exact h
    · rename_i b
      split at h
      · rename_i es hbk
        have hrd : b ∈ e.rd := by
          split at h <;> first | (cases h; exact List.mem_cons_self ..) | cases h
        try simp only []
        rw [hb b (.inl hrd), hbk]
        exact h
      · cases h
    · cases h
  · cases h
theorem updateD_local {t : TypeId} {m k x : D} (h : updateD T blk t m k x = some e) (hb : ∀ b, (b ∈ e.rd ∨ b ∈ e.wr.map (·.1)) → blk' b = blk b) : updateD T blk' t m k x = some e := by
  unfold updateD at h ⊢
  split at h
  · cases h
  rename_i kt et hm
  try simp only [hm]
  try simp only []
  split at h
  · rename_i hk
    rw [if_pos hk]
    split at h
    · rename_i b
      split at h
      · rename_i es hbk
        have hrd : b ∈ e.rd := by
          split at h
          · split at h
            · split at h
              · cases h; exact List.mem_cons_self ..
              · cases h
            · cases h
          · cases h; exact List.mem_cons_self ..
          · cases h
        try simp only []
        rw [hb b (.inl hrd), hbk]
        exact h
      · cases h
    · cases h
  · cases h
theorem evalOp_local {mu : TypeId → Bool} {ρ : Operand → Option D} {op : Op} (h : evalOp T mu s blk ρ op = some e) (hb : ∀ b, (b ∈ e.rd ∨ b ∈ e.wr.map (·.1)) → blk' b = blk b) : evalOp T mu s blk' ρ op = some e := by
  cases op <;> simp only [evalOp] at h ⊢ <;> try exact h
  case makeFunc fn first cap => cases fn <;> first | exact h | (simp only [evalOp] at h ⊢; exact h)
  case buildSlice t len parts =>
    split at h
    · cases h
    rename_i el hel
    try simp only [hel]
    try simp only []
    split at h
    · cases h
    rename_i xs hxs
    try simp only [hxs]
    try simp only []
    split at h
    · rename_i hc
      rw [if_pos hc]
      split at h
      · rename_i hm; rw [if_pos hm]; exact h
      · rename_i hm
        rw [if_neg hm]
        split at h
        · rename_i zs k hz
          split at h
          · rename_i hzz
            cases h
            rw [mapK_snap_local hz fun b hbb => hb b (.inr (mem_kills hbb))]
            try simp only []
            rw [if_pos hzz, kills_congr fun q hq => hb q (.inr (mem_kills hq))]
          · cases h
        · cases h
    · cases h
  case load t x =>
    split at h
    · rename_i d hd; try simp only [hd]
      exact loadD_local h hb
    · cases h
  case store t x y =>
    split at h
    · rename_i d d' hd hd'; try simp only [hd, hd']
      exact storeD_local h hb
    · cases h
  case slice t x lo hi mx =>
    split at h
    · rename_i x' l h' m h1 h2 h3 h4
      split at h
      · rename_i hc; try simp only [h1, h2, h3, h4]
        rw [if_pos hc]; exact sliceD_local h hb
      · cases h
    · cases h
  case lookup t m k ok =>
    split at h
    · rename_i d d' hd hd'; try simp only [hd, hd']
      exact lookupD_local h hb
    · cases h
  case mapUpdate t m k x =>
    split at h
    · rename_i d d' d'' hd hd' hd''; try simp only [hd, hd', hd'']
      exact updateD_local h hb
    · cases h
  case insert t m k x =>
    split at h
    · rename_i d d' d'' hd hd' hd''; try simp only [hd, hd', hd'']
      exact updateD_local h hb
    · cases h
end
theorem evalOp_congr {T : Tab} {mu : TypeId → Bool} {s : Nat} {blk : Nat → Blk} {ρ ρ' : Operand → Option D} {op : Op} (h : ∀ x ∈ op.operands, ρ x = ρ' x) : evalOp T mu s blk ρ op = evalOp T mu s blk ρ' op := by
  have pairs : ∀ ps : Array (Nat × Operand), (∀ x ∈ ps.map (·.2), ρ x = ρ' x) → ∀ p ∈ ps.toList, ρ p.2 = ρ' p.2 := fun ps hp p hm =>
    hp p.2 (Array.mem_map.2 ⟨p, by simpa using hm, rfl⟩)
  cases op <;> simp only [Op.operands] at h <;> simp only [evalOp]
  case build t ps =>
    rw [mapO_congr (f := fun p : Nat × Operand => (ρ p.2).map fun v => (p.1, v)) (g := fun p => (ρ' p.2).map fun v => (p.1, v)) (l := ps.toList) fun p hp => by
      rw [pairs ps (fun x hx => h x (by simpa using hx)) p hp]]
  case buildSlice t n ps =>
    rw [mapO_congr (f := fun p : Nat × Operand => ρ p.2) (g := fun p => ρ' p.2) (l := ps.toList) fun p hp => pairs ps (fun x hx => h x (by simpa using hx)) p hp]
  case makeFunc fn first cap =>
    cases fn <;> simp only [evalOp]
    rw [mapO_congr (f := ρ) (g := ρ') (l := cap.toList) fun x hx => h x (by simp; right; simpa using hx)]
  case slice t x lo hi mx => cases lo <;> cases hi <;> cases mx <;> simp_all
  all_goals (first | rfl | (simp_all; done))
theorem strAtD_idle {T : Tab} {t : TypeId} {s : ByteArray} {n : Int} {e : Eff} (h : strAtD T t s n = some e) : e.rd = [] ∧ e.wr = [] := by
  unfold strAtD at h
  (repeat' split at h) <;> first | (cases h; done) | (cases h; exact ⟨rfl, rfl⟩)
theorem evalOp_idle {T : Tab} {mu : TypeId → Bool} {s : Nat} {blk : Nat → Blk} {ρ : Operand → Option D} {o : Oper} {e : Eff} (hh : heapy o = false) (h : evalOp T mu s blk ρ o.op = some e) : e.rd = [] ∧ e.wr = [] := by
  unfold heapy at hh
  cases ho : o.op <;> rw [ho] at hh h
  all_goals try (simp at hh; done)
  case makeFunc fn first cap =>
    cases fn <;> simp only [evalOp] at h <;> (repeat' split at h) <;> first | (cases h; done) | (cases h; exact ⟨rfl, rfl⟩)
  all_goals simp only [evalOp] at h
  all_goals try (cases h; done)
  all_goals
    (repeat' split at h)
    all_goals first
      | (cases h; done)
      | (cases h; exact ⟨rfl, rfl⟩)
      | exact strAtD_idle h
      | (obtain ⟨_, _, hq⟩ := Option.map_eq_some_iff.1 h; rw [← hq]; exact ⟨rfl, rfl⟩)
theorem builtinD_idle {T : Tab} {mu : TypeId → Bool} {s : Nat} {blk : Nat → Blk} {b : Builtin} {ts : List TypeId} {xs : List D} {e : Eff} (hb : b = .min ∨ b = .max ∨ b = .cap) (h : builtinD T mu s blk b ts xs = some e) : e.rd = [] ∧ e.wr = [] := by
  unfold builtinD at h
  rcases hb with rfl | rfl | rfl
  · obtain ⟨_, _, rfl⟩ := Option.map_eq_some_iff.1 h; exact ⟨rfl, rfl⟩
  · obtain ⟨_, _, rfl⟩ := Option.map_eq_some_iff.1 h; exact ⟨rfl, rfl⟩
  · have hcap : ∀ t x, capD T t x = some e → e.rd = [] ∧ e.wr = [] := fun t x hx => by
      unfold capD at hx
      (repeat' split at hx)
      all_goals first | (cases hx; done) | (cases hx; exact ⟨rfl, rfl⟩)
    cases ts with
    | nil => simp at h
    | cons t ts => cases ts with
      | cons _ _ => simp at h
      | nil => cases xs with
        | nil => simp at h
        | cons x xs => cases xs with
          | cons _ _ => simp at h
          | nil => exact hcap t x h
end Go.Eng
namespace Go.Eng
open Go
def CV (cv : CallV) : Prop := ∀ f args h r h' fp, cv f args h = some (r, h', fp) →
  (fp.full = true ∧ fp.rd = [] ∧ fp.wr = []) ∨
  (fp.full = false ∧ ∃ wr : List (Nat × Blk), fp.wr = wr.map (·.1) ∧ h' = ⟨h.next, upds h.blk wr⟩ ∧
    ∀ h2 : H, (∀ b, (b ∈ fp.rd ∨ b ∈ fp.wr) → h2.blk b = h.blk b) → cv f args h2 = some (r, ⟨h2.next, upds h2.blk wr⟩, fp))
theorem upds_not {α : Type} (b : Nat) : ∀ (wr : List (Nat × α)) (f : Nat → α), b ∉ wr.map (·.1) → upds f wr b = f b
  | [], _, _ => rfl
  | (d, v) :: r, f, h => by
    simp only [List.map_cons, List.mem_cons, not_or] at h
    simp only [upds]
    rw [upds_not b r _ h.2, upd_ne _ _ _ _ h.1]
theorem upds_congr {α : Type} (b : Nat) : ∀ (wr : List (Nat × α)) (f g : Nat → α), f b = g b → upds f wr b = upds g wr b
  | [], _, _, h => h
  | (d, v) :: r, f, g, h => by
    simp only [upds]
    exact upds_congr b r _ _ (by by_cases hb : b = d <;> simp [upd, hb, h])
theorem upds_swap {α : Type} {wr wr' : List (Nat × α)} (f : Nat → α) (h : ∀ x ∈ wr.map (·.1), ∀ y ∈ wr'.map (·.1), x ≠ y) : upds (upds f wr) wr' = upds (upds f wr') wr := by
  funext b
  by_cases hb : b ∈ wr.map (·.1)
  · have hb' : b ∉ wr'.map (·.1) := fun h' => h b hb b h' rfl
    rw [upds_not b wr' _ hb']
    exact upds_congr b wr _ _ (upds_not b wr' f hb').symm
  · rw [upds_not b wr _ hb]
    exact upds_congr b wr' _ _ (upds_not b wr f hb)
theorem opd_agree {A B : Nat → D} {x : Operand} (h : ∀ t, x = .tmp t → B t = A t) : opd B x = opd A x := by
  cases x with
  | tmp t => simp [opd, h t rfl]
  | _ => rfl
section
variable {E : Env} {cv : CallV} {cur : FuncId} {ops : List Oper} {base : Nat}
theorem wantedD_agree {A B : Nat → D} {o : Oper} (h : ∀ t ∈ tmpsOf ops o, B t = A t) : wantedD ops B o = wantedD ops A o := by
  unfold wantedD
  cases hg : o.guard with
  | none => rfl
  | some p =>
    obtain ⟨j, want⟩ := p
    simp only []
    cases hd : (ops[j]?).bind (·.dst) with
    | none => rfl
    | some d =>
      simp only []
      rw [h d (List.mem_append_right _ (by simp [hg, hd]))]
theorem opds_agree {A B : Nat → D} {o : Oper} (h : ∀ t ∈ tmpsOf ops o, B t = A t) : ∀ x ∈ o.op.operands, opd B x = opd A x := fun x hx =>
  opd_agree fun t ht => h t (List.mem_append_left _ (List.mem_filterMap.2 ⟨x, by simpa using hx, by rw [ht]⟩))
theorem stepOp_local (hcv : CV cv) {i : Nat} {o : Oper} {st st' : St} {fp : FP} (h : stepOp E cv cur ops base i o st = some (st', fp)) : ∃ v,
    (fp.full = false ∧ ∃ wr : List (Nat × Blk), fp.wr = wr.map (·.1) ∧ st' = St.put ⟨st.A, ⟨st.h.next, upds st.h.blk wr⟩⟩ o.dst v ∧
      ∀ st2 : St, (∀ t ∈ tmpsOf ops o, st2.A t = st.A t) → (∀ b, (b ∈ fp.rd ∨ b ∈ fp.wr) → st2.h.blk b = st.h.blk b) →
        stepOp E cv cur ops base i o st2 = some (St.put ⟨st2.A, ⟨st2.h.next, upds st2.h.blk wr⟩⟩ o.dst v, fp)) ∨
    (fp.full = true ∧ fp.rd = [] ∧ fp.wr = [] ∧ ∃ h' : H, st' = St.put ⟨st.A, h'⟩ o.dst v ∧
      ∀ st2 : St, (∀ t ∈ tmpsOf ops o, st2.A t = st.A t) → st2.h = st.h → stepOp E cv cur ops base i o st2 = some (St.put ⟨st2.A, h'⟩ o.dst v, fp)) := by
  unfold stepOp at h
  split at h
  · cases h
  · rename_i hw
    cases h
    refine ⟨.undef, .inl ⟨rfl, [], rfl, rfl, fun st2 ht _ => ?_⟩⟩
    unfold stepOp
    rw [wantedD_agree ht, hw]
    rfl
  · rename_i hw
    split at h
    · rename_i c hc
      split at h
      · rename_i v h' fp' hcall
        cases h
        have hops : ∀ st2 : St, (∀ t ∈ tmpsOf ops o, st2.A t = st.A t) → mapO (opd st2.A) c.args.toList = mapO (opd st.A) c.args.toList := fun st2 ht =>
          mapO_congr fun x hx => opds_agree ht x (by rw [hc]; simp only [Op.operands, Call.operands]; exact Array.mem_append_right _ (by simpa using hx))
        have hstep : ∀ (st2 : St) (r : D) (h2 : H) (fp2 : FP), (∀ t ∈ tmpsOf ops o, st2.A t = st.A t) → callOp E cv cur c (base + i) st2 = some (r, h2, fp2) →
            stepOp E cv cur ops base i o st2 = some (St.put ⟨st2.A, h2⟩ o.dst r, fp2) := fun st2 r h2 fp2 ht hcl => by
          unfold stepOp
          rw [wantedD_agree ht, hw]
          simp only [hc, hcl]
        unfold callOp at hcall
        split at hcall
        · cases hcall
        · rename_i args hargs
          split at hcall
          · rename_i b hb
            split at hcall
            · rename_i e he
              cases hcall
              refine ⟨e.v, .inl ⟨rfl, e.wr, rfl, rfl, fun st2 ht hbk => hstep st2 _ _ _ ht ?_⟩⟩
              unfold callOp
              rw [hops st2 ht, hargs]
              simp only [hb]
              rw [builtinD_local he hbk]
            · cases hcall
          · rename_i fo hfo
            split at hcall
            · rename_i fv hfv
              have hfv2 : ∀ st2 : St, (∀ t ∈ tmpsOf ops o, st2.A t = st.A t) → opd st2.A fo = some fv := fun st2 ht => by
                rw [opds_agree ht fo (by rw [hc]; simp [Op.operands, Call.operands, hfo]), hfv]
              rcases hcv _ _ _ _ _ _ hcall with ⟨q1, q2, q3⟩ | ⟨q1, wr, q2, q3, q4⟩
              · refine ⟨v, .inr ⟨q1, q2, q3, h', rfl, fun st2 ht hh => hstep st2 _ _ _ ht ?_⟩⟩
                unfold callOp
                rw [hops st2 ht, hargs]
                simp only [hfo, hfv2 st2 ht, hh, hcall]
              · subst q3
                refine ⟨v, .inl ⟨q1, wr, q2, rfl, fun st2 ht hbk => hstep st2 _ _ _ ht ?_⟩⟩
                unfold callOp
                rw [hops st2 ht, hargs]
                simp only [hfo, hfv2 st2 ht, q4 st2.h hbk]
            · cases hcall
          · cases hcall
      · cases h
    · rename_i hnc
      split at h
      · rename_i e he
        cases h
        refine ⟨e.v, .inl ⟨rfl, e.wr, rfl, rfl, fun st2 ht hbk => ?_⟩⟩
        have he2 : evalOp E.T (E.pol.mu cur) (base + i) st2.h.blk (opd st2.A) o.op = some e := by
          rw [evalOp_congr (opds_agree ht)]
          exact evalOp_local he hbk
        unfold stepOp
        rw [wantedD_agree ht, hw]
        simp only []
        split
        · rename_i he3; rw [he2] at he3; cases he3; rfl
        · rename_i he3; rw [he2] at he3; cases he3
      · cases h
theorem stepOp_idle {i : Nat} {o : Oper} {st st' : St} {fp : FP} (hh : heapy o = false) (h : stepOp E cv cur ops base i o st = some (st', fp)) : fp.full = false ∧ fp.rd = [] ∧ fp.wr = [] := by
  unfold stepOp at h
  split at h
  · cases h
  · cases h; exact ⟨rfl, rfl, rfl⟩
  · split at h
    · rename_i c hc
      split at h
      · rename_i v h' fp' hcall
        cases h
        unfold callOp at hcall
        split at hcall
        · cases hcall
        · split at hcall
          · rename_i b hb
            split at hcall
            · rename_i e he
              cases hcall
              have hbb : b = .min ∨ b = .max ∨ b = .cap := by
                unfold heapy at hh
                rw [hc] at hh
                simp only [hb] at hh
                cases b <;> simp_all
              obtain ⟨h1, h2⟩ := builtinD_idle hbb he
              exact ⟨rfl, h1, by simp [Eff.fp, h2]⟩
            · cases hcall
          · rename_i fo hfo
            exfalso
            unfold heapy at hh
            rw [hc] at hh
            simp [hfo] at hh
          · cases hcall
      · cases h
    · split at h
      · rename_i e he
        cases h
        obtain ⟨h1, h2⟩ := evalOp_idle hh he
        exact ⟨rfl, h1, by simp [Eff.fp, h2]⟩
      · cases h
def tmpsApart (ops : List Oper) (a b : Oper) : Prop :=
  (∀ d, a.dst = some d → b.dst ≠ some d ∧ d ∉ tmpsOf ops b) ∧ ∀ d, b.dst = some d → d ∉ tmpsOf ops a
theorem put_A_ne {st : St} {dst : Option Tmp} {v : D} {t : Nat} (h : ∀ d, dst = some d → t ≠ d) : (st.put dst v).A t = st.A t := by
  cases dst with
  | none => rfl
  | some d => exact upd_ne _ _ _ _ (h d rfl)
theorem put_swap {A : Nat → D} {h1 h2 : H} {d1 d2 : Option Tmp} {v1 v2 : D} (hh : h1 = h2) (hd : ∀ d, d1 = some d → d2 ≠ some d) :
    St.put ⟨(St.put ⟨A, h2⟩ d2 v2).A, h1⟩ d1 v1 = St.put ⟨(St.put ⟨A, h1⟩ d1 v1).A, h2⟩ d2 v2 := by
  subst hh
  cases d1 with
  | none => cases d2 <;> rfl
  | some d1 => cases d2 with
    | none => rfl
    | some d2 =>
      have : d2 ≠ d1 := fun e => hd d1 rfl (by rw [e])
      simp only [St.put]
      congr 1
      funext t
      simp only [upd]
      by_cases ht1 : t = d1
      · subst ht1; simp [Ne.symm this]
      · simp [ht1]
theorem put_A_h {A : Nat → D} {h1 h2 : H} {dst : Option Tmp} {v : D} : (St.put ⟨A, h1⟩ dst v).A = (St.put ⟨A, h2⟩ dst v).A := by cases dst <;> rfl
theorem stepOp_swap (hcv : CV cv) {i j : Nat} {oi oj : Oper} {s s1 s2 : St} {fi fj : FP} (h1 : stepOp E cv cur ops base i oi s = some (s1, fi)) (h2 : stepOp E cv cur ops base j oj s1 = some (s2, fj))
    (hf : fi.free fj) (ht : tmpsApart ops oi oj) : ∃ s1', stepOp E cv cur ops base j oj s = some (s1', fj) ∧ stepOp E cv cur ops base i oi s1' = some (s2, fi) := by
  obtain ⟨f1, f2, f3, f4⟩ := hf
  obtain ⟨t1, t2⟩ := ht
  have hd : ∀ d, oi.dst = some d → oj.dst ≠ some d := fun d hd => (t1 d hd).1
  have tj : ∀ (h' : H) (v : D), ∀ t ∈ tmpsOf ops oj, s.A t = (St.put ⟨s.A, h'⟩ oi.dst v).A t := fun h' v t htm =>
    (put_A_ne (st := ⟨s.A, h'⟩) fun d hd e => (t1 d hd).2 (e ▸ htm)).symm
  have ti : ∀ (h' : H) (v : D), ∀ t ∈ tmpsOf ops oi, (St.put ⟨s.A, h'⟩ oj.dst v).A t = s.A t := fun h' v t htm =>
    put_A_ne (st := ⟨s.A, h'⟩) fun d hd e => t2 d hd (e ▸ htm)
  obtain ⟨vi, hi⟩ := stepOp_local hcv h1
  obtain ⟨vj, hj⟩ := stepOp_local hcv h2
  rcases hi with ⟨i1, wi, i2, i3, i4⟩ | ⟨i1, i2, i2', hi', i3, i4⟩
  · subst i3
    rcases hj with ⟨j1, wj, j2, j3, j4⟩ | ⟨j1, j2, j2', hj', j3, j4⟩
    · subst j3
      refine ⟨_, j4 s (tj _ _) fun b hb => ?_, ?_⟩
      · simp only [St.put_h]
        rw [upds_not b wi _ (fun hbi => f3 b (by rw [i2]; exact hbi) b (List.mem_append.2 hb) rfl)]
      · rw [i4 _ (ti _ _) fun b hb => ?_]
        · congr 2
          simp only [St.put_h]
          have hsw : upds (upds s.h.blk wj) wi = upds (upds s.h.blk wi) wj := upds_swap _ fun x hx y hy e => f3 y (by rw [i2]; exact hy) x (List.mem_append_right _ (by rw [j2]; exact hx)) e.symm
          rw [hsw]
          have := put_swap (A := s.A) (h1 := ⟨s.h.next, upds (upds s.h.blk wi) wj⟩) (h2 := ⟨s.h.next, upds (upds s.h.blk wi) wj⟩) (d1 := oi.dst) (d2 := oj.dst) (v1 := vi) (v2 := vj) rfl hd
          rw [put_A_h (h1 := (⟨s.h.next, upds s.h.blk wj⟩ : H)) (h2 := ⟨s.h.next, upds (upds s.h.blk wi) wj⟩), this]
          rw [put_A_h (h1 := (⟨s.h.next, upds s.h.blk wi⟩ : H)) (h2 := ⟨s.h.next, upds (upds s.h.blk wi) wj⟩)]
        · simp only [St.put_h]
          refine upds_not b wj _ fun hbj => ?_
          rcases hb with hb | hb
          · exact f4 b hb b (by rw [j2]; exact hbj) rfl
          · exact f3 b hb b (by rw [j2]; exact List.mem_append_right _ hbj) rfl
    · have hidle := f2 j1
      simp only [FP.idle, Bool.and_eq_true, List.isEmpty_iff, Bool.not_eq_true'] at hidle
      have hwi : wi = [] := by have := i2.symm.trans hidle.1.2; simpa using this
      subst hwi
      subst j3
      refine ⟨_, j4 s (tj _ _) (by simp [upds]), ?_⟩
      rw [i4 _ (ti _ _) fun b hb => ?_]
      · congr 2
        simp only [St.put_h, upds]
        have := put_swap (A := s.A) (h1 := hj') (h2 := hj') (d1 := oi.dst) (d2 := oj.dst) (v1 := vi) (v2 := vj) rfl hd
        rw [this, put_A_h (h1 := (⟨s.h.next, s.h.blk⟩ : H)) (h2 := hj')]
      · rw [hidle.1.1, hidle.1.2] at hb; simp at hb
  · have hidle := f1 i1
    simp only [FP.idle, Bool.and_eq_true, List.isEmpty_iff, Bool.not_eq_true'] at hidle
    subst i3
    rcases hj with ⟨j1, wj, j2, j3, j4⟩ | ⟨j1, j2, j2', hj', j3, j4⟩
    · have hwj : wj = [] := by have := j2.symm.trans hidle.1.2; simpa using this
      subst hwj
      subst j3
      refine ⟨_, j4 s (tj _ _) fun b hb => ?_, ?_⟩
      · rw [hidle.1.1, hidle.1.2] at hb; simp at hb
      · rw [i4 _ (ti _ _) (by simp [upds])]
        congr 2
        simp only [St.put_h, upds]
        have := put_swap (A := s.A) (h1 := hi') (h2 := hi') (d1 := oi.dst) (d2 := oj.dst) (v1 := vi) (v2 := vj) rfl hd
        rw [put_A_h (h1 := (⟨s.h.next, s.h.blk⟩ : H)) (h2 := hi'), this]
    · rw [hidle.2] at j1; cases j1
inductive Runs (E : Env) (cv : CallV) (cur : FuncId) (ops : List Oper) (base : Nat) (fp : Nat → FP) : List Nat → St → St → Prop
  | nil (s : St) : Runs E cv cur ops base fp [] s s
  | cons {i : Nat} {o : Oper} {l : List Nat} {s s1 s2 : St} (hi : ops[i]? = some o) (h : stepOp E cv cur ops base i o s = some (s1, fp i)) (r : Runs E cv cur ops base fp l s1 s2) : Runs E cv cur ops base fp (i :: l) s s2
def Comm (ops : List Oper) (fp : Nat → FP) (i j : Nat) : Prop := (fp i).free (fp j) ∧ ∀ oi oj, ops[i]? = some oi → ops[j]? = some oj → tmpsApart ops oi oj
theorem Runs.bubble (hcv : CV cv) {fp : Nat → FP} {i : Nat} {L2 : List Nat} : ∀ {L1 : List Nat} {s sF : St}, Runs E cv cur ops base fp (L1 ++ i :: L2) s sF → (∀ j ∈ L1, Comm ops fp j i) →
    Runs E cv cur ops base fp (i :: (L1 ++ L2)) s sF
  | [], _, _, h, _ => h
  | j :: L1, s, sF, h, hc => by
    cases h with
    | cons hj h1 r =>
      have ih := Runs.bubble hcv (L1 := L1) r fun k hk => hc k (List.mem_cons_of_mem _ hk)
      cases ih with
      | cons hi h2 r2 =>
        obtain ⟨c1, c2⟩ := hc j (List.mem_cons_self ..)
        obtain ⟨s1', q1, q2⟩ := stepOp_swap hcv h1 h2 c1 (c2 _ _ hj hi)
        exact .cons hi q1 (.cons hj q2 r2)
end
end Go.Eng
namespace Go.Eng
open Go
theorem mem_edges {acc : List (List Nat)} {x : Nat} : ∀ {es : List Edge} {l : List Nat}, x ∈ es.foldl (fun l e => (e.on :: acc.getD e.on []) ++ l) l → x ∈ l ∨ ∃ e ∈ es, x = e.on ∨ x ∈ acc.getD e.on []
  | [], l, h => .inl h
  | e :: es, l, h => by
    rcases mem_edges (es := es) h with h1 | ⟨e', he, h1⟩
    · rcases List.mem_append.1 h1 with h2 | h2
      · rcases List.mem_cons.1 h2 with h3 | h3
        · exact .inr ⟨e, List.mem_cons_self .., .inl h3⟩
        · exact .inr ⟨e, List.mem_cons_self .., .inr h3⟩
      · exact .inl h2
    · exact .inr ⟨e', List.mem_cons_of_mem _ he, h1⟩
def predStep (acc : List (List Nat)) (o : Oper) : List (List Nat) := acc ++ [(o.after.toList.filter (Region.binds .any)).foldl (fun l e => (e.on :: acc.getD e.on []) ++ l) []]
def PI (ops : List Oper) (acc : List (List Nat)) : Prop :=
  ∀ (j : Nat), ∀ x ∈ acc.getD j [], ∃ o : Oper, ops[j]? = some o ∧ ∃ e ∈ o.after.toList, Region.binds .any e = true ∧ (x = e.on ∨ (e.on < j ∧ x ∈ acc.getD e.on []))
theorem getD_snoc_lt {acc : List (List Nat)} {y : List Nat} {j : Nat} (h : j < acc.length) : (acc ++ [y]).getD j [] = acc.getD j [] := by
  simp [List.getD_eq_getElem?_getD, List.getElem?_append_left h]
theorem getD_out {acc : List (List Nat)} {j : Nat} {x : Nat} (h : x ∈ acc.getD j []) : j < acc.length := by
  rcases Nat.lt_or_ge j acc.length with h' | h'
  · exact h'
  · rw [List.getD_eq_getElem?_getD, List.getElem?_eq_none h'] at h; cases h
theorem preds_inv : ∀ (r pre : List Oper) (acc : List (List Nat)), acc.length = pre.length → PI (pre ++ r) acc → PI (pre ++ r) (r.foldl predStep acc)
  | [], pre, acc, _, h => h
  | o :: r, pre, acc, hl, h => by
    have e : pre ++ o :: r = (pre ++ [o]) ++ r := by simp
    rw [e]
    refine preds_inv r (pre ++ [o]) (predStep acc o) (by simp [predStep, hl]) ?_
    rw [← e]
    intro j x hx
    have hj := getD_out hx
    simp only [predStep, List.length_append, List.length_cons, List.length_nil] at hj
    rcases Nat.lt_or_ge j acc.length with hlt | hge
    · rw [predStep, getD_snoc_lt hlt] at hx
      obtain ⟨o', h1, e', h2, h3, h4⟩ := h j x hx
      refine ⟨o', h1, e', h2, h3, h4.imp id fun h5 => ⟨h5.1, ?_⟩⟩
      rw [predStep, getD_snoc_lt (by omega)]
      exact h5.2
    · have hje : j = acc.length := by omega
      subst hje
      have hx' : x ∈ (o.after.toList.filter (Region.binds .any)).foldl (fun l e => (e.on :: acc.getD e.on []) ++ l) [] := by
        simpa [predStep, List.getD_eq_getElem?_getD] using hx
      rcases mem_edges hx' with h1 | ⟨e', h1, h2⟩
      · cases h1
      · rw [List.mem_filter] at h1
        refine ⟨o, by simp [hl], e', h1.1, h1.2, h2.imp id fun h3 => ?_⟩
        have := getD_out h3
        exact ⟨this, by rw [predStep, getD_snoc_lt this]; exact h3⟩
theorem preds_spec (ops : List Oper) : PI ops (preds ops) := by
  exact preds_inv ops [] [] rfl (fun j x hx => by simp at hx)
theorem preds_listed {ops : Array Oper} {listed : Array Bool}
    (hc : ∀ (j : Nat) (o : Oper), ops[j]? = some o → listed.getD j false = true → ∀ e ∈ o.after, Region.binds .any e = true → listed.getD e.on false = true) :
    ∀ (i : Nat), (∀ o : Oper, ops[i]? = some o → ∀ e ∈ o.after, Region.binds .any e = true → listed.getD e.on false = true) → ∀ x ∈ (preds ops.toList).getD i [], listed.getD x false = true := by
  intro i
  induction i using Nat.strongRecOn with
  | _ i ih =>
    intro hi x hx
    obtain ⟨o, h1, e, h2, h3, h4⟩ := preds_spec ops.toList i x hx
    rw [Array.getElem?_toList] at h1
    have hl := hi o h1 e (by simpa using h2) h3
    rcases h4 with rfl | ⟨h5, h6⟩
    · exact hl
    · exact ih e.on h5 (fun o' ho' => hc e.on o' ho' hl) x h6
section
variable {E : Env} {cv : CallV} {cur : FuncId}
theorem runOps_runs {ops : List Oper} {base : Nat} : ∀ (r : List Oper) (k : Nat) (st st' : St) (fps : List FP) (fp : Nat → FP), runOps E cv cur ops base k r st = some (st', fps) → (∀ i (o : Oper), r[i]? = some o → ops[k + i]? = some o) →
    (∀ i, i < r.length → fp (k + i) = fps.getD i {}) → Runs E cv cur ops base fp (List.range' k r.length) st st'
  | [], k, st, st', fps, fp, h, _, _ => by cases h; exact .nil _
  | o :: r, k, st, st', fps, fp, h, ho, hf => by
    simp only [runOps] at h
    split at h
    · rename_i s1 f1 h1
      split at h
      · rename_i s2 fs h2
        cases h
        have hf0 := hf 0 (by simp)
        simp at hf0
        refine .cons (by simpa using ho 0 o rfl) (by rw [hf0]; exact h1) (runOps_runs r (k + 1) s1 _ fs fp h2 (fun i o' hi => ?_) fun i hi => ?_)
        · have := ho (i + 1) o' (by simpa using hi)
          rw [← this]; congr 1; omega
        · have := hf (i + 1) (by simpa using hi)
          rw [show k + 1 + i = k + (i + 1) by omega, this]; simp
      · cases h
    · cases h
theorem runOps_length {ops : List Oper} {base : Nat} : ∀ (r : List Oper) (k : Nat) (st st' : St) (fps : List FP), runOps E cv cur ops base k r st = some (st', fps) → fps.length = r.length
  | [], k, st, st', fps, h => by cases h; rfl
  | o :: r, k, st, st', fps, h => by
    simp only [runOps] at h
    split at h
    · split at h
      · rename_i h2; cases h; simpa using runOps_length r _ _ _ _ h2
      · cases h
    · cases h
theorem Runs.fp_idle {ops : List Oper} {base : Nat} {fp : Nat → FP} : ∀ {L : List Nat} {s s' : St}, Runs E cv cur ops base fp L s s' → ∀ i ∈ L, ∀ o : Oper, ops[i]? = some o → heapy o = false → (fp i).idle = true
  | _, _, _, .nil _, i, hi, _, _, _ => by cases hi
  | _, _, _, .cons h1 h2 r, i, hi, o, ho, hh => by
    rcases List.mem_cons.1 hi with rfl | hi
    · rw [h1] at ho; cases ho
      obtain ⟨a, b, c⟩ := stepOp_idle hh h2
      simp [FP.idle, a, b, c]
    · exact r.fp_idle i hi o ho hh
theorem free_idle {a b : FP} (h : a.idle = true ∨ b.idle = true) : a.free b := by
  simp only [FP.idle, Bool.and_eq_true, List.isEmpty_iff, Bool.not_eq_true'] at h
  rcases h with ⟨⟨h1, h2⟩, h3⟩ | ⟨⟨h1, h2⟩, h3⟩
  · exact ⟨fun h => (by rw [h3] at h; cases h), fun _ => by simp [FP.idle, h1, h2, h3], by simp [apart, h2], by simp [apart, h1]⟩
  · exact ⟨fun _ => by simp [FP.idle, h1, h2, h3], fun h => (by rw [h3] at h; cases h), by simp [apart, h1, h2], by simp [apart, h2]⟩
theorem comm_of {ops : List Oper} {base : Nat} {fps : List FP} {L : List Nat} {s s' : St} (hr : Runs E cv cur ops base (fun i => fps.getD i {}) L s s') (hd : drawOk ops = true) (hl : looseOk fps (loosePairs ops))
    {i j : Nat} (hi : i ∈ L) (hj : j ∈ L) (hij : i < j) (hjl : j < ops.length) (hp : i ∉ (preds ops).getD j []) : Comm ops (fun i => fps.getD i {}) i j := by
  constructor
  · obtain ⟨oi, hoi⟩ : ∃ o, ops[i]? = some o := ⟨ops[i], List.getElem?_eq_getElem (by omega)⟩
    obtain ⟨oj, hoj⟩ : ∃ o, ops[j]? = some o := ⟨ops[j], List.getElem?_eq_getElem hjl⟩
    cases h1 : heapy oi with
    | false => exact free_idle (.inl (hr.fp_idle i hi oi hoi h1))
    | true =>
      cases h2 : heapy oj with
      | false => exact free_idle (.inr (hr.fp_idle j hj oj hoj h2))
      | true =>
        refine hl (i, j) ?_
        unfold loosePairs
        refine List.mem_flatMap.2 ⟨j, List.mem_range.2 hjl, List.mem_filterMap.2 ⟨i, List.mem_range.2 hij, ?_⟩⟩
        simp only [hoi, hoj, Option.map_some, Option.getD_some, h1, h2, Bool.and_true]
        rw [if_pos (by simpa using hp)]
  · intro oi oj hoi hoj
    unfold drawOk at hd
    have h1 := List.all_eq_true.1 (List.all_eq_true.1 hd j (List.mem_range.2 hjl)) i (List.mem_range.2 hij)
    simp only [hoi, hoj, Bool.or_eq_true, Bool.and_eq_true] at h1
    rcases h1 with h1 | ⟨h1, h2⟩
    · exact absurd (by simpa using h1) hp
    · constructor
      · intro d hd'
        simp only [hd'] at h1
        simp at h1
        exact ⟨h1.1, h1.2⟩
      · intro d hd'
        simp only [hd'] at h2
        simpa using h2
end
structure RInv (N : Nat) (S0 : Sim) (h0 : H) (w0 : World) (z len : Nat) (L : List Nat) (S : Sim) (st : St) (w : World) (a : Act) : Prop where
  run : Run h0.next S0 h0 w0 S st.h w
  hr : HR S st.h w
  fr : FR N S st.A a
  mks : MK S st.h w z a.defers
  sz : h0.next + len ≤ st.h.next
  free : ∀ j ∈ L, j < len ∧ S.φ (h0.next + j) = none ∧ S.tk (h0.next + j) = none
theorem RInv.step {N : Nat} {S0 S : Sim} {h0 : H} {w0 w w' : World} {z len i : Nat} {L L' : List Nat} {st st' : St} {a a' : Act} (v : RInv N S0 h0 w0 z len L S st w a)
    (p : OpPost N S st.h w (h0.next + i) a st' a' w') (hL : ∀ j ∈ L', j ∈ L ∧ j ≠ i) : ∃ S', RInv N S0 h0 w0 z len L' S' st' w' a' := by
  obtain ⟨S', h1, h2, h3, h4, h5, h6⟩ := p
  refine ⟨S', ⟨v.run.trans ⟨h1, h2, fun b hb => h3 b (by omega) (by have := v.sz; omega)⟩, h4, h5, by rw [h6]; exact v.mks.ext h1, by have := v.sz; omega, fun j hj => ?_⟩⟩
  obtain ⟨h7, h8⟩ := hL j hj
  obtain ⟨h9, h10, h11⟩ := v.free j h7
  have := h3 (h0.next + j) (by omega) (by have := v.sz; omega)
  exact ⟨h9, by rw [this.1]; exact h10, by rw [this.2]; exact h11⟩
section
variable {P : Program} {F : Fence} {E : Env} {cv : CallV} {cur : FuncId} {N : Nat} {Q : Exit → Act → World → Prop} {m : Nat}
theorem region_text (hF : Wide F) (hT : TOK P E.T) (hcv : CallOK P F cv) {ops : Array Oper} {S0 : Sim} {h0 : H} {w0 : World} {z : Nat} {fp : Nat → FP} {sF : St}
    (h1 : ∀ o ∈ ops.toList, dstOk N o = true ∧ opOk o.op = true) (hQ : ∀ S' a' w', RInv N S0 h0 w0 z ops.size [] S' sF w' a' → Q .normal a' w') :
    ∀ (L : List Nat) (S : Sim) (st : St) (w : World) (a : Act), L.Nodup → Runs E cv cur ops.toList h0.next fp L st sF → RInv N S0 h0 w0 z ops.size L S st w a → wpOpsIn F m P ops Q L a w := by
  intro L
  induction L with
  | nil =>
    intro S st w a _ hr v
    cases hr
    exact hQ S a w v
  | cons i L ih =>
    intro S st w a hn hr v
    rw [List.nodup_cons] at hn
    cases hr with
    | cons hi hs r =>
      rename_i o s1
      obtain ⟨f1, f2, f3⟩ := v.free i (List.mem_cons_self ..)
      obtain ⟨q1, q2⟩ := h1 o (List.mem_of_getElem? hi)
      rw [wpOpsIn_cons]
      refine op_step hF hT hcv hs (by simpa using hi) q2 q1 v.hr v.fr f2 f3 (by have := v.sz; omega) fun a' w' hp => ?_
      obtain ⟨S', v'⟩ := v.step (L' := L) hp fun j hj => ⟨List.mem_cons_of_mem _ hj, fun e => hn.1 (e ▸ hj)⟩
      exact ih S' s1 w' a' hn.2 r v'
theorem mem_split_sorted {i : Nat} {L : List Nat} (h : i ∈ L) (hs : L.Pairwise (· < ·)) : ∃ L1 L2, L = L1 ++ i :: L2 ∧ (∀ j ∈ L1, j < i) ∧ ∀ j ∈ L2, i < j := by
  obtain ⟨L1, L2, rfl⟩ := List.append_of_mem h
  rw [List.pairwise_append] at hs
  exact ⟨L1, L2, rfl, fun j hj => hs.2.2 j hj i (List.mem_cons_self ..), fun j hj => (List.pairwise_cons.1 hs.2.1).1 j hj⟩
theorem region_any (hF : Wide F) (hT : TOK P E.T) (hcv : CallOK P F cv) (hloc : CV cv) {ops : Array Oper} {S0 : Sim} {h0 : H} {w0 : World} {z : Nat} {fp : Nat → FP} {sF : St}
    (h1 : ∀ o ∈ ops.toList, dstOk N o = true ∧ opOk o.op = true) (hb : backOk ops.toList = true)
    (hc : ∀ i j, i < j → j < ops.size → i ∉ (preds ops.toList).getD j [] → Comm ops.toList fp i j)
    (hQ : ∀ S' a' w', RInv N S0 h0 w0 z ops.size [] S' sF w' a' → Q .normal a' w') :
    ∀ (n : Nat) (L : List Nat) (listed : Array Bool) (S : Sim) (st : St) (w : World) (a : Act), L.length = n → L.Pairwise (· < ·) → listed.size = ops.size → (∀ i, i ∈ L ↔ listed.getD i true = false) →
      (∀ (j : Nat) (o : Oper), ops[j]? = some o → listed.getD j false = true → ∀ e ∈ o.after, Region.binds .any e = true → listed.getD e.on false = true) →
      Runs E cv cur ops.toList h0.next fp L st sF → RInv N S0 h0 w0 z ops.size L S st w a → wpAnyIn F m P .any ops Q n listed a w := by
  intro n
  induction n with
  | zero =>
    intro L listed S st w a hlen hs hsz hL hcl hr v
    have : L = [] := List.eq_nil_of_length_eq_zero hlen
    subst this
    cases hr
    refine ⟨?_, hQ S a w v⟩
    rw [List.eq_nil_iff_forall_not_mem]
    intro i hi
    have := (hL i).2 (mem_ready.1 hi).1
    cases this
  | succ n ih =>
    intro L listed S st w a hlen hs hsz hL hcl hr v
    have hgetd : ∀ x, listed.getD x false = true → listed.getD x true = true := fun x hx => by
      simp only [Array.getD_eq_getD_getElem?] at *
      cases h : listed[x]? with
      | none => rfl
      | some b => rw [h] at hx; simpa using hx
    have hlt : ∀ i ∈ L, i < ops.size := fun i hi => (v.free i hi).1
    constructor
    · intro hnil
      exfalso
      cases L with
      | nil => cases hlen
      | cons i L =>
        have hi : i ∈ Region.ready .any ops listed := by
          rw [mem_ready]
          have hil := hlt i (List.mem_cons_self ..)
          refine ⟨(hL i).1 (List.mem_cons_self ..), ops[i], Array.getElem?_eq_getElem hil, fun e he hbe => ?_⟩
          unfold backOk at hb
          have h2 := List.all_eq_true.1 hb i (List.mem_range.2 (by simpa using hil))
          rw [Array.getElem?_toList, Array.getElem?_eq_getElem hil] at h2
          have h3 := List.all_eq_true.1 h2 e (by simpa using he)
          simp [hbe] at h3
          have h4 : e.on ∉ i :: L := fun hm => by
            rcases List.mem_cons.1 hm with h5 | h5
            · omega
            · have := (List.pairwise_cons.1 hs).1 e.on h5; omega
          have h5 : ¬ listed.getD e.on true = false := fun hx => h4 ((hL e.on).2 hx)
          have h6 : e.on < listed.size := by omega
          simpa [Array.getD_eq_getD_getElem?, Array.getElem?_eq_getElem h6] using h5
        rw [hnil] at hi
        cases hi
    · intro i hi
      obtain ⟨hun, oi, hoi, hedge⟩ := mem_ready.1 hi
      have hiL : i ∈ L := (hL i).2 hun
      have hpre := preds_listed hcl i fun o ho => by rw [hoi] at ho; cases ho; exact hedge
      obtain ⟨L1, L2, rfl, hl1, hl2⟩ := mem_split_sorted hiL hs
      have hbub := hr.bubble hloc (fun j hj => hc j i (hl1 j hj) (hlt i hiL) fun hjp => by
        have h2 := hgetd j (hpre j hjp)
        have h3 := (hL j).1 (List.mem_append_left _ hj)
        rw [h2] at h3; cases h3)
      cases hbub with
      | cons ho hst r =>
        rename_i o s1
        have hoe : oi = o := by
          have := ho; rw [Array.getElem?_toList, hoi] at this; exact Option.some.inj this
        subst hoe
        obtain ⟨f1, f2, f3⟩ := v.free i hiL
        obtain ⟨q1, q2⟩ := h1 oi (List.mem_of_getElem? ho)
        refine op_step hF hT hcv hst hoi q2 q1 v.hr v.fr f2 f3 (by have := v.sz; omega) fun a' w' hp => ?_
        have hne : ∀ j ∈ L1 ++ L2, j ≠ i := fun j hj e => by
          subst e
          rcases List.mem_append.1 hj with h | h
          · exact Nat.lt_irrefl _ (hl1 j h)
          · exact Nat.lt_irrefl _ (hl2 j h)
        have hsub : ∀ j ∈ L1 ++ L2, j ∈ L1 ++ i :: L2 := fun j hj => by
          rcases List.mem_append.1 hj with h | h
          · exact List.mem_append_left _ h
          · exact List.mem_append_right _ (List.mem_cons_of_mem _ h)
        obtain ⟨S', v'⟩ := v.step (L' := L1 ++ L2) hp fun j hj => ⟨hsub j hj, hne j hj⟩
        have hil : i < listed.size := by rw [hsz]; exact hlt i hiL
        refine ih (L1 ++ L2) _ S' s1 w' a' (by simp at hlen ⊢; omega) ?_ (by simp [hsz]) (fun j => ?_) (fun j o hj hl e he hbe => ?_) r v'
        · refine List.Pairwise.sublist ?_ hs
          exact List.Sublist.append (List.Sublist.refl L1) (List.sublist_cons_self i L2)
        · by_cases hji : j = i
          · subst hji
            constructor
            · intro h; exact absurd rfl (hne j h)
            · intro h; simp [Array.getD_eq_getD_getElem?, hil] at h
          · rw [getD_set_ne true (Ne.symm hji), ← hL j]
            constructor
            · exact hsub j
            · intro h
              rcases List.mem_append.1 h with h | h
              · exact List.mem_append_left _ h
              · rcases List.mem_cons.1 h with h | h
                · exact absurd h hji
                · exact List.mem_append_right _ h
        · by_cases hji : j = i
          · subst hji
            rw [hoi] at hj; cases hj
            exact getD_set_true (hedge e he hbe)
          · rw [getD_set_ne false (Ne.symm hji)] at hl
            exact getD_set_true (hcl j o hj hl e he hbe)
end
end Go.Eng
namespace Go.Eng
open Go
section scope
variable {P : Program} {b : Frame} {a : Act} {k : List Item} {cs : List Frame} {w : World}
theorem stepR_scope {c : Code} : step P (lone (b.atR a (.code (.scope c) :: k)) cs w) = .next (lone (b.atR a (.code c :: .inScope c :: k)) cs w) :=
  step_lone_go (by simp [stepG, stepG.exec, Frame.atR])
theorem stepR_inScope {c : Code} : step P (lone (b.atR a (.inScope c :: k)) cs w) = .next (lone (b.atR a k) cs w) :=
  step_lone_go (by simp [stepG, stepG.exec, Frame.atR])
end scope
def scopePost (c : Code) (Q : Exit → Act → World → Prop) : Exit → Act → World → Prop
  | .goto l, a, w => atEnd c l = true ∧ Q .normal a w
  | e, a, w => Q e a w
theorem atEnd_find {c : Code} {l : Nat} (h : atEnd c l = true) : findLabel c l = some .skip := by
  unfold atEnd at h
  split at h
  · assumption
  · cases h
theorem wpIn_scope {F : Fence} {n : Nat} {P : Program} {Q : Exit → Act → World → Prop} {a : Act} {w : World} {c : Code} (h : c.wpIn F n P (scopePost c Q) a w) : (Code.scope c).wpIn F n P Q a w := by
  intro b k cs hro hb hr
  have h0 : (lone (b.atR a (.code (.scope c) :: k)) cs w).fenced P F := fenced_calm hb hr rfl
  obtain ⟨e, a₁, w₁, hq, harr⟩ := h b (.inScope c :: k) cs hro hb hr
  cases e with
  | normal => exact ⟨.normal, a₁, w₁, hq, .head h0 stepR_scope (StepsIn.trans harr (.one (fenced_calm hb hr rfl) stepR_inScope))⟩
  | exit id =>
    have hx : exitTo id (.inScope c :: k) = exitTo id k := by simp [exitTo]
    exact ⟨.exit id, a₁, w₁, hq, fun k' hk => .head h0 stepR_scope (harr.1 k' (by rw [hx]; exact hk)),
      fun hr' hk => let ⟨k₁, h1, h2⟩ := harr.2 hr' (by rw [hx]; exact hk); ⟨k₁, h1, .head h0 stepR_scope h2⟩⟩
  | goto l =>
    obtain ⟨h1, h2⟩ := hq
    have hg : gotoIn l (.inScope c :: k) = some (.code .skip :: .inScope c :: k) := by simp [gotoIn, atEnd_find h1]
    refine ⟨.normal, a₁, w₁, h2, .head h0 stepR_scope (StepsIn.trans (harr.1 _ hg) (.head (fenced_calm hb hr rfl) stepR_skip (.one (fenced_calm hb hr rfl) stepR_inScope)))⟩
  | ret => exact ⟨_, a₁, w₁, hq, .of_steps (.one h0 stepR_scope) harr⟩
  | panic ch => exact ⟨_, a₁, w₁, hq, .of_steps (.one h0 stepR_scope) harr⟩
  | outgrown => exact ⟨_, a₁, w₁, hq, .of_steps (.one h0 stepR_scope) harr⟩
def X.toExit : X → Exit
  | .normal => .normal
  | .exit id => .exit id
  | .goto l => .goto l
  | .ret => .ret
def Post (N : Nat) (S : Sim) (h : H) (w : World) (z : Nat) (x : X) (s' : St) (e : Exit) (a' : Act) (w' : World) : Prop :=
  e = x.toExit ∧ ∃ S', Run h.next S h w S' s'.h w' ∧ HR S' s'.h w' ∧ FR N S' s'.A a' ∧ MK S' s'.h w' z a'.defers
def Snd (P : Program) (F : Fence) (N : Nat) (c : Code) (s : St) (x : X) (s' : St) : Prop :=
  ∀ m S w a z, HR S s.h w → FR N S s.A a → MK S s.h w z a.defers → z ≤ w.heap.size → c.wpIn F m P (Post N S s.h w z x s') a w
theorem Post.after {N : Nat} {S S1 : Sim} {h h1 : H} {w w1 w' : World} {z : Nat} {x : X} {s' : St} {e : Exit} {a' : Act} (r : Run h.next S h w S1 h1 w1) (p : Post N S1 h1 w1 z x s' e a' w') : Post N S h w z x s' e a' w' := by
  obtain ⟨p1, S', p2, p3, p4, p5⟩ := p
  exact ⟨p1, S', r.trans (p2.less r.nx), p3, p4, p5⟩
section
variable {P : Program} {F : Fence} {E : Env} {cv : CallV} {cur : FuncId} {N : Nat}
theorem Snd.region (hF : Wide F) (hT : TOK P E.T) (hmix : P.follows .mixedOrders = true) (hcv : CallOK P F cv) (hloc : CV cv) {id : Nat} {ops : Array Oper} {draw : Bool} {s s' : St} (h : execRegion E cv cur ops.toList draw s = some s')
    (hc : codeOk N (.region id ops draw) = true) : Snd P F N (.region id ops draw) s .normal s' := by
  intro m S w a z hr hf hm hz
  simp only [codeOk, Bool.and_eq_true, List.all_eq_true, Bool.or_eq_true, Bool.not_eq_true'] at hc
  obtain ⟨⟨c1, c2⟩, c3⟩ := hc
  unfold execRegion at h
  split at h
  case h_2 => cases h
  rename_i st' fps hrun
  have hst : st' = s' ∧ (draw = true → looseOk fps (loosePairs ops.toList)) := by
    split at h
    · split at h
      · rename_i hl; cases h; exact ⟨rfl, fun _ => hl⟩
      · cases h
    · rename_i hd; cases h; exact ⟨rfl, fun hd' => absurd hd' hd⟩
  obtain ⟨rfl, hloose⟩ := hst
  have hlen := runOps_length _ _ _ _ _ hrun
  have hruns := runOps_runs ops.toList 0 _ _ fps (fun i => fps.getD i {}) hrun (fun i o hi => by simpa using hi) (fun i _ => by simp)
  have hrange : List.range' 0 ops.toList.length = List.range ops.size := by simp [List.range_eq_range']
  rw [hrange] at hruns
  have h1 : ∀ o ∈ ops.toList, dstOk N o = true ∧ opOk o.op = true := fun o ho => ⟨c1 o ho, c2 o ho⟩
  have hsize : ops.toList.length = ops.size := by simp
  have hQ : ∀ S' a' w', RInv N S s.h w z ops.size [] S' st' w' a' → Post N S s.h w z .normal st' .normal a' w' := fun S' a' w' v => ⟨rfl, S', v.run, v.hr, v.fr, v.mks⟩
  have hinv : ∀ w1 : World, w1.heap = w.heap → w1.os = w.os ∧ w1.output = w.output → RInv N S s.h w z ops.size (List.range ops.size) S ⟨s.A, ⟨s.h.next + ops.toList.length, s.h.blk⟩⟩ w1 a := fun w1 hw hio => by
    refine ⟨⟨(Ext.bump _).heap hw hio, by simp, fun _ _ => ⟨rfl, rfl⟩⟩, (hr.bump _).heap hw, hf, ?_, by simp, fun j hj => ⟨by simpa using hj, hr.fresh _ (by omega)⟩⟩
    obtain ⟨rs, m1, m2, m3⟩ := hm
    exact ⟨rs, m1, m2, fun r hrr => by rw [hw]; exact m3 r hrr⟩
  cases draw with
  | false => exact wpIn_region (region_text hF hT hcv h1 hQ (List.range ops.size) S _ w a List.nodup_range hruns (hinv w rfl ⟨rfl, rfl⟩))
  | true =>
    have hdb := c3.resolve_left (by simp)
    refine wpIn_region_any hmix ?_
    refine region_any hF hT hcv hloc (fp := fun i => fps.getD i {}) h1 hdb.2 (fun i j hij hj hp => ?_) hQ ops.size (List.range ops.size) _ S _ _ a (by simp) List.pairwise_lt_range (by simp) (fun i => ?_) (fun j o hj hl => ?_) hruns (hinv _ rfl ⟨rfl, rfl⟩)
    · exact comm_of hruns hdb.1 (hloose rfl) (List.mem_range.2 (by omega)) (List.mem_range.2 hj) hij (by rw [hsize]; exact hj) hp
    · simp only [List.mem_range, Array.getD_eq_getD_getElem?, Array.getElem?_replicate]
      split <;> simp_all
    · exfalso
      simp only [Array.getD_eq_getD_getElem?, Array.getElem?_replicate] at hl
      split at hl <;> simp at hl
theorem Snd.stop {c : Code} {s : St} {x : X} (hw : ∀ (m : Nat) (Q : Exit → Act → World → Prop) (a : Act) (w : World), Q x.toExit a w → c.wpIn F m P Q a w) : Snd P F N c s x s :=
  fun m S w a z hr hf hm _ => hw m _ a w ⟨rfl, S, .refl _ S s.h w, hr, hf, hm⟩
theorem Snd.seq {c d : Code} {s s1 s' : St} {x : X} (h1 : Snd P F N c s .normal s1) (h2 : Snd P F N d s1 x s') : Snd P F N (.seq c d) s x s' := by
  intro m S w a z hr hf hm hz
  refine wpIn_seq (wpIn_mono (h1 m S w a z hr hf hm hz) fun e a1 w1 hp => ?_)
  obtain ⟨rfl, S1, r1, r2, r3, r4⟩ := hp
  exact wpIn_mono (h2 m S1 w1 a1 z r2 r3 r4 (Nat.le_trans hz r1.ext.sz)) fun e' a' w' hp' => hp'.after r1
theorem Snd.seqStop {c d : Code} {s s' : St} {x : X} (h1 : Snd P F N c s x s') (hx : x ≠ .normal) : Snd P F N (.seq c d) s x s' := by
  intro m S w a z hr hf hm hz
  refine wpIn_seq (wpIn_mono (h1 m S w a z hr hf hm hz) fun e a1 w1 hp => ?_)
  have he := hp.1
  subst he
  cases x with
  | normal => exact absurd rfl hx
  | exit id => exact hp
  | goto l => exact hp
  | ret => exact hp
theorem Snd.block {c : Code} {id : Nat} {s s' : St} {x : X} (h1 : Snd P F N c s x s') : Snd P F N (.block id c) s (if x = .exit id then .normal else x) s' := by
  intro m S w a z hr hf hm hz
  refine wpIn_block (wpIn_mono (h1 m S w a z hr hf hm hz) fun e a1 w1 hp => ?_)
  have he := hp.1
  have hp2 := hp.2
  subst he
  cases x with
  | normal => exact ⟨rfl, hp2⟩
  | exit id' =>
    by_cases hid : id' = id
    · subst hid; simpa [Exit.inBlock, X.toExit, Post] using hp2
    · simpa [Exit.inBlock, X.toExit, Post, hid] using hp2
  | goto l => exact ⟨rfl, hp2⟩
  | ret => exact ⟨rfl, hp2⟩
theorem Snd.scope {c : Code} {s s' : St} {x : X} (h1 : Snd P F N c s x s') (hx : ∀ l, x = .goto l → atEnd c l = true) : Snd P F N (.scope c) s (match x with | .goto _ => .normal | x => x) s' := by
  intro m S w a z hr hf hm hz
  refine wpIn_scope (wpIn_mono (h1 m S w a z hr hf hm hz) fun e a1 w1 hp => ?_)
  have he := hp.1
  have hp2 := hp.2
  subst he
  cases x with
  | normal => exact ⟨rfl, hp2⟩
  | exit id' => exact ⟨rfl, hp2⟩
  | goto l => exact ⟨hx l rfl, rfl, hp2⟩
  | ret => exact ⟨rfl, hp2⟩
theorem loop_snd {c : Code} {body : St → Option (X × St)} (hb : ∀ s x s', body s = some (x, s') → Snd P F N c s x s') : ∀ (k : Nat) (s : St) (x : X) (s' : St), loopN body k s = some (x, s') → ∀ m S w a z, HR S s.h w → FR N S s.A a → MK S s.h w z a.defers → z ≤ w.heap.size →
    ∀ (b : Frame) (kk : List Item) (cs : List Frame), b.roundOf = F.round → F.fn b.fn → F.room (cs.length + 1 + m) →
      ∃ e a' w', Post N S s.h w z x s' e a' w' ∧ ArrivesIn (Machine.fenced P F) P (lone (b.atR a (.code c :: .inLoop c :: kk)) cs w) b kk cs e a' w' := by
  intro k
  induction k with
  | zero => intro s x s' h; cases h
  | succ k ih =>
    intro s x s' h m S w a z hr hf hm hz b kk cs hro hfn hroom
    simp only [loopN] at h
    cases hbd : body s with
    | none => rw [hbd] at h; cases h
    | some p =>
      obtain ⟨x1, s1⟩ := p
      obtain ⟨e, a1, w1, hp, harr⟩ := hb s x1 s1 hbd m S w a z hr hf hm hz b (.inLoop c :: kk) cs hro hfn hroom
      have he := hp.1
      subst he
      rw [hbd] at h
      cases x1 with
      | normal =>
        obtain ⟨_, S1, r1, r2, r3, r4⟩ := hp
        obtain ⟨e2, a2, w2, hp2, harr2⟩ := ih s1 x s' h m S1 w1 a1 z r2 r3 r4 (Nat.le_trans hz r1.ext.sz) b kk cs hro hfn hroom
        exact ⟨e2, a2, w2, hp2.after r1, .of_steps (StepsIn.trans harr (.one (fenced_calm hfn hroom rfl) stepR_inLoop)) harr2⟩
      | exit id => cases h; exact ⟨_, a1, w1, hp, .pass (x := .inLoop c) rfl (fun _ _ => .inl (by simp [X.toExit])) harr⟩
      | goto l => cases h; exact ⟨_, a1, w1, hp, .pass (x := .inLoop c) rfl (fun _ _ => .inl (by simp [X.toExit])) harr⟩
      | ret => cases h; exact ⟨_, a1, w1, hp, .pass (x := .inLoop c) rfl (fun _ _ => .inl (by simp [X.toExit])) harr⟩
theorem Snd.loop {c : Code} {body : St → Option (X × St)} (hb : ∀ s x s', body s = some (x, s') → Snd P F N c s x s') {k : Nat} {s : St} {x : X} {s' : St} (h : loopN body k s = some (x, s')) : Snd P F N (.loop c) s x s' := by
  intro m S w a z hr hf hm hz b kk cs hro hfn hroom
  obtain ⟨e, a', w', hp, harr⟩ := loop_snd hb k s x s' h m S w a z hr hf hm hz b kk cs hro hfn hroom
  exact ⟨e, a', w', hp, .of_steps (.one (fenced_calm hfn hroom rfl) stepR_loop) harr⟩
theorem HR.allocIdle {S : Sim} {h : H} {w : World} (r : HR S h w) (o : Obj) (hth : Thaw (some o)) : HR S h (w.alloc o) ∧ Ext S h w S h (w.alloc o) := by
  constructor
  · exact r.turn (fun _ => False) (.refl S) (fun i _ => ⟨rfl, rfl, rfl⟩) (fun i rb _ ho => heap_alloc_old (r.owned_lt ho)) (fun b o v hv => by rw [cell_alloc_old (r.imm_lt hv)]; exact r.imm b o v hv)
      (fun b o v hv => .inl hv) (fun i hi => hi.elim) (fun i rb hi => hi.elim) r.fresh
  · exact ⟨.refl S, by simp, fun rb hlt _ => heap_alloc_old hlt, fun rb h => .inl h, fun b o v hv => .inl hv, .alloc hth⟩
theorem HR.putIdle {S : Sim} {h : H} {w : World} (r : HR S h w) {rb : Nat} {ds : Option (List Deferred)} (hd : w.heap[rb]? = some (.deferred ds)) (hn : ¬ Owned S h rb) (o : Obj) : HR S h (w.putObj rb o) := by
  refine r.turn (fun _ => False) (.refl S) (fun i _ => ⟨rfl, rfl, rfl⟩) (fun i rb' _ ho => World.putObj_heap_other fun e => hn ⟨i, e ▸ ho⟩) (fun b o' v hv => ?_)
      (fun b o v hv => .inl hv) (fun i hi => hi.elim) (fun i rb hi => hi.elim) r.fresh
  have h1 := r.imm b o' v hv
  have hb : b ≠ rb := fun e => by subst e; simp [World.cell?, hd] at h1
  rw [cell_old (World.putObj_heap_other hb)]
  exact h1
end
end Go.Eng
namespace Go.Eng
open Go
theorem CV.callV (E : Env) : ∀ n, CV (callV E n)
  | 0, f, args, h, r, h', fp, hc => by simp [Eng.callV] at hc
  | n + 1, f, args, h, r, h', fp, hc => by
    unfold Eng.callV at hc
    split at hc
    · rename_i g cap
      split at hc
      · rename_i hp
        unfold pureCall at hc
        split at hc
        · cases hc
        rename_i aa_ ks hks
        split at hc
        · cases hc
        rename_i r1 h1 hb
        split at hc
        · cases hc
        rename_i r' ks' hs
        have hgen : ∀ h2 : H, (∀ b ∈ ks, h2.blk b = h.blk b) → ∀ x, (if ks.isEmpty = true then some (r', h2, ({} : FP)) else if r'.flat snapDepth = true then some (r', h2, { rd := ks }) else some (r', ⟨h2.next, upds h2.blk (kills h2.blk ks)⟩, { rd := ks, wr := ks })) = some x →
            Eng.callV E (n + 1) (.fn g cap) args h2 = some x := fun h2 hb2 x hx => by
          unfold Eng.callV
          simp only []
          rw [if_pos hp]
          unfold pureCall
          rw [mapK_snap_local hks hb2]
          simp only [hb, hs]
          exact hx
        right
        split at hc
        · rename_i he
          cases hc
          have hke : ks = [] := by simpa using he
          subst hke
          exact ⟨rfl, [], rfl, rfl, fun h2 _ => hgen h2 (by simp) _ (by simp [upds])⟩
        · rename_i he
          split at hc
          · rename_i hfl
            cases hc
            exact ⟨rfl, [], rfl, rfl, fun h2 hb2 => hgen h2 (fun b hbk => hb2 b (.inl hbk)) _ (by rw [if_neg he, if_pos hfl]; rfl)⟩
          · rename_i hfl
            cases hc
            exact ⟨rfl, kills h.blk ks, by simp [kills, Function.comp_def], rfl, fun h2 hb2 => hgen h2 (fun b hbk => hb2 b (.inl hbk)) _ (by rw [if_neg he, if_neg hfl, kills_congr (blk := h.blk) (blk' := h2.blk) fun b hbk => hb2 b (.inl hbk)])⟩
      · split at hc
        · cases hc; exact .inl ⟨rfl, rfl, rfl⟩
        · cases hc
    · rename_i l
      left
      (repeat' split at hc)
      all_goals first | (cases hc; done) | (cases hc; exact ⟨rfl, rfl, rfl⟩)
    · cases hc
section
variable {P : Program} {F : Fence} {E : Env} {cv : CallV} {cur : FuncId} {N : Nat}
theorem jump_code {m : Nat} {Q : Exit → Act → World → Prop} {a : Act} {w : World} {j : Option Code} {x : X} (hq : Q x.toExit a w) : jumpX j = some x →
    (match j with | none => Q .normal a w | some c => c.wpIn F m P Q a w) := by
  intro h
  cases j with
  | none => simp [jumpX] at h; subst h; exact hq
  | some c =>
    cases c <;> simp [jumpX] at h <;> subst h
    · exact wpIn_exit hq
    · exact wpIn_goto hq
    · exact wpIn_ret hq
theorem MK.mark {S S' : Sim} {h h' : H} {w w' : World} {z : Nat} {ds : List Deferred} (m : MK S h w z ds) (x : Ext S h w S' h' w') (hz : z ≤ w.heap.size) {r : Nat} (hr : r = w.heap.size) (hd : w'.heap[r]? = some (.deferred (some []))) (hn : ¬ Owned S' h' r) :
    MK S' h' w' z ([{ target := .collected r, args := #[] }] ++ ds) := by
  obtain ⟨rs, m1, m2, m3⟩ := m.ext x
  obtain ⟨rs', k1, k2, k3⟩ := m
  have hrr : rs = rs' := by
    have := m1.symm.trans k1
    exact (List.map_inj_right (fun a b hab => by injection hab)).1 this
  subst hrr
  refine ⟨r :: rs, by simp [m1], List.nodup_cons.2 ⟨fun hm => ?_, m2⟩, fun q hq => ?_⟩
  · have := size_of_some (k3 r hm).2.1; omega
  · rcases List.mem_cons.1 hq with rfl | hq
    · exact ⟨by omega, hd, hn⟩
    · exact m3 q hq
theorem Snd.rangeFunc (hF : Wide F) (hro : F.round = none) (hcv : CallOK P F cv) {f : Operand} {ps : Array Tmp} {aa_ bd : Code} {n : Nat} {s : St} {x : X} {s' : St}
    (h : execC E cv cur N n (.rangeFunc f ps aa_ bd) s = some (x, s')) (hc : codeOk N (.rangeFunc f ps aa_ bd) = true) : Snd P F N (.rangeFunc f ps aa_ bd) s x s' := by
  intro m S w a z hr hf hm hz
  simp only [codeOk, Bool.and_eq_true] at hc
  simp only [execC] at h
  split at h
  case h_2 => cases h
  rename_i g cap hfv
  split at h
  case h_2 => cases h
  rename_i rv h2 fp hcall
  split at h
  case h_2 => cases h
  rename_i r hblk
  refine wpIn_rangeFunc fun fn hfn => ?_
  obtain ⟨i1, i2⟩ := hr.allocIdle (.deferred (some [])) (fun _ => rfl)
  have i3 := i1.bump 1
  have hfresh := hr.fresh s.h.next (Nat.le_refl _)
  let rec0 : LoopRec := { cur := cur, A := s.A, N := N, params := ps, assign := aa_, body := bd, st := .ready, pending := none }
  let obj0 : Loop := { state := .ready, pending := none, fn := fn, tmps := a.tmps, params := ps, assign := aa_, body := bd, defers := w.heap.size }
  obtain ⟨n1, n2⟩ := i3.newBody (s := s.h.next) (k := .loop rec0) (o := .loop obj0) hfresh.1 (Nat.lt_succ_self _) rfl (fun _ => rfl) (fun S' hle hφ hI => by
    refine ⟨fun _ _ hk => by simp at hk, fun _ hk => by simp at hk, fun l hk => ?_, fun hk => by simp at hk, fun r' _ hr' o => ?_, fun _ _ hk => by simp at hk⟩
    · simp at hk
      subst hk
      exact ⟨_, _, hφ, heap_alloc_new, ⟨rfl, rfl, rfl, rfl, rfl, hf.size, fun t => (hf.val t).mono hle, by
        refine ⟨by simpa using hc.1.1.1.1, hc.1.1.1.2, hc.1.1.2, hc.1.2, hc.2⟩⟩⟩
    · rw [hφ] at hr'; cases hr'; exact hI o)
  have e1 : Ext S s.h w (S.addφ s.h.next ⟨(w.alloc (.deferred (some []))).heap.size, 0, 0⟩) ⟨s.h.next + 1, upd s.h.blk s.h.next (.loop rec0)⟩ ((w.alloc (.deferred (some []))).alloc (.loop obj0)) := i2.trans ((Ext.bump 1).trans n2)
  have hsz : (w.alloc (.deferred (some []))).heap.size = w.heap.size + 1 := by simp
  have hvy : VR (S.addφ s.h.next ⟨(w.alloc (.deferred (some []))).heap.size, 0, 0⟩) (.yld s.h.next) (.func (.yield (w.heap.size + 1)) #[] #[]) := by
    have := VR.yld (S := S.addφ s.h.next ⟨(w.alloc (.deferred (some []))).heap.size, 0, 0⟩) (l := s.h.next) (r := ⟨(w.alloc (.deferred (some []))).heap.size, 0, 0⟩) (by simp [Sim.addφ])
    simpa [hsz] using this
  have hvf := (opd_sim hf hfv).mono e1.le
  have hres := hcv _ _ _ _ _ _ hcall _ _ (a.eval f) #[.func (.yield (w.heap.size + 1)) #[] #[]] n1 hvf (.cons hvy .nil)
  rcases hres with ⟨g', cap', as', q1, q2, q3⟩ | ⟨b, l, f', tmps, as', bd', q0, _⟩
  case inr => cases q0
  refine ⟨w.heap.size + 1, _, _, { target := .fn (.func g') cap', args := #[.func (.yield (w.heap.size + 1)) #[] #[]] }, _, g', as', _, (by rw [hro]; exact run_enterLoop_outer fn a.tmps ps aa_ bd), ?_, fun f' _ => hF.1 f', q2, fun h => hF.none h, (q3 _).mono fun e w'' he => ?_⟩
  · simp only [resolve, rangeCall, q1, Deferred.ofValue]
    simp [Act.eval]
    rfl
  · obtain ⟨v, S2, rfl, r1, r2, r3⟩ := he
    obtain ⟨rb, rl, l1, l2, l3⟩ := r2.loop _ _ hblk
    have hrb : rb.rb = w.heap.size + 1 := by
      have h1 := r1.ext.le.φ s.h.next ⟨(w.alloc (.deferred (some []))).heap.size, 0, 0⟩ (by simp [Sim.addφ])
      rw [l1] at h1; cases h1; exact hsz
    have hx : jumpX r.pending = some x ∧ s' = ⟨s.A, ⟨h2.next, upd h2.blk s.h.next .dead⟩⟩ ∧ r.st ≠ .busy := by
      split at h
      · cases h
      · rename_i hj hb; cases h; exact ⟨hj, rfl, hb⟩
      · cases h
    obtain ⟨hj, rfl, hbusy⟩ := hx
    obtain ⟨d1, d2⟩ := r2.setBody (k := .dead) (o := .loop { rl with state := .exhausted }) (by rw [hblk]; rfl) l1 (size_of_some l2) (fun _ => rfl) (by rw [l2]; exact fun _ => rfl) (by
      refine ⟨fun _ _ hk => by simp at hk, fun _ hk => by simp at hk, fun l hk => by simp at hk, fun hk => by simp at hk, fun r' hb => by simp [Blk.body] at hb, fun _ _ hk => by simp at hk⟩) (by simp)
    refine ⟨rl.pending, _, (by rw [← hrb]; exact run_endLoop l2 (by rw [l3.st]; exact hbusy)), ?_⟩
    rw [l3.pending] at d1 d2 ⊢
    refine jump_code ?_ hj
    refine ⟨rfl, S2, ⟨?_, ?_, fun b hb => ?_⟩, d1, ?_, ?_⟩
    · exact e1.trans (r1.ext.trans d2)
    · have := r1.nx; simp at this ⊢; omega
    · have := r1.old b (by simp; omega)
      refine ⟨this.1.trans ?_, this.2⟩
      simp [Sim.addφ, upd, show b ≠ s.h.next by omega]
    · exact ⟨hf.size, fun t => (hf.val t).mono (e1.le.trans r1.ext.le)⟩
    · have hn1 : ¬ Owned (S.addφ s.h.next ⟨(w.alloc (.deferred (some []))).heap.size, 0, 0⟩) ⟨s.h.next + 1, upd s.h.blk s.h.next (.loop rec0)⟩ w.heap.size := by
        rintro ⟨i, ho⟩
        by_cases hi : i = s.h.next
        · subst hi
          rcases ho with ⟨_, r', hr', he⟩ | ⟨hk, _⟩
          · simp [Sim.addφ] at hr'; subst hr'; simp at he
          · simp at hk
        · have : Own S s.h i w.heap.size := by simpa [Own, Sim.addφ, upd, hi] using ho
          exact Nat.lt_irrefl _ (hr.owned_lt this)
      have hd0 : ((w.alloc (.deferred (some []))).alloc (.loop obj0)).heap[w.heap.size]? = some (.deferred (some [])) := by
        rw [heap_alloc_old (by simp)]; exact heap_alloc_new
      have := hm.mark e1 hz rfl hd0 hn1
      exact this.ext (r1.ext.trans d2)
theorem exec_sound (hF : Wide F) (hT : TOK P E.T) (hmix : P.follows .mixedOrders = true) (hcv : CallOK P F cv) (hloc : CV cv) (n : Nat) : ∀ (c : Code) (s : St) (x : X) (s' : St),
    execC E cv cur N n c s = some (x, s') → codeOk N c = true → (F.round = none ∨ noRange c = true) → Snd P F N c s x s'
  | .skip, s, x, s', h, _, _ => by simp only [execC] at h; cases h; exact Snd.stop fun m Q a w hq => wpIn_skip hq
  | .label _, s, x, s', h, _, _ => by simp only [execC] at h; cases h; exact Snd.stop fun m Q a w hq => wpIn_label hq
  | .exit _, s, x, s', h, _, _ => by simp only [execC] at h; cases h; exact Snd.stop fun m Q a w hq => wpIn_exit hq
  | .goto _, s, x, s', h, _, _ => by simp only [execC] at h; cases h; exact Snd.stop fun m Q a w hq => wpIn_goto hq
  | .ret, s, x, s', h, _, _ => by simp only [execC] at h; cases h; exact Snd.stop fun m Q a w hq => wpIn_ret hq
  | .refuse _, s, x, s', h, _, _ => by simp only [execC] at h; cases h
  | .region id ops draw, s, x, s', h, hc, _ => by
    simp only [execC] at h
    split at h
    · rename_i s1 h1; cases h; exact Snd.region hF hT hmix hcv hloc h1 hc
    · cases h
  | .seq a b, s, x, s', h, hc, hn => by
    simp only [codeOk, Bool.and_eq_true] at hc
    simp only [execC] at h
    cases h1 : execC E cv cur N n a s with
    | none => rw [h1] at h; cases h
    | some p =>
      obtain ⟨x1, s1⟩ := p
      have ha := exec_sound hF hT hmix hcv hloc n a s x1 s1 h1 hc.1 (hn.imp id fun hn => by simp only [noRange, Bool.and_eq_true] at hn; exact hn.1)
      rw [h1] at h
      cases x1 with
      | normal => exact ha.seq (exec_sound hF hT hmix hcv hloc n b s1 x s' h hc.2 (hn.imp id fun hn => by simp only [noRange, Bool.and_eq_true] at hn; exact hn.2))
      | exit id => cases h; exact ha.seqStop (by simp)
      | goto l => cases h; exact ha.seqStop (by simp)
      | ret => cases h; exact ha.seqStop (by simp)
  | .cond c a b, s, x, s', h, hc, hn => by
    simp only [codeOk, Bool.and_eq_true] at hc
    simp only [execC] at h
    split at h
    · rename_i v hv
      intro m S w ac z hr hf hm hz
      have hcv' : ac.eval c = .bool v := by
        have := opd_sim hf hv
        generalize ac.eval c = u at this
        cases this; rfl
      cases v with
      | true => exact wpIn_cond_true hcv' (exec_sound hF hT hmix hcv hloc n a s x s' (by simpa using h) hc.1 (hn.imp id fun hn => by simp only [noRange, Bool.and_eq_true] at hn; exact hn.1) m S w ac z hr hf hm hz)
      | false => exact wpIn_cond_false hcv' (exec_sound hF hT hmix hcv hloc n b s x s' (by simpa using h) hc.2 (hn.imp id fun hn => by simp only [noRange, Bool.and_eq_true] at hn; exact hn.2) m S w ac z hr hf hm hz)
    · cases h
  | .block bid c, s, x, s', h, hc, hn => by
    simp only [codeOk] at hc
    simp only [execC] at h
    cases h1 : execC E cv cur N n c s with
    | none => rw [h1] at h; cases h
    | some p =>
      obtain ⟨x1, s1⟩ := p
      have hb := (exec_sound hF hT hmix hcv hloc n c s x1 s1 h1 hc (hn.imp id fun hn => by simpa only [noRange] using hn)).block (id := bid)
      rw [h1] at h
      cases x1 with
      | normal => cases h; simpa using hb
      | exit id' =>
        simp only [] at h
        split at h
        · rename_i he; cases h; subst he; simpa using hb
        · rename_i he; cases h; simpa [he] using hb
      | goto l => cases h; simpa using hb
      | ret => cases h; simpa using hb
  | .scope c, s, x, s', h, hc, hn => by
    simp only [codeOk] at hc
    simp only [execC] at h
    cases h1 : execC E cv cur N n c s with
    | none => rw [h1] at h; cases h
    | some p =>
      obtain ⟨x1, s1⟩ := p
      have hb := exec_sound hF hT hmix hcv hloc n c s x1 s1 h1 hc (hn.imp id fun hn => by simpa only [noRange] using hn)
      rw [h1] at h
      cases x1 with
      | normal => cases h; exact hb.scope (by simp)
      | exit id' => cases h; exact hb.scope (by simp)
      | goto l =>
        simp only [] at h
        split at h
        · rename_i he; cases h; exact hb.scope fun l' hl => by cases hl; exact he
        · cases h
      | ret => cases h; exact hb.scope (by simp)
  | .loop c, s, x, s', h, hc, hn => by
    simp only [codeOk] at hc
    simp only [execC] at h
    exact Snd.loop (fun s x s' h' => exec_sound hF hT hmix hcv hloc n c s x s' h' hc (hn.imp id fun hn => by simpa only [noRange] using hn)) h
  | .rangeFunc f ps aa_ bd, s, x, s', h, hc, hn => by
    rcases hn with hn | hn
    · exact Snd.rangeFunc hF hn hcv h hc
    · simp [noRange] at hn
end
end Go.Eng
namespace Go.Eng
open Go
section
variable {P : Program} {F : Fence} {E : Env} {cv : CallV} {cur : FuncId} {N : Nat}
structure EnvOK (P : Program) (E : Env) : Prop where
  tab : TOK P E.T
  mix : P.follows .mixedOrders = true
  fn : ∀ g fn, E.fn g = some fn → P.funcs[g]? = some fn ∧ (fn.name == "runtime.NumGoroutine") = false ∧ ∀ c, fn.body = some c → codeOk fn.ntmps c = true
theorem load_ok {T : Tab} (hT : TOK P T) {S : Sim} {h : H} {w : World} (hr : HR S h w) {t : TypeId} {x : D} {vx : Value} {e : Eff} (hx : VR S x vx) (he : loadD T h.blk t x = some e) :
    ∃ ad v, vx = .pointer (some ad) ∧ (loadVar t ad).run P w = .ok v w ∧ VR S e.v v := by
  unfold loadD at he
  split at he
  · rename_i d
    cases hx with
    | iref hc hs hrd =>
      rename_i b off vs
      cases hp : partD T t d.cells 0 with
      | none => rw [hp] at he; cases he
      | some d' =>
        rw [hp] at he; cases he
        obtain ⟨v, e1, e2⟩ := run_loadVar hT (w := w) (b := b) (base := off) hp hs hc (fun j hj => hr.imm _ _ _ (hrd j hj))
        exact ⟨_, v, rfl, by simpa using e1, e2.mono S.pure_le⟩
  · rename_i b i o
    split at he
    · rename_i esz xs hb
      split at he
      · rename_i el hel
        cases hp : partD T t el.cells o with
        | none => rw [hp] at he; cases he
        | some d' =>
          rw [hp] at he; cases he
          cases hx with
          | ptr _ _ hφ =>
            rename_i r
            obtain ⟨hl, hc, hlie⟩ := hr.row hb
            rcases hlie with ⟨h1, h2⟩ | ⟨r1, vs, h3, h4, h7, h8, _⟩
            · rw [hφ] at h2; cases h2
            · rw [hφ] at h3; cases h3
              subst h4
              have hcell := flat_get hl hel
              have hv : VRs S el.cells ((vs.drop (i * r.esz)).take r.esz) := by rw [hcell]; exact (h7.drop _).take _
              have hcs : ∀ c ∈ el.cells, c.scalar = true := fun c hcc => hc c (List.mem_flatMap.2 ⟨el, List.mem_of_getElem? hel, hcc⟩)
              obtain ⟨v, e1, e2⟩ := run_loadVar hT (w := w) (b := r.rb) (base := i * r.esz) hp hv hcs (fun j hj => by
                have hj1 : j < (vs.drop (i * r.esz)).length := by rw [List.length_take] at hj; omega
                have hj2 : i * r.esz + j < vs.length := by rw [List.length_drop] at hj1; omega
                rw [h8 _ hj2]
                simp)
              exact ⟨_, v, rfl, e1, e2⟩
      · cases he
    · cases he
  · cases he
def resF (tmps : Array Value) : ResultVar → Sem Value
  | .tmp t => pure (tmps.getD t undef)
  | .cell a t => do loadVar t (← asAddr (tmps.getD a undef))
theorem results_list (hT : TOK P E.T) {S : Sim} {s : St} {w : World} {tmps : Array Value} (hr : HR S s.h w) (hf : ∀ t, VR S (s.A t) (tmps.getD t undef)) : ∀ (rs : List ResultVar) (ds : List D), mapO (resultD E s.h s.A) rs = some ds →
    ∃ vs, (rs.mapM (resF tmps)).run P w = .ok vs w ∧ VRs S ds vs
  | [], ds, h => by cases h; exact ⟨[], by simp, .nil⟩
  | r :: rs, ds, h => by
    simp only [mapO] at h
    split at h
    · rename_i d hd
      split at h
      · rename_i ds' hds
        cases h
        obtain ⟨vs, h1, h2⟩ := results_list hT hr hf rs ds' hds
        have : ∃ v, (resF tmps r).run P w = .ok v w ∧ VR S d v := by
          cases r with
          | tmp t => simp only [resultD, Option.some.injEq] at hd; subst hd; exact ⟨_, rfl, hf t⟩
          | cell a t =>
            simp only [resultD] at hd
            obtain ⟨e, he, rfl⟩ := Option.map_eq_some_iff.1 hd
            obtain ⟨ad, v, q1, q2, q3⟩ := load_ok hT hr (hf a) he
            exact ⟨v, by simp [resF, q1, asAddr, q2], q3⟩
        obtain ⟨v, k1, k2⟩ := this
        exact ⟨v :: vs, by simp [List.mapM_cons, k1, h1], .cons k2 h2⟩
      · cases h
    · cases h
theorem results_ok (hT : TOK P E.T) {S : Sim} {s : St} {w : World} {tmps : Array Value} (hr : HR S s.h w) (hf : ∀ t, VR S (s.A t) (tmps.getD t undef)) {fn : Func} {r : D} (h : resultsD E fn.results.toList s = some r) :
    ∃ v, (results fn tmps).run P w = .ok v w ∧ VR S r v := by
  unfold resultsD at h
  have main : ∀ ds, mapO (resultD E s.h s.A) fn.results.toList = some ds → ∃ vs : Array Value, (fn.results.mapM (resF tmps)).run P w = .ok vs w ∧ VRs S ds vs.toList := fun ds hds => by
    obtain ⟨vs, h1, h2⟩ := results_list hT hr hf _ ds hds
    refine ⟨vs.toArray, ?_, by simpa using h2⟩
    rw [← Array.toArray_toList (xs := fn.results)]
    simp only [List.mapM_toArray]
    rw [Sem.run_map] 
    simp [h1]
  have hres : results fn tmps = (do let vs ← fn.results.mapM (resF tmps); pure (if h : vs.size = 1 then vs[0] else .tuple vs)) := rfl
  split at h
  · rename_i d hd
    cases h
    obtain ⟨vs, h1, h2⟩ := main _ hd
    obtain ⟨v, rfl, hv⟩ := vrs_one h2
    exact ⟨v, by rw [hres]; simp [h1], hv⟩
  · rename_i ds hne hd
    cases h
    obtain ⟨vs, h1, h2⟩ := main _ hd
    have hl := h2.length
    have : vs.size ≠ 1 := fun hs => by
      have : ds.length = 1 := by simpa using hl.trans (by simpa using hs)
      obtain ⟨d, rfl⟩ := List.length_eq_one_iff.1 this
      exact hne d rfl
    exact ⟨.tuple vs, by rw [hres]; simp [h1, this], .tup h2⟩
  · cases h
theorem leaves_ok (hT : TOK P E.T) {fn : Func} {tmps : Array Value} {S0 S : Sim} {h0 : H} {w0 : World} {s : St} {r : D} {m : Nat} (hres : resultsD E fn.results.toList s = some r) (hf : ∀ t, VR S (s.A t) (tmps.getD t undef)) :
    ∀ (rs : List Nat) (ds : List Deferred) (w : World), ds.map (·.target) = rs.map Target.collected → rs.Nodup → (∀ r ∈ rs, w0.heap.size ≤ r ∧ w.heap[r]? = some (.deferred (some [])) ∧ ¬ Owned S s.h r) → Run h0.next S0 h0 w0 S s.h w → HR S s.h w →
      LeavesInM F m P fn tmps (Ends S0 h0 w0 r s.h) ds .returning w
  | [], ds, w, hd, _, _, hrun, hr => by
    have : ds = [] := by simpa using hd
    subst this
    obtain ⟨v, h1, h2⟩ := results_ok hT hr hf hres
    exact ⟨v, h1, v, S, rfl, hrun, hr, h2⟩
  | q :: rs, ds, w, hd, hn, hm, hrun, hr => by
    cases ds with
    | nil => simp at hd
    | cons d ds =>
      simp only [List.map_cons, List.cons.injEq] at hd
      obtain ⟨h1, h2, h3⟩ := hm q (List.mem_cons_self ..)
      rw [List.nodup_cons] at hn
      refine ⟨by simp, .inl ⟨q, _, hd.1, run_takeDeferred h2, ?_⟩⟩
      have hr' := hr.putIdle h2 h3 (.deferred none)
      refine leaves_ok hT hres hf rs ds _ hd.2 hn.2 (fun r' hr'' => ?_) ⟨⟨hrun.ext.le, by simpa using hrun.ext.sz, fun rb hlt hno => ?_, hrun.ext.own, hrun.ext.imm, hrun.ext.io.trans (.put rfl ⟨rfl, rfl⟩ (fun _ => rfl) (by rw [h2]; exact fun _ => rfl))⟩, hrun.nx, hrun.old⟩ hr'
      · obtain ⟨k1, k2, k3⟩ := hm r' (List.mem_cons_of_mem _ hr'')
        exact ⟨k1, by rw [World.putObj_heap_other (k := r') (r := q) (fun e => hn.1 (by rw [← e]; exact hr''))]; exact k2, k3⟩
      · rw [World.putObj_heap_other (by omega)]
        exact hrun.ext.same rb hlt hno
theorem argA_fr {S : Sim} {args : List D} {vs : Array Value} (h : VRs S args vs.toList) {N : Nat} (hN : args.length ≤ N) (ds : List Deferred) : FR N S (argA args) { tmps := vs ++ Array.replicate (N - vs.size) undef, defers := ds } := by
  have hl := h.length
  simp at hl
  refine ⟨by simp; omega, fun t => ?_⟩
  simp only [argA, List.getD_eq_getElem?_getD, Array.getD_eq_getD_getElem?]
  by_cases ht : t < args.length
  · obtain ⟨v, h1, h2⟩ := h.get t (List.getElem?_eq_getElem ht)
    rw [Array.getElem?_append_left (by omega), ← Array.getElem?_toList, h1, List.getElem?_eq_getElem ht]
    exact h2
  · rw [List.getElem?_eq_none (by omega), Array.getElem?_append_right (by omega)]
    have : ((Array.replicate (N - vs.size) undef)[t - vs.size]?).getD undef = undef := by
      rw [Array.getElem?_replicate]; split <;> rfl
    rw [this]
    exact .undef
theorem body_sound (hF : Wide F) (hro : F.round = none) (hE : EnvOK P E) (hcv : CallOK P F cv) (hloc : CV cv) {n : Nat} {g : FuncId} {args : List D} {h h' : H} {r : D} (hb : bodyF E cv n g args h = some (r, h')) {S : Sim} {w : World} {vs : Array Value}
    (hr : HR S h w) (ha : VRs S args vs.toList) (m : Nat) : CallsIn F m P g vs w (Ends S h w r h') := by
  unfold bodyF at hb
  split at hb
  · cases hb
  rename_i fn hfn
  obtain ⟨f1, f2, f3⟩ := hE.fn g fn hfn
  split at hb
  · cases hb
  rename_i c hc
  split at hb
  case isFalse => cases hb
  rename_i hlen
  have key : ∀ x s, execC E cv g fn.ntmps n c ⟨argA args, h⟩ = some (x, s) → (x = .normal ∨ x = .ret) → resultsD E fn.results.toList s = some r → s.h = h' → CallsIn F m P g vs w (Ends S h w r h') := by
    intro x s hx hxx hres hh
    subst hh
    refine callsIn_of_wp_marks f1 hc (hF.1 g) ?_ hro
    refine wpIn_mono (exec_sound hF hE.tab hE.mix hcv hloc n c _ x s hx (f3 c hc) (.inl hro) m S w _ w.heap.size hr (argA_fr ha hlen []) .nil (Nat.le_refl _)) fun e a' w' hp => ?_
    obtain ⟨he, S', r1, r2, r3, rs, m1, m2, m3⟩ := hp
    have hleave := leaves_ok (F := F) (m := m) (fn := fn) hE.tab hres (fun t => r3.val t) rs a'.defers w' m1 m2 m3 r1 r2
    subst he
    rcases hxx with rfl | rfl
    · exact hleave
    · exact hleave
  split at hb
  · rename_i s hx
    split at hb
    · rename_i v hv; cases hb; exact key _ s hx (.inl rfl) hv rfl
    · cases hb
  · rename_i s hx
    split at hb
    · rename_i v hv; cases hb; exact key _ s hx (.inr rfl) hv rfl
    · cases hb
  · cases hb
theorem HR.bare {S : Sim} {h : H} {w : World} (r : HR S h w) : HR S.pure H.empty w where
  imm := r.imm
  live _ _ _ hb := by simp at hb
  map _ _ hb := by simp at hb
  loop _ _ hb := by simp at hb
  tok _ hb := by simp at hb
  disI _ _ hb := by simp [Blk.body] at hb
  inj i j rb hi := by rcases hi with ⟨hb, _⟩ | ⟨hb, _⟩ <;> simp [Blk.body] at hb
  fresh b _ := ⟨rfl, rfl⟩
  fix _ _ _ hb := by simp at hb
theorem not_owned_empty {S : Sim} {rb : Nat} : ¬ Owned S H.empty rb := by
  rintro ⟨i, ⟨hb, _⟩ | ⟨hb, _⟩⟩ <;> simp [Blk.body] at hb
theorem HR.moreI {S S1 : Sim} {h : H} {w w1 : World} (r : HR S h w) (hsz : w.heap.size ≤ w1.heap.size) (hsame : ∀ rb, rb < w.heap.size → w1.heap[rb]? = w.heap[rb]?)
    (hI : ∀ b o v, S.I b o = some v → S1.I b o = some v) (hnew : ∀ b o v, S1.I b o = some v → S.I b o = some v ∨ w.heap.size ≤ b) (himm : ∀ b o v, S1.I b o = some v → w1.cell? ⟨b, o, none⟩ = some v) (hio : Calm w w1) :
    HR { S with I := S1.I } h w1 ∧ Ext S h w { S with I := S1.I } h w1 := by
  have le : S.Le { S with I := S1.I } := ⟨fun _ _ h => h, fun _ _ h => h, hI⟩
  constructor
  · refine r.turn (fun _ => False) le (fun i _ => ⟨rfl, rfl, rfl⟩) (fun i rb _ ho => hsame rb (r.owned_lt ho)) himm (fun b o v hv => ?_) (fun i hi => hi.elim) (fun i rb hi => hi.elim) r.fresh
    rcases hnew b o v hv with h1 | h1
    · exact .inl h1
    · exact .inr fun i _ ho => by have := r.owned_lt ho; omega
  · exact ⟨le, hsz, fun rb hlt _ => hsame rb hlt, fun rb h => .inl h, fun b o v hv => (hnew b o v hv).imp id .inr, hio⟩
theorem flat_closed {S S' : Sim} : ∀ (n : Nat) (d : D) (v : Value), d.flat n = true → VR S d v → VR S' d v
  | 0, d, v, h, _ => by simp [D.flat] at h
  | n + 1, d, v, h, hv => by
    have list : ∀ (ds : List D) (vs : List Value), (∀ d ∈ ds, d.flat n = true) → VRs S ds vs → VRs S' ds vs := by
      intro ds
      induction ds with
      | nil => intro vs _ hvs; cases hvs; exact .nil
      | cons d ds ih =>
        intro vs hd hvs
        cases hvs with
        | cons h1 h2 => exact .cons (flat_closed n d _ (hd d (List.mem_cons_self ..)) h1) (ih _ (fun x hx => hd x (List.mem_cons_of_mem _ hx)) h2)
    cases hv <;> simp only [D.flat] at h <;> first | (cases h; done) | skip
    case bool => exact .bool _
    case int => exact .int _ _
    case str => exact .str _
    case agg cs vs h1 h2 => exact .agg h1 (list _ _ (List.all_eq_true.1 h) h2)
    case tup cs vs h2 => exact .tup (list _ _ (List.all_eq_true.1 h) h2)
    case nilp => exact .nilp
    case nilfn => exact .nilfn
    case nilm => exact .nilm
theorem pure_sound (hF : Wide F) (hro : F.round = none) (hE : EnvOK P E) (hcv : CallOK P F cv) (hloc : CV cv) {n : Nat} {g : FuncId} {ka kp : Bool} {args : List D} {h h' : H} {r : D} {fp : FP} (hb : pureCall E (bodyF E cv n g) ka kp args h = some (r, h', fp)) {S : Sim} {w : World} {vs : Array Value}
    (hr : HR S h w) (ha : VRs S args vs.toList) (m : Nat) : CallsIn F m P g vs w (Ends S h w r h') := by
  unfold pureCall at hb
  split at hb
  · cases hb
  rename_i aa_ ks hks
  split at hb
  · cases hb
  rename_i r1 h1 hbody
  split at hb
  · cases hb
  rename_i r' ks' hsn
  obtain ⟨k1, k2⟩ := hr.kill ks
  obtain ⟨b1, _, _, _, b5⟩ := mapK_ok (S := S) (h := h) (w := w) (fun d d' ks e => snap_ok hr snapDepth ka d d' ks e) _ _ _ hks
  have hinc : IncI S h w (S.fz h w ks) ks := ⟨(hr.fz_le ks).I, fun k hk rb ho o x hx => by
    simp only [Sim.fz]
    rw [if_pos ⟨k, hk, own_body (b1 k hk) ho, ho⟩]
    exact hx⟩
  have hargs := b5 _ ha _ hinc.pure
  have hcall := body_sound hF hro hE hcv hloc hbody k1.bare hargs m
  refine hcall.mono fun e w' he => ?_
  obtain ⟨v, S1, rfl, q1, q2, q3⟩ := he
  obtain ⟨_, _, _, _, s5⟩ := snap_ok q2 snapDepth kp _ _ _ hsn
  obtain ⟨t1, t2⟩ := q2.kill ks'
  obtain ⟨u1, _⟩ := snap_ok q2 snapDepth kp _ _ _ hsn
  have hsame : ∀ rb, rb < w.heap.size → w'.heap[rb]? = w.heap[rb]? := fun rb hlt => q1.ext.same rb hlt not_owned_empty
  have hnew1 : ∀ b o v, S1.I b o = some v → (S.fz h w ks).I b o = some v ∨ w.heap.size ≤ b := fun b o v hv => by
    rcases q1.ext.imm b o v hv with h1 | h1 | h1
    · exact .inl h1
    · exact absurd h1 not_owned_empty
    · exact .inr h1
  have hnew2 : ∀ b o v, (S1.fz h1 w' ks').I b o = some v → (S.fz h w ks).I b o = some v ∨ w.heap.size ≤ b := fun b o v hv => by
    rcases t2.imm b o v hv with h1 | h1 | h1
    · exact hnew1 b o v h1
    · rcases q1.ext.own b h1 with h2 | h2
      · exact absurd h2 not_owned_empty
      · exact .inr h2
    · exact .inr (Nat.le_trans q1.ext.sz h1)
  have hI2 : ∀ b o v, (S.fz h w ks).I b o = some v → (S1.fz h1 w' ks').I b o = some v := fun b o v hv => (q2.fz_le ks').I b o v (q1.ext.le.I b o v hv)
  have hval : ∀ S' : Sim, S'.I = (S1.fz h1 w' ks').I → VR S' r' v := fun S' hS' => by
    refine s5 v q3 S' ⟨fun b o x hx => ?_, fun k hk rb ho o x hx => ?_⟩
    · rw [hS']; exact (q2.fz_le ks').I b o x hx
    · rw [hS']
      simp only [Sim.fz]
      rw [if_pos ⟨k, hk, own_body (u1 k hk) ho, ho⟩]
      exact hx
  split at hb
  · rename_i hke
    cases hb
    have hkn : ks = [] := by simpa using hke
    subst hkn
    have hI0 : (S.fz h w []).I = S.I := by
      funext b o
      simp [Sim.fz]
    rw [hI0] at hnew2 hI2
    obtain ⟨z1, z2⟩ := hr.moreI (S1 := S1.fz h1 w' ks') q1.ext.sz hsame hI2 hnew2 t1.imm q1.ext.io
    exact ⟨v, _, rfl, ⟨z2, Nat.le_refl _, fun _ _ => ⟨rfl, rfl⟩⟩, z1, hval _ rfl⟩
  · split at hb
    · rename_i hfl
      cases hb
      refine ⟨v, S, rfl, ⟨⟨.refl S, q1.ext.sz, fun rb hlt _ => hsame rb hlt, fun rb h => .inl h, fun b o v hv => .inl hv, q1.ext.io⟩, Nat.le_refl _, fun _ _ => ⟨rfl, rfl⟩⟩, ?_, flat_closed snapDepth _ v hfl (hval (S1.fz h1 w' ks') rfl)⟩
      exact (hr.moreI (S1 := S) q1.ext.sz hsame (fun _ _ _ h => h) (fun _ _ _ h => .inl h) (fun b o v hv => by rw [cell_old (hsame b (hr.imm_lt hv))]; exact hr.imm b o v hv) q1.ext.io).1
    · cases hb
      obtain ⟨z1, z2⟩ := k1.moreI (S1 := S1.fz h1 w' ks') q1.ext.sz hsame hI2 hnew2 t1.imm q1.ext.io
      exact ⟨v, _, rfl, ⟨k2.trans z2, Nat.le_refl _, fun _ _ => ⟨rfl, rfl⟩⟩, z1, hval _ rfl⟩
end
end Go.Eng
namespace Go.Eng
open Go
section
variable {P : Program} {F : Fence} {E : Env}
theorem bodyF_fn {cv : CallV} {n : Nat} {g : FuncId} {args : List D} {h : H} {x : D × H} (hb : bodyF E cv n g args h = some x) : ∃ fn c, E.fn g = some fn ∧ fn.body = some c := by
  unfold bodyF at hb
  split at hb
  · cases hb
  rename_i fn hfn
  split at hb
  · cases hb
  rename_i c hc
  exact ⟨fn, c, hfn, hc⟩
theorem run_enter (hE : EnvOK P E) {g : FuncId} {fn : Func} {c : Code} (h1 : E.fn g = some fn) (h2 : fn.body = some c) (caps vs : Array Value) (w : World) :
    (invoke (.fn (.func g) caps) vs).run P w = .ok (.enter g (vs ++ caps)) w := by
  obtain ⟨f1, f2, _⟩ := hE.fn g fn h1
  have f2' : ¬ fn.name = "runtime.NumGoroutine" := by simpa using f2
  simp [invoke, callFunc, f1, f2', h2]
theorem CallOK.inRound {cv : CallV} (h : CallOK P F cv) (l : Nat) : CallOK P (F.inRound l) cv := fun fv args h1 r h' fp hc S w vf vs hr hv ha => by
  rcases h fv args h1 r h' fp hc S w vf vs hr hv ha with ⟨g, cap, aa_, q1, q2, q3⟩ | ⟨b, l', f, tmps, aa_, bd, q0, q1, q2, q3⟩
  · exact .inl ⟨g, cap, aa_, q1, q2, fun m => (q3 m).inRound l⟩
  · exact .inr ⟨b, l', f, tmps, aa_, bd, q0, q1, q2, q3⟩
theorem putParams_fr {S : Sim} : ∀ (ps : List (Tmp × D)) (pv : List (Tmp × Value)) (A : Nat → D) (tmps : Array Value) (N : Nat), tmps.size = N → (∀ t, VR S (A t) (tmps.getD t undef)) → ps.map (·.1) = pv.map (·.1) → VRs S (ps.map (·.2)) (pv.map (·.2)) →
    (∀ p ∈ ps, p.1 < N) → (pv.foldl (fun tmps (t, a) => tmps.setIfInBounds t a) tmps).size = N ∧ ∀ t, VR S (putParams A ps t) ((pv.foldl (fun tmps (t, a) => tmps.setIfInBounds t a) tmps).getD t undef)
  | [], pv, A, tmps, N, hs, hv, h1, _, _ => by
    have : pv = [] := by simpa using h1.symm
    subst this
    exact ⟨hs, hv⟩
  | (t, d) :: ps, pv, A, tmps, N, hs, hv, h1, h2, h3 => by
    cases pv with
    | nil => simp at h1
    | cons p pv =>
      obtain ⟨t', v⟩ := p
      simp only [List.map_cons, List.cons.injEq] at h1
      obtain ⟨rfl, h1⟩ := h1
      cases h2 with
      | cons k1 k2 =>
        have f : FR N S A { tmps := tmps, defers := [] } := ⟨hs, hv⟩
        have f' := f.put (h3 (t, d) (List.mem_cons_self ..)) k1
        exact putParams_fr ps pv (upd A t d) (tmps.setIfInBounds t v) N f'.size f'.val h1 k2 fun p hp => h3 p (List.mem_cons_of_mem _ hp)
theorem zip_fst {α β : Type} : ∀ (xs : List α) (ys : List β), xs.length = ys.length → (xs.zip ys).map (·.1) = xs
  | [], _, _ => by simp
  | x :: xs, [], h => by simp at h
  | x :: xs, y :: ys, h => by simp [zip_fst xs ys (by simpa using h)]
theorem zip_snd {α β : Type} : ∀ (xs : List α) (ys : List β), xs.length = ys.length → (xs.zip ys).map (·.2) = ys
  | [], [], _ => by simp
  | [], y :: ys, h => by simp at h
  | x :: xs, [], h => by simp at h
  | x :: xs, y :: ys, h => by simp [zip_snd xs ys (by simpa using h)]
theorem round_sound (hF : Wide F) (hE : EnvOK P E) {cv : CallV} (hcv : CallOK P F cv) (hloc : CV cv) {n l : Nat} {args : List D} {h : H} {r : LoopRec} {s1 s2 : St} {r1 r2 : LoopRec} {x : X} {S : Sim} {w : World} {vs : Array Value} {rb : RB} {rl : Loop}
    (hr : HR S h w) (ha : VRs S args vs.toList) (hφ : S.φ l = some rb) (hblk : h.blk l = .loop r) (hw : w.heap[rb.rb]? = some (.loop rl)) (hl : LR S r rl) (hlen : args.length = r.params.size)
    (e1 : execC E cv r.cur r.N n r.assign ⟨putParams r.A (r.params.toList.zip args), h⟩ = some (.normal, s1)) (hb1 : s1.h.blk l = .loop r1) (hst : r1.st = .ready)
    (e2 : execC E cv r.cur r.N n r.body ⟨s1.A, ⟨s1.h.next, upd s1.h.blk l (.loop { r1 with st := .busy })⟩⟩ = some (x, s2)) (hb2 : s2.h.blk l = .loop r2) (m : Nat) :
    RoundIn F m P rb.rb rl.fn ((rl.params.zip vs).foldl (fun tmps (t, a) => tmps.setIfInBounds t a) rl.tmps) rl.assign rl.body w
      (Ends S h w (.bool (jumpOf x).isNone) ⟨s2.h.next, upd s2.h.blk l (.loop { r2 with st := if (jumpOf x).isNone then .ready else .done, pending := jumpOf x })⟩) := by
  have hvl : vs.size = args.length := by have := ha.length; simpa using this.symm
  have hlr : l < h.next := by
    rcases Nat.lt_or_ge l h.next with h' | h'
    · exact h'
    · have := (hr.fresh l h').1; rw [hφ] at this; cases this
  obtain ⟨o1, o2, o3, o4, o5⟩ := hl.ok
  refine roundIn_of_wpIn (hF.1 _) ?_
  have hfr : FR r.N S (putParams r.A (r.params.toList.zip args)) { tmps := (rl.params.zip vs).foldl (fun tmps (t, a) => tmps.setIfInBounds t a) rl.tmps, defers := [] } := by
    have hz : ((rl.params.zip vs).foldl (fun tmps (t, a) => tmps.setIfInBounds t a) rl.tmps) = ((r.params.toList.zip vs.toList).foldl (fun tmps (t, a) => tmps.setIfInBounds t a) rl.tmps) := by
      rw [← Array.foldl_toList, Array.toList_zip, hl.params]
    rw [hz]
    have := putParams_fr (S := S) (r.params.toList.zip args) (r.params.toList.zip vs.toList) r.A rl.tmps r.N hl.size hl.tmps (by rw [zip_fst _ _ (by simp [hlen]), zip_fst _ _ (by simp [hvl, hlen])])
      (by rw [zip_snd _ _ (by simp [hlen]), zip_snd _ _ (by simp [hvl, hlen])]; exact ha) (fun p hp => by
        have := List.all_eq_true.1 o1 p.1 (List.of_mem_zip hp).1
        simpa using this)
    exact ⟨this.1, this.2⟩
  have s1snd := exec_sound (F := F.inRound rb.rb) (hF.inRound _) hE.tab hE.mix (hcv.inRound _) hloc n r.assign _ _ _ e1 o2 (.inr o4)
  rw [hl.assign, hl.body]
  refine wpIn_mono (s1snd m S w _ w.heap.size hr hfr .nil (Nat.le_refl _)) fun e a1 w1 hp => ?_
  obtain ⟨rfl, S1, p1, p2, p3, p4⟩ := hp
  obtain ⟨rb1, rl1, q1, q2, q3⟩ := p2.loop l r1 hb1
  have hrb1 : rb1 = rb := by have := p1.ext.le.φ l rb hφ; rw [q1] at this; exact Option.some.inj this
  subst hrb1
  refine ⟨_, run_beginRound q2 (by rw [q3.st]; exact hst), ?_⟩
  obtain ⟨d1, d2⟩ := p2.setBody (k := .loop { r1 with st := .busy }) (o := .loop { rl1 with state := .busy }) (by rw [hb1]; rfl) q1 (size_of_some q2) (fun _ => rfl) (by rw [q2]; exact fun _ => rfl) (by
    refine ⟨fun _ _ hk => by simp at hk, fun _ hk => by simp at hk, fun l' hk => ?_, fun hk => by simp at hk, fun r' _ hr' o => ?_, fun _ _ hk => by simp at hk⟩
    · simp at hk; subst hk
      exact ⟨_, _, q1, heap_engObj_same (size_of_some q2), ⟨rfl, q3.pending, q3.params, q3.assign, q3.body, q3.size, q3.tmps, q3.ok⟩⟩
    · rw [q1] at hr'; cases hr'
      exact p2.disI l rb1 (by rw [hb1]; rfl) q1 o) (by simp)
  have s2snd := exec_sound (F := F.inRound rb1.rb) (hF.inRound _) hE.tab hE.mix (hcv.inRound _) hloc n r.body _ _ _ e2 o3 (.inr o5)
  have hsz : w.heap.size ≤ (w1.putObj rb1.rb (.loop { rl1 with state := .busy })).heap.size := by simpa using p1.ext.sz
  refine wpIn_mono (s2snd m S1 _ a1 w.heap.size d1 p3 (p4.ext d2) hsz) fun e a2 w2 hp => ?_
  obtain ⟨rfl, S2, t1, t2, t3, t4⟩ := hp
  obtain ⟨rb2, rl2, u1, u2, u3⟩ := t2.loop l r2 hb2
  have hrb2 : rb2 = rb1 := by have := t1.ext.le.φ l rb1 q1; rw [u1] at this; exact Option.some.inj this
  subst hrb2
  have fin : ∀ j : Option Code, ∃ v w', (Instr.endRound rb2.rb j).run P w2 = .ok v w' ∧ Ends S h w (.bool j.isNone) ⟨s2.h.next, upd s2.h.blk l (.loop { r2 with st := if j.isNone then .ready else .done, pending := j })⟩ (.returned v) w' := fun j => by
    obtain ⟨g1, g2⟩ := t2.setBody (k := .loop { r2 with st := if j.isNone then .ready else .done, pending := j }) (o := .loop { rl2 with state := if j.isNone then .ready else .done, pending := j }) (by rw [hb2]; rfl) u1 (size_of_some u2) (fun _ => rfl) (by rw [u2]; exact fun _ => rfl) (by
      refine ⟨fun _ _ hk => by simp at hk, fun _ hk => by simp at hk, fun l' hk => ?_, fun hk => by simp at hk, fun r' _ hr' o => ?_, fun _ _ hk => by simp at hk⟩
      · simp at hk; subst hk
        exact ⟨_, _, u1, heap_engObj_same (size_of_some u2), ⟨by simp, rfl, u3.params, u3.assign, u3.body, u3.size, u3.tmps, u3.ok⟩⟩
      · rw [u1] at hr'; cases hr'
        exact t2.disI l rb2 (by rw [hb2]; rfl) u1 o) (by simp)
    refine ⟨_, _, run_endRound j u2, .bool j.isNone, S2, rfl, ⟨?_, ?_, fun b hb => ?_⟩, g1, .bool _⟩
    · exact p1.ext.trans (d2.trans (t1.ext.trans g2))
    · have := p1.nx; have := t1.nx; simp at *; omega
    · have h1 := p1.old b hb
      have h2 := t1.old b (by have := p1.nx; simp at *; omega)
      exact ⟨h2.1.trans h1.1, h2.2.trans h1.2⟩
  cases x with
  | normal => exact fin none
  | exit id => exact fin (some (.exit id))
  | goto g => exact fin (some (.goto g))
  | ret => exact fin (some .ret)
theorem callV_ok (hF : Wide F) (hro : F.round = none) (hE : EnvOK P E) : ∀ n, CallOK P F (callV E n)
  | 0, fv, args, h, r, h', fp, hc => by simp [Eng.callV] at hc
  | n + 1, fv, args, h, r, h', fp, hc => by
    intro S w vf vs hr hv ha
    have ih := callV_ok hF hro hE n
    have hloc := CV.callV E n
    unfold Eng.callV at hc
    split at hc
    · rename_i g cap
      cases hv with
      | fn hcap =>
        rename_i caps
        have hall : VRs S (args ++ cap) (vs ++ caps).toList := by simpa using ha.append hcap
        refine .inl ⟨g, caps, vs ++ caps, rfl, ?_⟩
        split at hc
        · have hp := hc
          unfold pureCall at hp
          split at hp
          · cases hp
          split at hp
          · cases hp
          rename_i hbody
          obtain ⟨fn, c, f1, f2⟩ := bodyF_fn hbody
          exact ⟨run_enter hE f1 f2 caps vs w, fun m => pure_sound hF hro hE ih hloc hc hr hall m⟩
        · split at hc
          · rename_i hbody
            cases hc
            obtain ⟨fn, c, f1, f2⟩ := bodyF_fn hbody
            exact ⟨run_enter hE f1 f2 caps vs w, fun m => body_sound hF hro hE ih hloc hbody hr hall m⟩
          · cases hc
    · rename_i l
      cases hv with
      | yld hφ =>
        rename_i rb
        split at hc
        case h_2 => cases hc
        rename_i r0 hblk
        split at hc
        case isFalse => cases hc
        rename_i hlen
        split at hc
        case h_2 => cases hc
        rename_i s1 e1
        split at hc
        case h_2 => cases hc
        rename_i r1 hb1
        split at hc
        case isFalse => cases hc
        rename_i hst
        split at hc
        case h_2 => cases hc
        rename_i x s2 e2
        split at hc
        case h_2 => cases hc
        rename_i r2 hb2
        cases hc
        obtain ⟨rb', rl, q1, q2, q3⟩ := hr.loop l r0 hblk
        rw [hφ] at q1; cases q1
        have hvl : vs.size = args.length := by have := ha.length; simpa using this.symm
        refine .inr ⟨l, rb.rb, rl.fn, _, rl.assign, rl.body, rfl, rfl, ?_, fun m => round_sound hF hE ih hloc hr ha hφ hblk q2 q3 hlen e1 hb1 hst e2 hb2 m⟩
        simp only [invoke]
        exact run_yield q2 (by rw [q3.params, hvl, hlen])
    · cases hc
theorem calls_sound (hF : Wide F) (hro : F.round = none) (hE : EnvOK P E) {n : Nat} {g : FuncId} {args : List D} {h h' : H} {r : D} (hb : bodyF E (callV E n) n g args h = some (r, h')) {S : Sim} {w : World} {vs : Array Value}
    (hr : HR S h w) (ha : VRs S args vs.toList) (m : Nat) : CallsIn F m P g vs w (Ends S h w r h') :=
  body_sound hF hro hE (callV_ok hF hro hE n) (CV.callV E n) hb hr ha m
end
end Go.Eng
namespace Go.Eng
open Go
def CLe (cv cv' : CallV) : Prop := ∀ f a h r, cv f a h = some r → cv' f a h = some r
section
variable {E : Env} {cv cv' : CallV} {cur : FuncId} (hle : CLe cv cv')
include hle
theorem callOp_mono {c : Call} {s : Nat} {st : St} {r : D × H × FP} (h : callOp E cv cur c s st = some r) : callOp E cv' cur c s st = some r := by
  unfold callOp at h ⊢
  split at h
  · cases h
  · rename_i args ha
    split at h
    · exact h
    · rename_i f hf
      split at h
      · rename_i fv hfv
        try simp only [hfv]
        exact hle _ _ _ _ h
      · cases h
    · cases h
theorem stepOp_mono {ops : List Oper} {base i : Nat} {o : Oper} {st : St} {r : St × FP} (h : stepOp E cv cur ops base i o st = some r) : stepOp E cv' cur ops base i o st = some r := by
  unfold stepOp at h ⊢
  split at h
  · cases h
  · exact h
  · split at h
    · rename_i c hc
      split at h
      · rename_i v h' fp hcall
        try simp only []
        rw [callOp_mono hle hcall]
        exact h
      · cases h
    · exact h
theorem runOps_mono {ops : List Oper} {base : Nat} : ∀ (l : List Oper) (i : Nat) (st : St) (r : St × List FP), runOps E cv cur ops base i l st = some r → runOps E cv' cur ops base i l st = some r
  | [], _, _, _, h => h
  | o :: l, i, st, r, h => by
    simp only [runOps] at h ⊢
    split at h
    · rename_i st' fp h1
      rw [stepOp_mono hle h1]
      simp only []
      split at h
      · rename_i st'' fps h2
        rw [runOps_mono l _ _ _ h2]
        exact h
      · cases h
    · cases h
theorem execRegion_mono {ops : List Oper} {draw : Bool} {st st' : St} (h : execRegion E cv cur ops draw st = some st') : execRegion E cv' cur ops draw st = some st' := by
  unfold execRegion at h ⊢
  split at h
  · rename_i s fps h1
    rw [runOps_mono hle _ _ _ _ h1]
    exact h
  · cases h
end
theorem loopN_mono {f g : St → Option (X × St)} (hfg : ∀ s r, f s = some r → g s = some r) : ∀ (k k' : Nat) (s : St) (r : X × St), k ≤ k' → loopN f k s = some r → loopN g k' s = some r
  | 0, _, _, _, _, h => by cases h
  | k + 1, 0, _, _, hk, _ => by omega
  | k + 1, k' + 1, s, r, hk, h => by
    simp only [loopN] at h ⊢
    cases hf : f s with
    | none => rw [hf] at h; cases h
    | some p =>
      obtain ⟨x, s1⟩ := p
      rw [hf] at h
      rw [hfg _ _ hf]
      cases x with
      | normal => exact loopN_mono hfg k k' s1 r (by omega) h
      | exit id => exact h
      | goto l => exact h
      | ret => exact h
theorem execC_mono {E : Env} {cv cv' : CallV} {cur : FuncId} (hle : CLe cv cv') {N n n' : Nat} (hn : n ≤ n') : ∀ (c : Code) (s : St) (r : X × St), execC E cv cur N n c s = some r → execC E cv' cur N n' c s = some r
  | .skip, _, _, h => h
  | .label _, _, _, h => h
  | .exit _, _, _, h => h
  | .goto _, _, _, h => h
  | .ret, _, _, h => h
  | .refuse _, _, _, h => h
  | .region id ops draw, s, r, h => by
    simp only [execC] at h ⊢
    split at h
    · rename_i s1 h1; rw [execRegion_mono hle h1]; exact h
    · cases h
  | .seq a b, s, r, h => by
    simp only [execC] at h ⊢
    cases h1 : execC E cv cur N n a s with
    | none => rw [h1] at h; cases h
    | some p =>
      obtain ⟨x, s1⟩ := p
      rw [execC_mono hle hn a s _ h1]
      rw [h1] at h
      cases x with
      | normal => exact execC_mono hle hn b s1 r h
      | exit id => exact h
      | goto l => exact h
      | ret => exact h
  | .cond c a b, s, r, h => by
    simp only [execC] at h ⊢
    split at h
    · rename_i v hv
      try simp only [hv]
      split at h
      · rename_i hvv; rw [if_pos hvv]; exact execC_mono hle hn a s r h
      · rename_i hvv; rw [if_neg hvv]; exact execC_mono hle hn b s r h
    · cases h
  | .block id c, s, r, h => by
    simp only [execC] at h ⊢
    cases h1 : execC E cv cur N n c s with
    | none => rw [h1] at h; cases h
    | some p => rw [execC_mono hle hn c s _ h1]; rw [h1] at h; exact h
  | .scope c, s, r, h => by
    simp only [execC] at h ⊢
    cases h1 : execC E cv cur N n c s with
    | none => rw [h1] at h; cases h
    | some p => rw [execC_mono hle hn c s _ h1]; rw [h1] at h; exact h
  | .loop c, s, r, h => by
    simp only [execC] at h ⊢
    exact loopN_mono (fun s r h' => execC_mono hle hn c s r h') n n' s r hn h
  | .rangeFunc f ps aa_ bd, s, r, h => by
    simp only [execC] at h ⊢
    split at h
    · rename_i g cap hf
      try simp only [hf]
      split at h
      · rename_i v h2 fp hc
        rw [hle _ _ _ _ hc]
        exact h
      · cases h
    · cases h
theorem bodyF_mono {E : Env} {cv cv' : CallV} (hle : CLe cv cv') {n n' : Nat} (hn : n ≤ n') {g : FuncId} {args : List D} {h : H} {r : D × H} (hb : bodyF E cv n g args h = some r) : bodyF E cv' n' g args h = some r := by
  unfold bodyF at hb ⊢
  split at hb
  · cases hb
  split at hb
  · cases hb
  rename_i fn hfn _ c hc
  try simp only [hc]
  split at hb
  case isFalse => cases hb
  rename_i hlen
  rw [if_pos hlen]
  cases he : execC E cv g fn.ntmps n c ⟨argA args, h⟩ with
  | none => rw [he] at hb; cases hb
  | some p => rw [execC_mono hle hn c _ _ he]; rw [he] at hb; exact hb
theorem pureCall_mono {E : Env} {b b' : List D → H → Option (D × H)} (hbb : ∀ a h r, b a h = some r → b' a h = some r) {ka kp : Bool} {args : List D} {h : H} {r : D × H × FP} (hp : pureCall E b ka kp args h = some r) : pureCall E b' ka kp args h = some r := by
  unfold pureCall at hp ⊢
  split at hp
  · cases hp
  split at hp
  · cases hp
  rename_i hb
  rw [hbb _ _ _ hb]
  exact hp
theorem callV_mono (E : Env) : ∀ (n n' : Nat), n ≤ n' → CLe (callV E n) (callV E n')
  | 0, _, _, _, _, _, _, h => by simp [callV] at h
  | n + 1, 0, hn, _, _, _, _, _ => by omega
  | n + 1, n' + 1, hn, f, args, h, r, hc => by
    have hle := callV_mono E n n' (by omega)
    have hn' : n ≤ n' := by omega
    unfold callV at hc ⊢
    split at hc
    · rename_i g cap
      try simp only []
      split at hc
      · rename_i hp; rw [if_pos hp]; exact pureCall_mono (fun a h r hb => bodyF_mono hle hn' hb) hc
      · rename_i hp
        rw [if_neg hp]
        split at hc
        · rename_i hb; rw [bodyF_mono hle hn' hb]; exact hc
        · cases hc
    · rename_i l
      try simp only []
      split at hc
      case h_2 => cases hc
      rename_i r0 hblk
      split at hc
      case isFalse => cases hc
      rename_i hlen
      try simp only []
      rw [if_pos hlen]
      split at hc
      case h_2 => cases hc
      rename_i s1 e1
      rw [execC_mono hle hn' _ _ _ e1]
      try simp only []
      split at hc
      case h_2 => cases hc
      rename_i r1 hb1
      try simp only [hb1]
      split at hc
      case isFalse => cases hc
      rename_i hst
      rw [if_pos hst]
      split at hc
      case h_2 => cases hc
      rename_i x s2 e2
      rw [execC_mono hle hn' _ _ _ e2]
      exact hc
    · cases hc
end Go.Eng
namespace Go.Eng
open Go Classical
noncomputable def lim {α : Type} (f : Nat → Option α) : Option α := if h : ∃ n, (f n).isSome = true then f (Classical.choose h) else none
def Mono {α : Type} (f : Nat → Option α) : Prop := ∀ n n' r, n ≤ n' → f n = some r → f n' = some r
theorem lim_some {α : Type} {f : Nat → Option α} (hf : Mono f) {r : α} : lim f = some r ↔ ∃ n, f n = some r := by
  unfold lim
  constructor
  · intro h
    split at h
    · exact ⟨_, h⟩
    · cases h
  · rintro ⟨n, hn⟩
    have hx : ∃ n, (f n).isSome = true := ⟨n, by rw [hn]; rfl⟩
    rw [dif_pos hx]
    have hc := Classical.choose_spec hx
    obtain ⟨q, hq⟩ := Option.isSome_iff_exists.1 hc
    rw [hq]
    rcases Nat.le_total n (Classical.choose hx) with h | h
    · rw [hf _ _ _ h hn] at hq; exact hq.symm
    · rw [hf _ _ _ h hq] at hn; exact hn
noncomputable def callI (E : Env) : CallV := fun f a h => lim fun n => callV E n f a h
noncomputable def execI (E : Env) (cur : FuncId) (N : Nat) (c : Code) (s : St) : Option (X × St) := lim fun n => execC E (callV E n) cur N n c s
noncomputable def bodyI (E : Env) (g : FuncId) (args : List D) (h : H) : Option (D × H) := lim fun n => bodyF E (callV E n) n g args h
theorem mono_call (E : Env) (f : D) (a : List D) (h : H) : Mono fun n => callV E n f a h := fun n n' r hn hc => callV_mono E n n' hn f a h r hc
theorem mono_exec (E : Env) (cur : FuncId) (N : Nat) (c : Code) (s : St) : Mono fun n => execC E (callV E n) cur N n c s := fun n n' r hn hc => execC_mono (callV_mono E n n' hn) hn c s r hc
theorem mono_body (E : Env) (g : FuncId) (args : List D) (h : H) : Mono fun n => bodyF E (callV E n) n g args h := fun n n' _ hn hc => bodyF_mono (callV_mono E n n' hn) hn hc
theorem callI_some {E : Env} {f : D} {a : List D} {h : H} {r : D × H × FP} : callI E f a h = some r ↔ ∃ n, callV E n f a h = some r := lim_some (mono_call E f a h)
theorem execI_some {E : Env} {cur : FuncId} {N : Nat} {c : Code} {s : St} {r : X × St} : execI E cur N c s = some r ↔ ∃ n, execC E (callV E n) cur N n c s = some r := lim_some (mono_exec E cur N c s)
theorem bodyI_some {E : Env} {g : FuncId} {args : List D} {h : H} {r : D × H} : bodyI E g args h = some r ↔ ∃ n, bodyF E (callV E n) n g args h = some r := lim_some (mono_body E g args h)
theorem callV_le_callI (E : Env) (n : Nat) : CLe (callV E n) (callI E) := fun _ _ _ _ h => callI_some.2 ⟨n, h⟩
end Go.Eng
namespace Go.Eng
open Go
section
variable {E : Env} {cur : FuncId}
theorem callOp_lim {c : Call} {s : Nat} {st : St} {r : D × H × FP} (h : callOp E (callI E) cur c s st = some r) : ∃ n, callOp E (callV E n) cur c s st = some r := by
  unfold callOp at h ⊢
  split at h
  · cases h
  · rename_i args ha
    split at h
    · exact ⟨0, h⟩
    · rename_i f hf
      split at h
      · rename_i fv hfv
        try simp only [hfv]
        exact callI_some.1 h
      · cases h
    · cases h
theorem stepOp_lim {ops : List Oper} {base i : Nat} {o : Oper} {st : St} {r : St × FP} (h : stepOp E (callI E) cur ops base i o st = some r) : ∃ n, stepOp E (callV E n) cur ops base i o st = some r := by
  unfold stepOp at h ⊢
  split at h
  · cases h
  · exact ⟨0, h⟩
  · split at h
    · rename_i c hc
      split at h
      · rename_i v h' fp hcall
        obtain ⟨n, hn⟩ := callOp_lim hcall
        exact ⟨n, by simp only [hn]; exact h⟩
      · cases h
    · exact ⟨0, h⟩
theorem runOps_lim {ops : List Oper} {base : Nat} : ∀ (l : List Oper) (i : Nat) (st : St) (r : St × List FP), runOps E (callI E) cur ops base i l st = some r → ∃ n, runOps E (callV E n) cur ops base i l st = some r
  | [], _, _, _, h => ⟨0, h⟩
  | o :: l, i, st, r, h => by
    simp only [runOps] at h
    split at h
    · rename_i st' fp h1
      split at h
      · rename_i st'' fps h2
        obtain ⟨n1, k1⟩ := stepOp_lim h1
        obtain ⟨n2, k2⟩ := runOps_lim l _ _ _ h2
        refine ⟨max n1 n2, ?_⟩
        simp only [runOps]
        rw [stepOp_mono (callV_mono E n1 _ (Nat.le_max_left ..)) k1]
        simp only []
        rw [runOps_mono (callV_mono E n2 _ (Nat.le_max_right ..)) _ _ _ _ k2]
        exact h
      · cases h
    · cases h
theorem execRegion_lim {ops : List Oper} {draw : Bool} {st st' : St} (h : execRegion E (callI E) cur ops draw st = some st') : ∃ n, execRegion E (callV E n) cur ops draw st = some st' := by
  unfold execRegion at h
  split at h
  · rename_i s fps h1
    obtain ⟨n, k⟩ := runOps_lim _ _ _ _ h1
    exact ⟨n, by unfold execRegion; rw [k]; exact h⟩
  · cases h
variable {N : Nat}
theorem execI_region {id : Nat} {ops : Array Oper} {draw : Bool} {s : St} : execI E cur N (.region id ops draw) s = (execRegion E (callI E) cur ops.toList draw s).map fun s' => (.normal, s') := by
  apply Option.ext
  intro r
  change execI E cur N (.region id ops draw) s = some r ↔ _ = some r
  rw [execI_some]
  constructor
  · rintro ⟨n, h⟩
    simp only [execC] at h
    split at h
    · rename_i s1 h1; cases h
      rw [execRegion_mono (callV_le_callI E n) h1]; rfl
    · cases h
  · intro h
    obtain ⟨s1, h1, rfl⟩ := Option.map_eq_some_iff.1 h
    obtain ⟨n, k⟩ := execRegion_lim h1
    exact ⟨n, by simp only [execC]; rw [k]⟩
theorem execI_skip {s : St} : execI E cur N .skip s = some (.normal, s) := execI_some.2 ⟨0, rfl⟩
theorem execI_label {l : Nat} {s : St} : execI E cur N (.label l) s = some (.normal, s) := execI_some.2 ⟨0, rfl⟩
theorem execI_exit {l : Nat} {s : St} : execI E cur N (.exit l) s = some (.exit l, s) := execI_some.2 ⟨0, rfl⟩
theorem execI_goto {l : Nat} {s : St} : execI E cur N (.goto l) s = some (.goto l, s) := execI_some.2 ⟨0, rfl⟩
theorem execI_ret {s : St} : execI E cur N .ret s = some (.ret, s) := execI_some.2 ⟨0, rfl⟩
theorem exec_le {n : Nat} {c : Code} {s : St} {r : X × St} (h : execC E (callV E n) cur N n c s = some r) : execI E cur N c s = some r := execI_some.2 ⟨n, h⟩
theorem execI_seq {a b : Code} {s : St} : execI E cur N (.seq a b) s = match execI E cur N a s with
    | some (.normal, s') => execI E cur N b s'
    | r => r := by
  apply Option.ext
  intro r
  change execI E cur N (.seq a b) s = some r ↔ _ = some r
  constructor
  · intro h
    obtain ⟨n, h⟩ := execI_some.1 h
    simp only [execC] at h
    cases h1 : execC E (callV E n) cur N n a s with
    | none => rw [h1] at h; cases h
    | some p =>
      obtain ⟨x, s1⟩ := p
      rw [h1] at h
      rw [exec_le h1]
      cases x with
      | normal => exact exec_le h
      | exit id => exact h
      | goto l => exact h
      | ret => exact h
  · intro h
    cases h1 : execI E cur N a s with
    | none => rw [h1] at h; cases h
    | some p =>
      obtain ⟨x, s1⟩ := p
      rw [h1] at h
      obtain ⟨n1, k1⟩ := execI_some.1 h1
      cases x with
      | normal =>
        obtain ⟨n2, k2⟩ := execI_some.1 h
        refine execI_some.2 ⟨max n1 n2, ?_⟩
        simp only [execC]
        have j1 : execC E (callV E (max n1 n2)) cur N (max n1 n2) a s = some (.normal, s1) := mono_exec E cur N a s n1 _ _ (Nat.le_max_left ..) k1
        rw [j1]
        exact mono_exec E cur N b s1 n2 _ _ (Nat.le_max_right ..) k2
      | exit id => exact execI_some.2 ⟨n1, by simp only [execC]; rw [k1]; exact h⟩
      | goto l => exact execI_some.2 ⟨n1, by simp only [execC]; rw [k1]; exact h⟩
      | ret => exact execI_some.2 ⟨n1, by simp only [execC]; rw [k1]; exact h⟩
theorem execI_cond {c : Operand} {a b : Code} {s : St} : execI E cur N (.cond c a b) s = match opd s.A c with
    | some (.bool v) => if v then execI E cur N a s else execI E cur N b s
    | _ => none := by
  apply Option.ext
  intro r
  change execI E cur N (.cond c a b) s = some r ↔ _ = some r
  rw [execI_some]
  simp only [execC]
  cases hv : opd s.A c with
  | none => simp
  | some d =>
    cases d with
    | bool v =>
      cases v
      · simpa using (execI_some (E := E) (cur := cur) (N := N) (c := b) (s := s) (r := r)).symm
      · simpa using (execI_some (E := E) (cur := cur) (N := N) (c := a) (s := s) (r := r)).symm
    | _ => simp
theorem execI_block {id : Nat} {c : Code} {s : St} : execI E cur N (.block id c) s = match execI E cur N c s with
    | some (.exit id', s') => if id' = id then some (.normal, s') else some (.exit id', s')
    | r => r := by
  apply Option.ext
  intro r
  change execI E cur N (.block id c) s = some r ↔ _ = some r
  rw [execI_some]
  constructor
  · rintro ⟨n, h⟩
    simp only [execC] at h
    cases h1 : execC E (callV E n) cur N n c s with
    | none => rw [h1] at h; cases h
    | some p => rw [h1] at h; rw [exec_le h1]; exact h
  · intro h
    cases h1 : execI E cur N c s with
    | none => rw [h1] at h; cases h
    | some p =>
      rw [h1] at h
      obtain ⟨n1, k1⟩ := execI_some.1 h1
      exact ⟨n1, by simp only [execC]; rw [k1]; exact h⟩
theorem execI_scope {c : Code} {s : St} : execI E cur N (.scope c) s = match execI E cur N c s with
    | some (.goto l, s') => if atEnd c l then some (.normal, s') else none
    | r => r := by
  apply Option.ext
  intro r
  change execI E cur N (.scope c) s = some r ↔ _ = some r
  rw [execI_some]
  constructor
  · rintro ⟨n, h⟩
    simp only [execC] at h
    cases h1 : execC E (callV E n) cur N n c s with
    | none => rw [h1] at h; cases h
    | some p => rw [h1] at h; rw [exec_le h1]; exact h
  · intro h
    cases h1 : execI E cur N c s with
    | none => rw [h1] at h; cases h
    | some p =>
      rw [h1] at h
      obtain ⟨n1, k1⟩ := execI_some.1 h1
      exact ⟨n1, by simp only [execC]; rw [k1]; exact h⟩
theorem execI_loop {c : Code} {s : St} : execI E cur N (.loop c) s = match execI E cur N c s with
    | some (.normal, s') => execI E cur N (.loop c) s'
    | r => r := by
  apply Option.ext
  intro r
  change execI E cur N (.loop c) s = some r ↔ _ = some r
  constructor
  · intro h
    obtain ⟨n, h⟩ := execI_some.1 h
    simp only [execC] at h
    cases n with
    | zero => cases h
    | succ n =>
      simp only [loopN] at h
      cases h1 : execC E (callV E (n + 1)) cur N (n + 1) c s with
      | none => rw [h1] at h; cases h
      | some p =>
        obtain ⟨x, s1⟩ := p
        rw [h1] at h
        rw [exec_le h1]
        cases x with
        | normal =>
          refine execI_some.2 ⟨n + 1, ?_⟩
          simp only [execC]
          exact loopN_mono (fun _ _ h => h) n (n + 1) s1 r (Nat.le_succ n) h
        | exit id => exact h
        | goto l => exact h
        | ret => exact h
  · intro h
    cases h1 : execI E cur N c s with
    | none => rw [h1] at h; cases h
    | some p =>
      obtain ⟨x, s1⟩ := p
      rw [h1] at h
      obtain ⟨n1, k1⟩ := execI_some.1 h1
      cases x with
      | normal =>
        obtain ⟨n2, k2⟩ := execI_some.1 h
        refine execI_some.2 ⟨max n1 n2 + 1, ?_⟩
        have j1 : execC E (callV E (max n1 n2 + 1)) cur N (max n1 n2 + 1) c s = some (.normal, s1) := mono_exec E cur N c s n1 _ _ (by omega) k1
        simp only [execC, loopN]
        rw [j1]
        simp only [execC] at k2
        exact loopN_mono (fun s r h => execC_mono (callV_mono E n2 (max n1 n2 + 1) (by omega)) (by omega) c s r h) n2 (max n1 n2) s1 r (by omega) k2
      | exit id => exact execI_some.2 ⟨n1 + 1, by simp only [execC, loopN]; rw [execC_mono (callV_mono E n1 (n1 + 1) (Nat.le_succ n1)) (Nat.le_succ n1) c s _ k1]; exact h⟩
      | goto l => exact execI_some.2 ⟨n1 + 1, by simp only [execC, loopN]; rw [execC_mono (callV_mono E n1 (n1 + 1) (Nat.le_succ n1)) (Nat.le_succ n1) c s _ k1]; exact h⟩
      | ret => exact execI_some.2 ⟨n1 + 1, by simp only [execC, loopN]; rw [execC_mono (callV_mono E n1 (n1 + 1) (Nat.le_succ n1)) (Nat.le_succ n1) c s _ k1]; exact h⟩
def rangeC (cv : CallV) (cur : FuncId) (N : Nat) (f : Operand) (ps : Array Tmp) (aa_ bd : Code) (s : St) : Option (X × St) :=
  match opd s.A f with
  | some (.fn g cap) =>
    match cv (.fn g cap) [.yld s.h.next] ⟨s.h.next + 1, upd s.h.blk s.h.next (.loop { cur, A := s.A, N, params := ps, assign := aa_, body := bd, st := .ready, pending := none })⟩ with
    | some (_, h2, _) => match h2.blk s.h.next with
      | .loop r => match r.st, jumpX r.pending with
        | .busy, _ => none
        | _, some x => some (x, ⟨s.A, ⟨h2.next, upd h2.blk s.h.next .dead⟩⟩)
        | _, none => none
      | _ => none
    | none => none
  | _ => none
theorem rangeC_mono {cv cv' : CallV} (hle : CLe cv cv') {f : Operand} {ps : Array Tmp} {aa_ bd : Code} {s : St} {r : X × St} (h : rangeC cv cur N f ps aa_ bd s = some r) : rangeC cv' cur N f ps aa_ bd s = some r := by
  unfold rangeC at h ⊢
  split at h
  · rename_i g cap hf
    try simp only [hf]
    split at h
    · rename_i v h2 fp hc
      rw [hle _ _ _ _ hc]
      exact h
    · cases h
  · cases h
theorem rangeC_lim {f : Operand} {ps : Array Tmp} {aa_ bd : Code} {s : St} {r : X × St} (h : rangeC (callI E) cur N f ps aa_ bd s = some r) : ∃ n, rangeC (callV E n) cur N f ps aa_ bd s = some r := by
  unfold rangeC at h
  split at h
  · rename_i g cap hf
    split at h
    · rename_i v h2 fp hc
      obtain ⟨n, k⟩ := callI_some.1 hc
      refine ⟨n, ?_⟩
      unfold rangeC
      simp only [hf, k]
      exact h
    · cases h
  · cases h
theorem execI_rangeFunc {f : Operand} {ps : Array Tmp} {aa_ bd : Code} {s : St} : execI E cur N (.rangeFunc f ps aa_ bd) s = rangeC (callI E) cur N f ps aa_ bd s := by
  apply Option.ext
  intro r
  change execI E cur N (.rangeFunc f ps aa_ bd) s = some r ↔ _ = some r
  rw [execI_some]
  constructor
  · rintro ⟨n, h⟩
    exact rangeC_mono (callV_le_callI E n) (by simp only [execC] at h; exact h)
  · intro h
    obtain ⟨n, k⟩ := rangeC_lim h
    exact ⟨n, by simp only [execC]; exact k⟩
theorem bodyI_eq {g : FuncId} {args : List D} {h : H} : bodyI E g args h = match E.fn g with
    | none => none
    | some fn => match fn.body with
      | none => none
      | some c => if args.length ≤ fn.ntmps then match execI E g fn.ntmps c ⟨argA args, h⟩ with
          | some (.normal, s) | some (.ret, s) => match resultsD E fn.results.toList s with
            | some v => some (v, s.h)
            | none => none
          | _ => none
        else none := by
  apply Option.ext
  intro r
  change bodyI E g args h = some r ↔ _ = some r
  rw [bodyI_some]
  unfold bodyF
  cases E.fn g with
  | none => simp
  | some fn =>
    cases hb : fn.body with
    | none => simp [hb]
    | some c =>
      simp only [hb]
      split
      · constructor
        · rintro ⟨n, h⟩
          cases he : execC E (callV E n) g fn.ntmps n c ⟨argA args, _⟩ with
          | none => rw [he] at h; cases h
          | some p => rw [he] at h; rw [exec_le he]; exact h
        · intro h
          cases he : execI E g fn.ntmps c ⟨argA args, _⟩ with
          | none => rw [he] at h; cases h
          | some p =>
            obtain ⟨n, k⟩ := execI_some.1 he
            rw [he] at h
            exact ⟨n, by rw [k]; exact h⟩
      · simp
theorem callI_fn {g : FuncId} {cap args : List D} {h : H} : callI E (.fn g cap) args h = if E.pol.pure g = true then pureCall E (bodyI E g) (E.pol.args g) (E.pol.keep g) (args ++ cap) h
    else (bodyI E g (args ++ cap) h).map fun p => (p.1, p.2, { full := true }) := by
  apply Option.ext
  intro r
  change callI E (.fn g cap) args h = some r ↔ _ = some r
  rw [callI_some]
  constructor
  · rintro ⟨n, hc⟩
    cases n with
    | zero => simp [callV] at hc
    | succ n =>
      unfold callV at hc
      simp only [] at hc
      split at hc
      · rename_i hp
        rw [if_pos hp]
        exact pureCall_mono (fun a h r hb => bodyI_some.2 ⟨n, hb⟩) hc
      · rename_i hp
        rw [if_neg hp]
        split at hc
        · rename_i r' h' hb
          cases hc
          rw [bodyI_some.2 ⟨n, hb⟩]; rfl
        · cases hc
  · intro hc
    split at hc
    · rename_i hp
      have hq := hc
      unfold pureCall at hq
      split at hq
      · cases hq
      rename_i aa_ ks hks
      split at hq
      · cases hq
      rename_i r1 h1 hb
      obtain ⟨n, k⟩ := bodyI_some.1 hb
      refine ⟨n + 1, ?_⟩
      unfold callV
      simp only []
      rw [if_pos hp]
      unfold pureCall
      rw [hks]
      simp only [k]
      exact hq
    · rename_i hp
      obtain ⟨p, hb, rfl⟩ := Option.map_eq_some_iff.1 hc
      obtain ⟨n, k⟩ := bodyI_some.1 hb
      refine ⟨n + 1, ?_⟩
      unfold callV
      simp only []
      rw [if_neg hp, k]
end
end Go.Eng
namespace Go.Eng
open Go
def toD : Nat → Value → Option D
  | 0, _ => none
  | n + 1, v => match v with
    | .bool b => some (.bool b)
    | .int k n => some (.int k n)
    | .string s => some (.str s)
    | .pointer none => some .nilp
    | .slice none 0 0 => some (.frz [] .nil)
    | .map none => some .nilm
    | .nilFunc => some .nilfn
    | .agg vs => match mapO (toD n) vs.toList with
      | some cs => if cs.all D.scalar then some (.agg cs) else none
      | none => none
    | _ => none
theorem toD_VR : ∀ (n : Nat) (v : Value) (d : D), toD n v = some d → VR Sim.none d v
  | 0, _, _, h => by simp [toD] at h
  | n + 1, v, d, h => by
    have hall : ∀ (vs : List Value) (cs : List D), mapO (toD n) vs = some cs → VRs Sim.none cs vs := by
      intro vs
      induction vs with
      | nil => intro cs hc; simp [mapO] at hc; subst hc; exact .nil
      | cons v vs ih =>
        intro cs hc
        simp only [mapO] at hc
        split at hc
        · rename_i y hy
          split at hc
          · rename_i ys hys
            cases hc
            exact .cons (toD_VR n v y hy) (ih ys hys)
          · cases hc
        · cases hc
    unfold toD at h
    split at h
    · cases h; exact .bool _
    · cases h; exact .int _ _
    · cases h; exact .str _
    · cases h; exact .nilp
    · cases h
      exact .frz (esz := 0) (by simp) (by simp) .nil (.inl rfl) ⟨rfl, rfl, rfl⟩ (Nat.le_refl _) (fun _ => rfl)
    · cases h; exact .nilm
    · cases h; exact .nilfn
    · split at h
      · rename_i cs hcs
        split at h
        · rename_i hs
          cases h
          exact .agg (by simpa using hs) (hall _ _ hcs)
        · cases h
      · cases h
    · cases h
section
variable (P : Program)
def baseOk (t : TypeId) : Bool :=
  match P.underlying t, P.info? t with
  | some _, some i => (match i.zero with
      | some z => (match toD 9 z with | some d => d.cells.length == i.size && d.okc | none => false)
      | none => false) && !P.eqGuardType P.depth t && !P.stoodInHeld t
  | _, _ => false
def okN : Nat → TypeId → Bool
  | 0, _ => false
  | n + 1, t => baseOk P t && (match P.underlying t with
    | some (.struct fs) => fs.toList.all fun f => okN n f.type
    | _ => true)
def tabOf : Tab where
  ok t := okN P 9 t
  desc t := (P.underlying t).getD default
  size t := ((P.info? t).map (·.size)).getD 0
  bytes t := ((P.info? t).map (·.bytes)).getD 0
  zero t := ((((P.info? t).bind (·.zero)).bind (toD 9))).getD .nilp
theorem okN_succ : ∀ (n : Nat) (t : TypeId), okN P n t = true → okN P (n + 1) t = true
  | 0, _, h => by simp [okN] at h
  | n + 1, t, h => by
    rw [okN] at h ⊢
    simp only [Bool.and_eq_true] at h ⊢
    refine ⟨h.1, ?_⟩
    have h2 := h.2
    split at h2
    · rw [List.all_eq_true] at h2 ⊢
      exact fun f hf => okN_succ n _ (h2 f hf)
    · rfl
theorem okN_base {n : Nat} {t : TypeId} (h : okN P n t = true) : baseOk P t = true := by
  cases n with
  | zero => simp [okN] at h
  | succ n => rw [okN] at h; simp only [Bool.and_eq_true] at h; exact h.1
theorem baseOk_all {t : TypeId} (h : baseOk P t = true) : ∃ d i z v, P.underlying t = some d ∧ P.info? t = some i ∧ i.zero = some z ∧ toD 9 z = some v ∧ v.cells.length = i.size ∧ v.okc = true ∧ P.eqGuardType P.depth t = false ∧ P.stoodInHeld t = false := by
  unfold baseOk at h
  split at h
  · rename_i d i hd hi
    simp only [Bool.and_eq_true, Bool.not_eq_true'] at h
    obtain ⟨⟨h1, h2⟩, h3⟩ := h
    split at h1
    · rename_i z hz
      split at h1
      · rename_i v hv
        simp only [Bool.and_eq_true, beq_iff_eq] at h1
        exact ⟨d, i, z, v, hd, hi, hz, hv, h1.1, h1.2, h2, h3⟩
      · cases h1
    · cases h1
  · cases h
theorem tok_tabOf : TOK P (tabOf P) where
  und t h := by obtain ⟨d, i, z, v, h1, _⟩ := baseOk_all P (okN_base P h); simp [tabOf, h1]
  info t h := by
    obtain ⟨d, i, z, v, h1, h2, h3, h4, h5, h6, h7, h8⟩ := baseOk_all P (okN_base P h)
    refine ⟨i, z, h2, by simp [tabOf, h2], by simp [tabOf, h2], h3, ?_⟩
    have : (tabOf P).zero t = v := by simp [tabOf, h2, h3, h4]
    rw [this]; exact toD_VR _ _ _ h4
  zlen t h := by
    obtain ⟨d, i, z, v, h1, h2, h3, h4, h5, h6, h7, h8⟩ := baseOk_all P (okN_base P h)
    simp [tabOf, h2, h3, h4, h5]
  zokc t h := by
    obtain ⟨d, i, z, v, h1, h2, h3, h4, h5, h6, h7, h8⟩ := baseOk_all P (okN_base P h)
    simp [tabOf, h2, h3, h4, h6]
  guard t h := by obtain ⟨d, i, z, v, h1, h2, h3, h4, h5, h6, h7, h8⟩ := baseOk_all P (okN_base P h); exact h7
  held t h := by obtain ⟨d, i, z, v, h1, h2, h3, h4, h5, h6, h7, h8⟩ := baseOk_all P (okN_base P h); exact h8
  fields t fs h hd f hf := by
    have hb := baseOk_all P (okN_base P h)
    obtain ⟨d, i, z, v, h1, _⟩ := hb
    have hd' : P.underlying t = some (.struct fs) := by simp [tabOf, h1] at hd; rw [h1, hd]
    have h0 : okN P 9 t = true := h
    rw [okN] at h0
    simp only [Bool.and_eq_true, hd'] at h0
    exact okN_succ P 8 _ (List.all_eq_true.1 h0.2 f hf)
def fnOk (fn : Func) : Bool := !(fn.name == "runtime.NumGoroutine") && (match fn.body with | some c => codeOk fn.ntmps c | none => true)
end
end Go.Eng
