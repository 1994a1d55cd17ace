/- Lemmas: EngLink. -/
import Derived.Test.YtcogomacihefoaaEqD
import Derived.RowKit3
set_option linter.unusedVariables false
set_option linter.unusedSimpArgs false
set_option linter.unusedSectionVars false
set_option linter.deprecated false
/- The engine: from an equation of the evaluator to the model's call, as a row's proof wants it. -/
namespace Go.Eng
open Go Go.RowKit

theorem own_empty {S : Sim} {i rb : Nat} : ¬ Own S H.empty i rb := by
  rintro (⟨hb, _⟩ | ⟨hb, _⟩) <;> simp [Blk.body] at hb

/-- Nothing of the heap is known but what never changes. -/
theorem HR.start {S : Sim} {w : World} (hφ : ∀ b, S.φ b = none) (ht : ∀ b, S.tk b = none) (hi : ∀ b o v, S.I b o = some v → w.cell? ⟨b, o, none⟩ = some v) : HR S H.empty w where
  imm := hi
  live b esz xs hb := by simp at hb
  map b es hb := by simp at hb
  loop b l hb := by simp at hb
  tok t hb := by simp at hb
  disI b r hb := by simp [Blk.body] at hb
  inj i j rb h := (own_empty h).elim
  fresh b _ := ⟨hφ b, ht b⟩
  fix b esz xs hb := by simp at hb

theorem grown_of_run {n : Nat} {S S' : Sim} {h' : H} {w w' : World} (r : Run n S H.empty w S' h' w') : Grown w w' := by
  refine ⟨⟨r.ext.io.1, r.ext.io.2.1, fun i hi => ?_⟩, r.ext.io.2.2, r.ext.sz⟩
  have e : w'.heap[i]? = w.heap[i]? := r.ext.same i hi not_owned_empty
  rw [e]
  split
  · rename_i c t fr c' t' fr' h1 h2
    rw [h1] at h2; cases h2
    exact ⟨rfl, rfl, rfl, fun _ _ => rfl⟩
  · rename_i es ck es' ck' h1 h2
    rw [h1] at h2; cases h2
    exact .inr ⟨rfl, rfl⟩
  · rfl

theorem walk_bool {P : Program} {E : Env} (hE : EnvOK P E) {n : Nat} {g : FuncId} {args : List D} {h' : H} {b : Bool} (hb : bodyF E (callV E n) n g args H.empty = some (.bool b, h')) {S : Sim} {w : World} {vs : Array Value}
    (hr : HR S H.empty w) (ha : VRs S args vs.toList) : Calls P g vs w fun e w' => e = .returned (.bool b) ∧ Grown w w' := by
  have hF : Wide Fence.wide := ⟨fun _ => trivial, rfl⟩
  have hc := calls_sound hF rfl hE hb hr ha 0
  rw [callsIn_wide] at hc
  intro cs
  obtain ⟨e, w', fr, ⟨v, S', he, hrun, hr', hv⟩, h2, h3, h4⟩ := hc cs
  cases hv
  exact ⟨e, w', fr, ⟨he, grown_of_run hrun⟩, h2, h3, h4⟩

theorem walk_boolI {P : Program} {E : Env} (hE : EnvOK P E) {g : FuncId} {args : List D} {h' : H} {b : Bool} (hb : bodyI E g args H.empty = some (.bool b, h')) {S : Sim} {w : World} {vs : Array Value}
    (hr : HR S H.empty w) (ha : VRs S args vs.toList) : Calls P g vs w fun e w' => e = .returned (.bool b) ∧ Grown w w' := by
  obtain ⟨n, hn⟩ := bodyI_some.1 hb
  exact walk_bool hE hn hr ha

theorem walk_bool0 {P : Program} {E : Env} (hE : EnvOK P E) {g : FuncId} {h' : H} {b : Bool} (hb : bodyI E g [] H.empty = some (.bool b, h')) (w : World) : Calls P g #[] w fun e w' => e = .returned (.bool b) ∧ Grown w w' :=
  walk_boolI hE hb (S := Sim.none) (.start (fun _ => rfl) (fun _ => rfl) (fun _ _ _ h => by cases h)) .nil
end Go.Eng
