/- Part M7 of a proof that runs a program's calls on a small machine whose values bear no addresses: no conditions. -/
import Derived.Test.YtbppacknigeiaaaAmM6
set_option autoImplicit false
set_option linter.unusedSimpArgs false
set_option linter.unusedVariables false
set_option linter.unusedSectionVars false
namespace Go.Am
open Go Go.Proofs
set_option maxRecDepth 1000000
/-- modes under which the chapter's example runs -/
def mdN : Nat → Md := fun f => match f with
  | 33 => .ora F28 | 34 => .ora F35 | 35 => .ora F31
  | 19 | 52 | 48 | 46 | 13 | 27 | 28 | 29 | 30 | 31 | 38 | 16 | 51 | 45 => .ice
  | 11 | 39 | 40 | 79 | 80 | 88 => .keep
  | _ => .cut
theorem oraN : ∀ f F, oraOf (mdN f) = some F → OraS Try.prog f F := by
  intro f F h
  unfold mdN at h
  split at h <;> cases h
  · exact ora28
  · exact ora35
  · exact ora31
theorem works_run : (callA (XX mdN) 100000 (.func 10 []) [] St.empty).map (·.1) = some (.d (.bool true)) := by kernel_rfl
def F10 : List A → Option A
  | [] => some (.d (.bool true))
  | _ => none
theorem ora10 : OraS Try.prog 10 F10 := by
  refine oraS_of (fz := mdN) oraN mixedT fun args r h => ?_
  unfold F10 at h
  split at h
  · cases h
    refine ⟨rfl, ?_⟩
    have := works_run
    cases hc : callA (XX mdN) 100000 (.func 10 []) [] St.empty with
    | none => rw [hc] at this; cases this
    | some q =>
      obtain ⟨a, σ', T⟩ := q
      rw [hc] at this; cases this
      exact ⟨σ', T, 100000, hc⟩
  · cases h
end Go.Am
namespace Go.Am
open Go Go.Proofs
/-- modes of the laws of layer 22 -/
def mdS : Nat → Md := fun f => match f with
  | 10 => .ora F10 | 34 => .ora F35
  | 11 | 13 | 16 | 19 | 45 | 46 | 48 | 51 | 52 => .ice
  | 39 | 40 | 79 | 80 | 88 => .keep
  | _ => .cut
theorem oraMS : ∀ f F, oraOf (mdS f) = some F → OraS Try.prog f F := by
  intro f F h
  unfold mdS at h
  split at h <;> cases h
  · exact ora10
  · exact ora35
theorem works_S (σ : St) : CallsTo (XX mdS) (.func 10 []) [] σ (.d (.bool true)) σ [] := CallsTo.ora (F := F10) rfl fn10 rfl rfl rfl
theorem check_S (g : Gr) (σ : St) (h : SmallG g) : CallsTo (XX mdS) (.func 34 []) [g.a] σ (.d (.int .i64 (checkP g))) σ [] := CallsTo.ora (F := F35) rfl fn34 rfl (F35_at h) rfl
theorem deep_S (g : Gr) (σ : St) (hg : SmallG g) (hL : g.rules.length < 1000000000) : CallsTo (XX mdS) (.func 9 []) [g.a] σ (.d (.bool (deepG g))) σ [] := deepG_call rfl rfl g σ hg hL
theorem short_S (g : Gr) (σ : St) (rule : Int) (h : SmallG g) : CallsTo (XX mdS) (.func 19 []) [g.a, .d (.int .i64 rule)] σ (.tup [.d (shortV g rule).1, .d (.int .i64 (shortV g rule).2)]) σ [] :=
  short_call check_S rfl rfl rfl rfl rfl rfl rfl (fun g h => ⟨(GOk.of h).ok, (GOk.of h).tok, (GOk.of h).le⟩) g h rule σ
theorem new_S (g : Gr) (σ : St) (h : SmallG g) : CallsTo (XX mdS) (.func 11 []) [g.a] σ (.tup [.d (newV g).1, .d (.int .i64 (newV g).2)]) σ [] :=
  new_call check_S short_S rfl rfl rfl rfl rfl (fun g h => by
    have k := GOk.of h
    refine ⟨k.ok, k.pos, k.le, fun y hy => ?_⟩
    have := szL_mem hy
    have := k.sz
    rw [szS_eq]; omega) g h σ
end Go.Am
