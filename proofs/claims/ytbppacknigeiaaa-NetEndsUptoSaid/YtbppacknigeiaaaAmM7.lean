/- Part M7 of a proof that runs a program's calls on a small machine whose values bear no addresses: no conditions. -/
import Derived.Test.YtbppacknigeiaaaAmM6
set_option autoImplicit false
set_option linter.unusedSimpArgs false
set_option linter.unusedVariables false
set_option linter.unusedSectionVars false
namespace Go.Am
open Go Go.Proofs
set_option maxRecDepth 1000000
/-- modes under which the chapter's example runs -/
def mdN : Nat → Md := fun f => match f with
  | 33 => .ora F28 | 34 => .ora F35 | 35 => .ora F31
  | 19 | 52 | 48 | 46 | 13 | 27 | 28 | 29 | 30 | 31 | 38 | 16 | 51 | 45 => .ice
  | 11 | 39 | 40 | 79 | 80 | 88 => .keep
  | _ => .cut
theorem oraN : ∀ f F, oraOf (mdN f) = some F → OraS Try.prog f F := by
  intro f F h
  unfold mdN at h
  split at h <;> cases h
  · exact ora28
  · exact ora35
  · exact ora31
theorem works_run : (callA (XX mdN) 100000 (.func 10 []) [] St.empty).map (·.1) = some (.d (.bool true)) := by kernel_rfl
def F10 : List A → Option A
  | [] => some (.d (.bool true))
  | _ => none
theorem ora10 : OraS Try.prog 10 F10 := by
  refine oraS_of (fz := mdN) oraN mixedT fun args r h => ?_
  unfold F10 at h
  split at h
  · cases h
    refine ⟨rfl, ?_⟩
    have := works_run
    cases hc : callA (XX mdN) 100000 (.func 10 []) [] St.empty with
    | none => rw [hc] at this; cases this
    | some q =>
      obtain ⟨a, σ', T⟩ := q
      rw [hc] at this; cases this
      exact ⟨σ', T, 100000, hc⟩
  · cases h
end Go.Am
namespace Go.Am
open Go Go.Proofs
/-- modes of the laws of layer 22 -/
def mdS : Nat → Md := fun f => match f with
  | 10 => .ora F10 | 34 => .ora F35
  | 11 | 13 | 16 | 19 | 45 | 46 | 48 | 51 | 52 => .ice
  | 39 | 40 | 79 | 80 | 88 => .keep
  | _ => .cut
theorem oraMS : ∀ f F, oraOf (mdS f) = some F → OraS Try.prog f F := by
  intro f F h
  unfold mdS at h
  split at h <;> cases h
  · exact ora10
  · exact ora35
theorem works_S (σ : St) : CallsTo (XX mdS) (.func 10 []) [] σ (.d (.bool true)) σ [] := CallsTo.ora (F := F10) rfl fn10 rfl rfl rfl
theorem check_S (g : Gr) (σ : St) (h : SmallG g) : CallsTo (XX mdS) (.func 34 []) [g.a] σ (.d (.int .i64 (checkP g))) σ [] := CallsTo.ora (F := F35) rfl fn34 rfl (F35_at h) rfl
theorem deep_S (g : Gr) (σ : St) (hg : SmallG g) (hL : g.rules.length < 1000000000) : CallsTo (XX mdS) (.func 9 []) [g.a] σ (.d (.bool (deepG g))) σ [] := deepG_call rfl rfl g σ hg hL
theorem short_S (g : Gr) (σ : St) (rule : Int) (h : SmallG g) : CallsTo (XX mdS) (.func 19 []) [g.a, .d (.int .i64 rule)] σ (.tup [.d (shortV g rule).1, .d (.int .i64 (shortV g rule).2)]) σ [] :=
  short_call check_S rfl rfl rfl rfl rfl rfl rfl (fun g h => ⟨(GOk.of h).ok, (GOk.of h).tok, (GOk.of h).le⟩) g h rule σ
theorem new_S (g : Gr) (σ : St) (h : SmallG g) : CallsTo (XX mdS) (.func 11 []) [g.a] σ (.tup [.d (newV g).1, .d (.int .i64 (newV g).2)]) σ [] :=
  new_call check_S short_S rfl rfl rfl rfl rfl (fun g h => by
    have k := GOk.of h
    refine ⟨k.ok, k.pos, k.le, fun y hy => ?_⟩
    have := szL_mem hy
    have := k.sz
    rw [szS_eq]; omega) g h σ
end Go.Am
namespace Go.Am
open Go Go.Proofs
theorem newX_en {g : Gr} (h : GOk g) : (newX g).en.length < 1000000 := by
  have : (newX g).en.length = g.rules.length := (newN_W h).enl
  have := h.le; omega
theorem newX_lv {g : Gr} (h : GOk g) : (newX g).lv.length < 1000000 := by
  have : (newX g).lv.length = g.rules.length := (newN_W h).lvl
  have := h.le; omega
theorem net_S {g : Gr} (h : GOk g) (σ : St) : CallsTo (XX mdS) (.func 16 []) [netP (newN g).N (newX g)] σ (.tup [netA (newN g).N (newX g), .d (.int .i64 0)]) σ [] :=
  net_c rfl rfl rfl rfl (newN_ne h) (newN_fits h) (by omega) (newX_en h) (newX_lv h) σ
theorem sound_S {g : Gr} (h : GOk g) (σ : St) : CallsTo (XX mdS) (.func 17 []) [netA (newN g).N (newX g), g.a] σ (.d (.bool true)) σ [] :=
  sound_c rfl (newN_fits h) (by omega) (newN_sound h) (by have := h.le; omega) σ
theorem states_S {g : Gr} (h : GOk g) (σ : St) : CallsTo (XX mdS) (.func 23 []) [netP (newN g).N (newX g)] σ (.d (.int .i64 ((newN g).N.es.length : Int))) σ [] :=
  states_c rfl rfl (newX g) (newN_ne h) σ
theorem rule_S {g : Gr} (h : GOk g) (σ : St) (s : Nat) (hs : s < (newN g).N.es.length) : CallsTo (XX mdS) (.func 24 []) [netP (newN g).N (newX g), .d (.int .i64 (s : Int))] σ (.tup [.d (.int .i64 ((newN g).N.rule s)), .d (.int .i64 0)]) σ [] :=
  rule_c rfl rfl rfl (newX g) (newN_ne h) (newN_W h).rl σ s hs
end Go.Am
