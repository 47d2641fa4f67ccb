/- Part EF of a proof that runs a program's calls on a small machine whose values bear no addresses: no conditions. -/
import Derived.Test.YtfhoagkadjinlaaAmO6
set_option autoImplicit false
set_option linter.unusedSimpArgs false
set_option linter.unusedVariables false
set_option linter.unusedSectionVars false
namespace Go.Am
open Go Go.Proofs
theorem nptr_eq30 {σ:St}:binA (XX mdE) σ .eql 30 (.d .nptr) (.d .nptr)=some (.d (.bool true)):=by
 unfold binA eqT; simp only [ti30]; rfl
theorem ways_E {lo kt km:Nat} {ra ba rea:A} {tb:List Nat} {g:Gr} {bh:Nat→List Nat} {rch:Nat→Bool} (hs:SmallG g) (hc:checkP g=0) (hB:BhOk (newN g).N g.rules.length rch bh) {s:Nat} (hsN:s < (newN g).N.es.length) {z:Bool} {l:List Int} (hL:l.length≤4) (σ:St) (hT:TbK lo kt km ra ba rea tb g.rules.length (newN g).N (newX g) bh rch σ) :
 ∃ a σ' W,CallsTo (XX mdE) (.func 14 []) [.ptr kt 0,.d (.int .i64 (s:Int)),.d (.slc z (intsD l))] σ (.tup [a,.d (.int .i64 0)]) σ' W∧∃ bs,TbK lo kt km ra ba rea tb g.rules.length (newN g).N (newX g) bh rch σ'∧RowN 1 σ' a (intsD (natsI (waysP l (newN g).N (newX g) bh rch s))) bs∧(∀ k ∈ bs,σ.n≤k)∧σ.n≤σ'.n∧(∀ k,k < σ.n→k≠km→σ'.get k=σ.get k)∧∀ k ∈ W,k=km∨σ.n≤k :=
 waysM_c (kq:=kt) rfl rfl rfl rfl rfl rfl rfl rfl rfl hs hc hL (fun n s hs => by
  obtain ⟨t,r,e,q1,q2,q3,q4,q5,-⟩:=(hB.mem n s).1 hs
  rw [← q5]; exact ((newN_G (GOk.of hc)).ed t r q1 e q2).2.2.2.1) hB.len hsN σ hT TokA.data ⟨hT.t.tab.lt _ hT.t.tab.kt,fun e => hT.t.km.2.2 (e ▸ hT.t.tab.kt)⟩
end Go.Am
