/- States told anew by their live places alone. -/
import Derived.Test.YtfdmmbcjidkmoaaAww
import Derived.Test.YtfdmmbcjidkmoaaAwo
namespace Go.Aw
section
variable {H H' : Heap} {σ : List Nat} {keep : Bool}
theorem allTo_set : ∀ {env acc : List AV} {i : Nat} {b : AV}, AllTo H H' σ keep env acc → AvTo H H' σ keep (env.getD i .dead) b → AllTo H H' σ keep env (acc.set i b)
  | [], [], _, _, h, _ => h
  | _ :: _, _ :: _, 0, _, h, hb => ⟨hb, h.2⟩
  | _ :: _, _ :: _, i + 1, _, h, hb => ⟨h.1, allTo_set h.2 (by simpa using hb)⟩
  | [], _ :: _, _, _, h, _ => h.elim
  | _ :: _, [], _, _, h, _ => h.elim
theorem allTo_dead : ∀ (env : List AV), AllTo H H' σ keep env (List.replicate env.length .dead)
  | [] => trivial
  | a :: env => ⟨AvTo.dead a, allTo_dead env⟩
def Lives (H H' : Heap) (σ : List Nat) (keep : Bool) (env : List AV) : List (Nat × AV) → Prop
  | [] => True
  | p :: l => AvTo H H' σ keep (lget env p.1) p.2 ∧ Lives H H' σ keep env l
theorem allTo_fold : ∀ {l : List (Nat × AV)} {env acc : List AV}, AllTo H H' σ keep env acc → Lives H H' σ keep env l → AllTo H H' σ keep env (l.foldl (fun e p => e.set p.1 p.2) acc)
  | [], _, _, h, _ => h
  | p :: l, env, acc, h, hl => allTo_fold (l := l) (allTo_set h (by rw [← lget_eq]; exact hl.1)) hl.2
theorem allTo_mkE {n : Nat} {env : List AV} {l : List (Nat × AV)} (hn : env.length = n) (h : Lives H H' σ keep env l) : AllTo H H' σ keep env (mkE n l) := by
  subst hn
  exact allTo_fold (allTo_dead env) h
end
end Go.Aw
