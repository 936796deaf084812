/-
  Laws of the graph statements, turned to this seat's numbers by a program of this project (port4.py). No condition.
-/
import Derived.Test.YtdjadmdiehkfdaaR6rlb
set_option linter.unusedVariables false
set_option linter.unusedSimpArgs false
namespace Go.Proofs.Ytdjadmdiehkfdaa
open Go Go.Vm Go.Proofs V
def slow (x p:Int):Int :=
 bif decide (IntKind.i64.wrap (Int.tdiv (IntKind.i64.wrap ((IntKind.i64.wrap (x*p)) + (99:Int))) (100:Int)) < (1:Int)) then 1 else
 bif decide (IntKind.i64.wrap (Int.tdiv (IntKind.i64.wrap ((IntKind.i64.wrap (x*p)) + (99:Int))) (100:Int)) > (1000000:Int)) then 1000000 else IntKind.i64.wrap (Int.tdiv (IntKind.i64.wrap ((IntKind.i64.wrap (x*p)) + (99:Int))) (100:Int))
theorem e44 (k:Nat) (x p:Int):f44 k x p=some (slow x p):=by
 unfold f44 slow
 rw [if_t (by decide)]
 cases decide (IntKind.i64.wrap (Int.tdiv (IntKind.i64.wrap ((IntKind.i64.wrap (x*p)) + (99:Int))) (100:Int)) < (1:Int)) with
 | true => rfl
 | false =>
   simp only [f44.j2,f44.j4]
   cases decide (IntKind.i64.wrap (Int.tdiv (IntKind.i64.wrap ((IntKind.i64.wrap (x*p)) + (99:Int))) (100:Int)) > (1000000:Int)) <;> rfl
def slowTo (g:Graph) (a:List Int) (p:Int):Nat→List Road
 | 0 => g.2.1
 | q+1 => if ((slowTo g a p q).getD q dR).2.2.1 ∈ a then (slowTo g a p q).set q (((slowTo g a p q).getD q dR).1,(((slowTo g a p q).getD q dR).2.1,(((slowTo g a p q).getD q dR).2.2.1,(slow ((slowTo g a p q).getD q dR).2.2.2.1 p,((slowTo g a p q).getD q dR).2.2.2.2)))) else slowTo g a p q
theorem slowTo_len (g:Graph) (a:List Int) (p:Int):∀ q,(slowTo g a p q).length=g.2.1.length
 | 0 => rfl
 | q+1 => by rw [slowTo]; split <;> simp [slowTo_len g a p q]
theorem e17 {g:Graph} (hg:GOk g) (k:Nat) (hk:1048576 < k) (a:List Int) (ha:a.length≤1048576) (p:Int) (hc:f43 k g=some g):f17.l17 k a g p k (([]:(List (Int × Bool))),(0:Int))=some (g.1,(slowTo g a p g.2.1.length,g.2.2)):=by
 have n2:=hg.n2
 obtain ⟨v,v1,v2⟩:=foldLoop (L:=f17.l17 k a g p) (n:=a.length) (g:=fun i v => mput (Sh.beq (.int .i64)) (a.getD i 0) true v) (fin:=fun v => (f43 k g).bind fun r32 => (f17.l90 k r32 v p k (r32,(0:Int))))
  (Inv:=fun i v => ∀ j:Int,mget (Sh.beq (.int .i64)) (some v) j false=decide (j ∈ a.take i))
  (fun m i v hi q2 => by
   have hbd:(0:Int) ≤ (i:Int) ∧ (i:Int) < (a.length:Int):=⟨by omega,by omega⟩
   have hc:decide ((i:Int) < (a.length:Int))=true:=by simpa using hi
   refine ⟨fun j => ?_,?_⟩
   ·rw [mget_put (beq_int .i64),q2 j]
    have hm:=mem_take_succ (d:=0) hi j
    by_cases hj:j=a.getD i 0
    ·rw [(beq_int .i64 _ _).2 hj,cond_true]; symm; rw [decide_eq_true_eq]; exact hm.2 (.inr hj)
    ·have:Sh.beq (.int .i64) j (a.getD i 0)=false:=by
      cases hq:Sh.beq (.int .i64) j (a.getD i 0) with
      | false => rfl
      | true => exact absurd ((beq_int .i64 _ _).1 hq) hj
     rw [this,cond_false]; congr 1; rw [hm,eq_iff_iff]; exact ⟨fun h => .inl h,fun h => h.resolve_right hj⟩
   ·rw [f17.l17,if_t hc]
    simp only [if_t hbd,Int.toNat_natCast]
    rw [wrap_s (by omega)])
  (fun m v _ => by rw [f17.l17,if_f (by simp)]) k 0 [] (fun j => by simp [mget_nil]) (by omega) (by omega)
 rw [show ((0:Nat):Int)=0 from rfl] at v2
 rw [List.take_length] at v1
 rw [v2,hc,Option.bind_some]
 obtain ⟨s,s1,s2⟩:=foldLoop (L:=f17.l90 k g v p) (n:=g.2.1.length) (g:=fun i s => (g.1,(slowTo g a p (i+1),g.2.2))) (fin:=fun s => some s) (Inv:=fun i s => s = (g.1,(slowTo g a p i,g.2.2)))
  (fun m i s hi hs => by
   subst hs
   refine ⟨rfl,?_⟩
   have hl:=slowTo_len g a p i
   have hb:(0:Int) ≤ (i:Int) ∧ (i:Int) < ((slowTo g a p i).length:Int):=⟨by omega,by omega⟩
   have hc:decide ((i:Int) < (g.2.1.length:Int))=true:=by simpa using hi
   rw [f17.l90]
   simp only [if_t hc,if_t hb,Int.toNat_natCast,v1,e44,Option.bind_some,f17.j139]
   rw [wrap_s (by omega),slowTo]
   by_cases hm:((slowTo g a p i).getD i dR).2.2.1 ∈ a
   ·rw [if_t (by simpa using hm),if_t hm]
   ·rw [if_f (by simpa using hm),if_f hm])
  (fun m s hs => by subst hs; rw [f17.l90,if_f (by simp)]) k 0 g rfl (by omega) (by omega)
 rw [show ((0:Nat):Int)=0 from rfl] at s2
 rw [s2,s1]
theorem e104 {g:Graph} (hg:GOk g) (k:Nat):f104 k g=some g∧f43 k g=some g:=by
 have n1:=hg.n1; have n2:=hg.n2; have n3:=hg.n3
 unfold f104 f43
 simp only [List.length_nil,Nat.zero_add,List.nil_append]
 rw [if_t (by omega),if_t (by omega),if_t (by omega)]
 exact ⟨rfl,rfl⟩
end Go.Proofs.Ytdjadmdiehkfdaa
