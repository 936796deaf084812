/- Operations that only compute: what they leave of the state. -/
import Derived.Test.YtgonbndbnmimhaaDoorVmF
import Derived.Laws.Small
import Derived.Laws.StructEq
import Derived.Deep.MidRow
set_option linter.unusedVariables false
set_option linter.unusedSimpArgs false
namespace Go.Vm
open Go
def Runs (P:Program) (o:Oper) (a:Act) (w:World) (R:Act→World→Prop):Prop :=
 ∃ n v w',(execOp a.eval o).run P w=.ok n w' ∧ (n=.value v ∨ (n=.skip∧v=undef))∧R (a.put o.dst v) w'
theorem Runs.wp {P:Program} {o:Oper} {a:Act} {w:World} {R K:Act→World→Prop} {Q:Exit→Act→World→Prop} (h:Runs P o a w R) (hK:∀ a w,R a w→K a w):o.wp P a w K Q:=by
 obtain ⟨n,v,w',hr,hn,hR⟩:=h
 unfold Oper.wp
 rw [hr]
 rcases hn with rfl | ⟨rfl,rfl⟩
 ·exact hK _ _ hR
 ·exact hK _ _ hR
def AllP:List Prop→Prop
 | [] => True
 | p :: r => p∧AllP r
theorem AllP.one {p:Prop} (h:AllP [p]):p:=h.1
theorem AllP.left {l r:List Prop} (h:AllP (l ++ r)):AllP l:=by
 induction l with
 | nil => trivial
 | cons p l ih => exact ⟨h.1,ih h.2⟩
theorem AllP.right {l r:List Prop} (h:AllP (l ++ r)):AllP r:=by
 induction l with
 | nil => exact h
 | cons p l ih => exact ih h.2
theorem AllP.guard {q:Prop} {l:List Prop} (h:AllP (l.map fun c => (q→c))) (hq:q):AllP l:=by
 induction l with
 | nil => trivial
 | cons p l ih => exact ⟨h.1 hq,ih h.2⟩
def putS (N:Fr) (S:SS) (dst:Option Nat) (sv:SV):Option SS :=
 match dst with
 | some d => if decide (d < N.n) && !(N.keep.any fun k => Nat.beq k d) && !(sv.refs d) && !(sv.tests d) then some (S.put d sv) else none
 | none => none
theorem putS_some {N:Fr} {S S':SS} {dst:Option Nat} {sv:SV} (h:putS N S dst sv=some S'):∃ d,dst=some d ∧ (d < N.n∧d ∉ N.keep)∧sv.refs d=false∧sv.tests d=false∧S'=S.put d sv:=by
 unfold putS at h
 split at h
 ·split at h
  ·rename_i d hc
   simp only [Bool.and_eq_true,decide_eq_true_eq,Bool.not_eq_true'] at hc
   cases h
   refine ⟨d,rfl,⟨hc.1.1.1,fun hm => ?_⟩,hc.1.2,hc.2,rfl⟩
   have:(N.keep.any fun k => Nat.beq k d)=true:=List.any_eq_true.2 ⟨d,hm,by simp⟩
   rw [hc.1.1.2] at this; cases this
  ·cases h
 ·cases h
section
variable {P:Program} {T:Tbl} {Z:Fp} {F:Nat→Fp} {w0:World} {Wr Zi:Fp} {N:Fr} {S S':SS} {a:Act} {w:World} {o:Oper}
theorem Runs.read (h:RelX Z F w0 Wr Zi N S a w) {sv:SV} {v:Value} (hp:putS N S o.dst sv=some S') (hr:(execOp a.eval o).run P w=.ok (.value v) w) (hrep:sv.rep Z S w a.tmps v (fun _ => False)) :
 Runs P o a w (Rel w0 Wr Zi N S'):=by
 obtain ⟨d,hd,hlt,h1,h2,rfl⟩:=putS_some hp
 refine ⟨_,v,w,hr,.inl rfl,?_⟩
 rw [hd]
 exact ⟨Z,_,h.putR (by rw [h.tsize]; exact hlt.1) (fun hm => absurd hm hlt.2) hrep h1 h2⟩
theorem Runs.make (h:RelX Z F w0 Wr Zi N S a w) {s:Sh} {x:s.den} {v:Value} {w':World} {f U:Fp} (hp:putS N S o.dst (.val s x)=some S') (hr:(execOp a.eval o).run P w=.ok (.value v) w')
 (hg:Grow U w w') (hU:∀ i,U i→i < w.heap.size→¬ Z i ∧ (∀ s,¬ F s i) ∧ (Wr i∨w0.heap.size≤i))
 (hf:∀ i,f i→i < w'.heap.size ∧ (w.heap.size≤i ∨ (¬ Z i ∧ (∀ s,¬ F s i) ∧ (Wr i∨w0.heap.size≤i)))) (hrep:VRep Z w' s x v f) :
 Runs P o a w (Rel w0 Wr Zi N S'):=by
 obtain ⟨d,hd,hlt,h1,h2,rfl⟩:=putS_some hp
 refine ⟨_,v,w',hr,.inl rfl,?_⟩
 rw [hd]
 exact ⟨Z,_,h.putG (by rw [h.tsize]; exact hlt.1) (fun hm => absurd hm hlt.2) hg (fun i hi hlt => ⟨(hU i hi hlt).1,fun s _ => (hU i hi hlt).2.1 s,(hU i hi hlt).2.2⟩)
  (fun i hi => ⟨(hf i hi).1,(hf i hi).2.imp id (fun h => ⟨h.1,fun s _ => h.2.1 s,h.2.2⟩)⟩) hrep⟩
theorem move_ok (h:RelX Z F w0 Wr Zi N S a w) {x:Operand} {sv:SV} (ho:o.op=.move x∨o.op=.assign x) (hs:opd T S o.type x=some sv) (hp:putS N S o.dst sv=some S'):Runs P o a w (Rel w0 Wr Zi N S') :=
 Runs.read h hp (v:=a.eval x) (by rcases ho with ho | ho <;> simp [execOp,ho]) (opd_rep h hs)
def bin (T:Tbl) (xt:Nat):BinOp→TV→TV→Option (TV × List Prop)
 | .shl,⟨.int k,m⟩,⟨.int _,n⟩ => some (⟨.int k,k.wrap (m*2 ^ (min (Int.toNat n) k.bits))⟩,[(0:Int)≤n])
 | .shr,⟨.int k,m⟩,⟨.int _,n⟩ => some (⟨.int k,Int.fdiv m (2 ^ (min (Int.toNat n) k.bits))⟩,[(0:Int)≤n])
 | op,⟨.int k,m⟩,⟨.int k',n⟩ => if k=k' then
  match op with
  | .add => some (⟨.int k,k.wrap (m+n)⟩,[])
  | .sub => some (⟨.int k,k.wrap (m - n)⟩,[])
  | .mul => some (⟨.int k,k.wrap (m*n)⟩,[])
  | .quo => some (⟨.int k,k.wrap (Int.tdiv m n)⟩,[(n:Int)≠0])
  | .rem => some (⟨.int k,Int.tmod m n⟩,[(n:Int)≠0])
  | .and => some (⟨.int k,Go.bits .and k m n⟩,[])
  | .or => some (⟨.int k,Go.bits .or k m n⟩,[])
  | .xor => some (⟨.int k,Go.bits .xor k m n⟩,[])
  | .andNot => some (⟨.int k,Go.bits .andNot k m n⟩,[])
  | .eql => some (⟨.bool,(m:Int) == n⟩,[])
  | .neq => some (⟨.bool,(m:Int) != n⟩,[])
  | .lss => some (⟨.bool,decide ((m:Int) < n)⟩,[])
  | .leq => some (⟨.bool,decide ((m:Int)≤n)⟩,[])
  | .gtr => some (⟨.bool,decide ((m:Int) > n)⟩,[])
  | .geq => some (⟨.bool,decide ((m:Int) ≥ n)⟩,[])
  | _ => none
   else none
 | op,⟨.str,s⟩,⟨.str,t⟩ => match op with
  | .add => some (⟨.str,s ++ t⟩,[ByteArray.size s+ByteArray.size t≤9223372036854775807])
  | .eql => some (⟨.bool,ByteArray.toList s == ByteArray.toList t⟩,[])
  | .neq => some (⟨.bool,!(ByteArray.toList s == ByteArray.toList t)⟩,[])
  | .lss => some (⟨.bool,Op.bytesLess (ByteArray.toList s) (ByteArray.toList t)⟩,[])
  | .leq => some (⟨.bool,Op.bytesLess (ByteArray.toList s) (ByteArray.toList t) || ByteArray.toList s == ByteArray.toList t⟩,[])
  | .gtr => some (⟨.bool,!(Op.bytesLess (ByteArray.toList s) (ByteArray.toList t) || ByteArray.toList s == ByteArray.toList t)⟩,[])
  | .geq => some (⟨.bool,!(Op.bytesLess (ByteArray.toList s) (ByteArray.toList t))⟩,[])
  | _ => none
 | op,⟨.bool,s⟩,⟨.bool,t⟩ => match T.find xt with
   | some i => match i.kd with
     | .bool => match op with
       | .eql => some (⟨.bool,(s:Bool) == t⟩,[])
       | .neq => some (⟨.bool,!((s:Bool) == t)⟩,[])
       | _ => none
     | _ => none
   | none => none
 | _,_,_ => none
def scalV:TV→Option Value
 | ⟨.int k,n⟩ => some (.int k n)
 | ⟨.bool,b⟩ => some (.bool b)
 | ⟨.str,s⟩ => some (.string s)
 | _ => none
theorem bin_run (hT:TOk P T) {xt yt:Nat} {op:BinOp} {x y r:TV} {c:List Prop} (h:bin T xt op x y=some (r,c)) (hc:AllP c) (X Y:Operand) (w:World) :
 ∃ vx vy vr,scalV x=some vx∧scalV y=some vy∧scalV r=some vr ∧
   (do eqGuard op xt X Y vx vy; binOp op xt vx vy:Sem Value).run P w=.ok vr w:=by
 unfold bin at h
 split at h
 ·cases h
  refine ⟨_,_,_,rfl,rfl,rfl,?_⟩
  have:¬ ((_:Int) < 0):=Int.not_lt.2 hc.1
  simp [eqGuard,binOp,Op.shift,this]
 ·cases h
  refine ⟨_,_,_,rfl,rfl,rfl,?_⟩
  have:¬ ((_:Int) < 0):=Int.not_lt.2 hc.1
  simp [eqGuard,binOp,Op.shift,this]
 ·rename_i k m k' n _ _
  split at h
  ·rename_i hk
   subst hk
   split at h
   all_goals first
    | (cases h
       refine ⟨_,_,_,rfl,rfl,rfl,?_⟩
       simp [eqGuard,binOp,Op.intArith,Op.intDiv,Op.intBits,Op.intCmp,Go.bits]
       done)
    | (cases h
       refine ⟨_,_,_,rfl,rfl,rfl,?_⟩
       have hc:=hc.1
       simp [eqGuard,binOp,Op.intArith,Op.intDiv,Op.intBits,Op.intCmp,Go.bits,hc]
       done)
    | cases h
  ·cases h
 ·split at h
  ·cases h
   refine ⟨_,_,_,rfl,rfl,rfl,?_⟩
   have hm:(IntKind.i64.max:Int)=9223372036854775807:=by decide
   have hc:=hc.1
   simp [eqGuard,binOp,Op.stringOp,hm]
   omega
  all_goals first
   | (cases h
      refine ⟨_,_,_,rfl,rfl,rfl,?_⟩
      simp [eqGuard,binOp,Op.stringOp]
      done)
   | cases h
 ·split at h
  ·rename_i i hi
   split at h
   ·rename_i hkd
    obtain ⟨ht,hty⟩:=hT.find hi
    obtain ⟨d,hd,hdk⟩:=hty.desc
    rw [ht] at hd
    have hb:d=.bool:=by rw [hkd] at hdk; cases d <;> simp [kdOf] at hdk ⊢
    subst hb
    split at h
    all_goals first
     | (cases h
        refine ⟨_,_,_,rfl,rfl,rfl,?_⟩
        simp [eqGuard,binOp,run_equal_bool w xt _ _ hd]
        done)
     | cases h
   ·cases h
  ·cases h
 ·cases h
theorem scal_eval {tv:TV} {vx v:Value} (h:scalV tv=some vx) {f:Fp} (hr:VRep Z w tv.sh tv.x v f):v=vx:=by
 obtain ⟨cs,hc,hv⟩:=hr
 unfold scalV at h
 split at h
 ·cases h; obtain ⟨rfl,_⟩:=hc; simpa [ValOf] using hv.symm
 ·cases h; obtain ⟨rfl,_⟩:=hc; simpa [ValOf] using hv.symm
 ·cases h; obtain ⟨rfl,_⟩:=hc; simpa [ValOf] using hv.symm
 ·cases h
theorem scal_rep {tv:TV} {v:Value} (h:scalV tv=some v):VRep Z w tv.sh tv.x v (fun _ => False):=by
 unfold scalV at h
 split at h
 ·cases h; exact ⟨_,⟨rfl,fun _ => id⟩,rfl⟩
 ·cases h; exact ⟨_,⟨rfl,fun _ => id⟩,rfl⟩
 ·cases h; exact ⟨_,⟨rfl,fun _ => id⟩,rfl⟩
 ·cases h
def opv (T:Tbl) (S:SS) (ty:Nat) (x:Operand):Option TV :=
 match opd T S ty x with
 | some (.val s x) => some ⟨s,x⟩
 | _ => none
theorem opv_rep (h:RelX Z F w0 Wr Zi N S a w) {ty:Nat} {x:Operand} {tv:TV} (ho:opv T S ty x=some tv):VRep Z w tv.sh tv.x (a.eval x) (fun _ => False):=by
 unfold opv at ho
 split at ho
 ·rename_i hx; cases ho; exact opd_rep h hx
 ·cases ho
def BndIs (T:Tbl) (S:SS) (t:Nat) (L:Option Operand) (d n:Nat):Prop:=match L with
 | none => n=d
 | some L => ∃ k,opv T S t L=some ⟨.int k,(n:Int)⟩
theorem binOp_ok (hT:TOk P T) (h:RelX Z F w0 Wr Zi N S a w) {op:BinOp} {xt yt:Nat} {x y:Operand} {vx vy r:TV} {c:List Prop} (ho:o.op=.binOp op xt x y yt) (hx:opv T S xt x=some vx) (hy:opv T S yt y=some vy)
 (hb:bin T xt op vx vy=some (r,c)) (hc:AllP c) (hp:putS N S o.dst (.val r.sh r.x)=some S'):Runs P o a w (Rel w0 Wr Zi N S'):=by
 obtain ⟨ax,ay,ar,h1,h2,h3,hrun⟩:=bin_run (yt:=yt) hT hb hc x y w
 have e1:=scal_eval h1 (opv_rep h hx)
 have e2:=scal_eval h2 (opv_rep h hy)
 refine Runs.read h hp (v:=ar) ?_ (scal_rep h3)
 rw [← e1,← e2] at hrun
 simp only [execOp,ho]
 rw [Sem.run_bind,hrun]
 simp
def una:UnOp→TV→Option TV
 | .neg,⟨.int k,n⟩ => some ⟨.int k,k.wrap (0 - n)⟩
 | .xor,⟨.int k,n⟩ => some ⟨.int k,Go.bits .xor k (if k.signed then -1 else k.max) n⟩
 | .not,⟨.bool,b⟩ => some ⟨.bool,!b⟩
 | _,_ => none
theorem unOp_ok (h:RelX Z F w0 Wr Zi N S a w) {op:UnOp} {xt:Nat} {x:Operand} {vx r:TV} (ho:o.op=.unOp op xt x) (hx:opv T S xt x=some vx)
 (hb:una op vx=some r) (hp:putS N S o.dst (.val r.sh r.x)=some S'):Runs P o a w (Rel w0 Wr Zi N S'):=by
 have hr:=opv_rep h hx
 unfold una at hb
 split at hb
 ·cases hb
  have e:=scal_eval (Z:=Z) (w:=w) rfl hr
  refine Runs.read h hp (v:=.int _ _) ?_ (scal_rep rfl)
  simp [execOp,ho,e,Op.unary,Op.intArith]
 ·cases hb
  have e:=scal_eval (Z:=Z) (w:=w) rfl hr
  refine Runs.read h hp (v:=.int _ _) ?_ (scal_rep rfl)
  simp [execOp,ho,e,Op.unary,Op.intBits,Go.bits]
 ·cases hb
  have e:=scal_eval (Z:=Z) (w:=w) rfl hr
  refine Runs.read h hp (v:=.bool _) ?_ (scal_rep rfl)
  simp [execOp,ho,e,Op.unary]
 ·cases hb
theorem convert_int_ok (hT:TOk P T) (h:RelX Z F w0 Wr Zi N S a w) {src dst:Nat} {x:Operand} {k k':IntKind} {n:Int} {i j:TI} (ho:o.op=.convert src dst x) (hx:opv T S src x=some ⟨.int k,n⟩)
 (hi:T.find src=some i) (hj:T.find dst=some j) (hkj:j.kd=.int k') (hp:putS N S o.dst (.val (.int k') (k'.wrap n))=some S'):Runs P o a w (Rel w0 Wr Zi N S'):=by
 have e:=scal_eval (Z:=Z) (w:=w) rfl (opv_rep h hx)
 obtain ⟨ti,hti⟩:=hT.find hi
 obtain ⟨d1,hd1,_⟩:=hti.desc
 obtain ⟨tj,htj⟩:=hT.find hj
 obtain ⟨d2,hd2,hdk⟩:=htj.desc
 rw [ti] at hd1
 rw [tj] at hd2
 have hb:d2=.int k':=by rw [hkj] at hdk; cases d2 <;> simp_all [kdOf]
 subst hb
 refine Runs.read h hp (v:=.int k' (k'.wrap n)) ?_ (scal_rep (tv:=⟨.int k',k'.wrap n⟩) rfl)
 simp only [execOp,ho,e,convert,Sem.run_bind,run_underlying hd1,run_underlying hd2,Result.andThen_ok]
 cases d1 <;> simp [Conv.intToInt]
end
end Go.Vm
