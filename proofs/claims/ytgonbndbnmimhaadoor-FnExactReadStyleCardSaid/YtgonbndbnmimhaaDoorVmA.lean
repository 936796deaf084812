/- The memory predicate of typed values: shapes, what they denote, how cells of memory represent them, with footprints. -/
import Derived.WalkKit
import Derived.Maps.AppendAt
set_option linter.unusedVariables false
set_option linter.unusedSimpArgs false
namespace Go.Vm
open Go
structure Fam where
 J:Array Nat→World → (Nat→Prop)→Prop
 lt:Nat→Nat→Bool
 low:∀ X w f,J X w f→∀ i,f i→i < w.heap.size
 stay:∀ X w w' f,(∀ i,f i→w'.heap[i]?=w.heap[i]?)→J X w f→J X w' f
def Fam.non:Fam:=⟨fun _ _ f => ∀ i,¬ f i,fun _ _ => false,fun _ _ _ h i hi => absurd hi (h i),fun _ _ _ _ _ h => h⟩
inductive Sh where
 | int (k:IntKind) | bool | str | unit | any | raw
 | gh (own:Bool)
 | pair (a b:Sh)
 | st (f:Sh)
 | sl (own:Bool) (t:Nat) (e:Sh)
 | pt (own:Bool) (t:Nat) (e:Sh)
 | mp (own:Bool) (k v:Sh)
 | fn (f:Nat) (c:Sh)
 deriving DecidableEq
@[reducible] def Sh.den:Sh→Type
  | .int _ => Int
  | .bool => Bool
  | .str => ByteArray
  | .unit => Unit
  | .any => Unit
  | .raw => Value
  | .gh _ => Value × Fam × Array Nat
  | .pair a b => a.den × b.den
  | .st f => f.den
  | .sl _ _ e => List e.den
  | .pt _ _ e => Option e.den
  | .mp _ k v => Option (List (k.den × v.den))
  | .fn _ c => c.den
def Sh.dflt:(s:Sh)→s.den
 | .int _ => (0:Int)
 | .bool => false
 | .str => (⟨#[]⟩:ByteArray)
 | .unit => ()
 | .any => ()
 | .raw => Value.nilFunc
 | .gh _ => (Value.nilFunc,Fam.non,#[])
 | .pair a b => (a.dflt,b.dflt)
 | .st f => f.dflt
 | .sl _ _ _ => []
 | .pt _ _ _ => none
 | .mp _ _ _ => none
 | .fn _ c => c.dflt
def Sh.size:Sh→Nat
 | .unit => 0
 | .pair a b => a.size+b.size
 | .st f => f.size
 | _ => 1
def Sh.isSt:Sh→Bool
 | .st _ => true
 | _ => false
def Sh.noOwn:Sh→Bool
 | .pair a b => a.noOwn && b.noOwn
 | .st f => f.noOwn
 | .sl o _ e => !o && e.noOwn
 | .pt o _ e => !o && e.noOwn
 | .mp o _ _ => !o
 | .fn _ c => c.noOwn
 | .gh o => !o
 | _ => true
def Sh.ro:Sh→Sh
 | .pair a b => .pair a.ro b.ro
 | .st f => .st f.ro
 | .sl _ t e => .sl false t e.ro
 | .pt _ t e => .pt false t e.ro
 | .mp _ k v => .mp false k v
 | .fn f c => .fn f c.ro
 | .gh _ => .gh false
 | s => s
def Sh.toRo:(s:Sh)→s.den→s.ro.den
 | .int _,x => x
 | .bool,x => x
 | .str,x => x
 | .unit,x => x
 | .any,x => x
 | .raw,x => x
 | .gh _,x => x
 | .pair a b,x => (a.toRo x.1,b.toRo x.2)
 | .st f,x => f.toRo x
 | .sl _ _ e,x => List.map e.toRo x
 | .pt _ _ e,x => Option.map e.toRo x
 | .mp _ _ _,x => x
 | .fn _ c,x => c.toRo x
theorem Sh.den_ro:∀ s:Sh,s.ro.den=s.den
 | .int _ => rfl
 | .bool => rfl
 | .str => rfl
 | .unit => rfl
 | .any => rfl
 | .raw => rfl
 | .gh _ => rfl
 | .pair a b => by simp only [Sh.ro,Sh.den,Sh.den_ro a,Sh.den_ro b]
 | .st f => by simp only [Sh.ro,Sh.den,Sh.den_ro f]
 | .sl _ _ e => by simp only [Sh.ro,Sh.den,Sh.den_ro e]
 | .pt _ _ e => by simp only [Sh.ro,Sh.den,Sh.den_ro e]
 | .mp _ _ _ => rfl
 | .fn _ c => by simp only [Sh.ro,Sh.den,Sh.den_ro c]
theorem Sh.ro_size:∀ s:Sh,s.ro.size=s.size
 | .int _ => rfl
 | .bool => rfl
 | .str => rfl
 | .unit => rfl
 | .any => rfl
 | .raw => rfl
 | .gh _ => rfl
 | .pair a b => by simp only [Sh.ro,Sh.size,Sh.ro_size a,Sh.ro_size b]
 | .st f => by simp only [Sh.ro,Sh.size,Sh.ro_size f]
 | .sl _ _ e => rfl
 | .pt _ _ e => rfl
 | .mp _ _ _ => rfl
 | .fn _ _ => rfl
abbrev Fp:=Nat→Prop
def RRep {α:Type} (R:α→List Value→Fp→Prop):List α→List Value→Fp→Prop
 | [],cs,f => cs=[]∧∀ i,¬ f i
 | x :: xs,cs,f => ∃ c1 c2 f1 f2,cs=c1 ++ c2 ∧ (∀ i,f i↔f1 i∨f2 i) ∧ (∀ i,f1 i→¬ f2 i)∧R x c1 f1∧RRep R xs c2 f2
def OwnSl (w:World) (t size:Nat) (v:Value) (n:Nat) (inner:List Value) (fr f:Fp):Prop :=
 w.ownsRow 0 t size v n inner ∧ (∀ i,f i↔v.ownBlock=some i∨fr i) ∧ (∀ i,v.ownBlock=some i→¬ fr i)
def RoSl (Z:Fp) (w:World) (v:Value) (n:Nat) (inner:List Value) (fr f:Fp):Prop :=
 (∀ i,¬ f i) ∧ (∀ i,¬ fr i)∧∃ A c,v=.slice A n c∧n≤c∧c≤9223372036854775807 ∧ (0 < n→∃ ad,A=some ad) ∧
  ∀ j u,inner[j]?=some u→∃ ad,A=some ad∧Z ad.block∧w.cell? (ad.add j)=some u
def OwnPt (w:World) (t:Nat) (v:Value) (inner:List Value) (fr f:Fp):Prop :=
 ∃ g,v=.pointer (some ⟨g,0,none⟩)∧w.heap[g]?=some (.cells inner.toArray t) ∧ (∀ i,f i↔i=g∨fr i)∧¬ fr g
def RoPt (Z:Fp) (w:World) (v:Value) (inner:List Value) (fr f:Fp):Prop :=
 (∀ i,¬ f i) ∧ (∀ i,¬ fr i)∧∃ ad,v=.pointer (some ad)∧∀ j u,inner[j]?=some u→Z ad.block∧w.cell? (ad.add j)=some u
def ValOf (s:Sh) (v:Value) (cs:List Value):Prop:=match s with
 | .any => True
 | .st _ => v=.agg cs.toArray
 | _ => cs=[v]
def MRep {α β:Type} (RK:α→List Value→Fp→Prop) (RV:β→List Value→Fp→Prop) (ks vs:Sh):List (α × β)→List MapEntry→Prop
 | [],es => es=[]
 | x :: l,es => ∃ e es',es=e :: es' ∧ (∃ cs,RK x.1 cs (fun _ => False)∧ValOf ks e.key cs) ∧ (∃ cs,RV x.2 cs (fun _ => False)∧ValOf vs e.val cs)∧MRep RK RV ks vs l es'
theorem MRep.imp {α β:Type} {RK RK':α→List Value→Fp→Prop} {RV RV':β→List Value→Fp→Prop} {ks vs:Sh} (hk:∀ x cs,RK x cs (fun _ => False)→RK' x cs (fun _ => False)) (hv:∀ x cs,RV x cs (fun _ => False)→RV' x cs (fun _ => False)) :
 ∀ {l:List (α × β)} {es:List MapEntry},MRep RK RV ks vs l es→MRep RK' RV' ks vs l es
 | [],es,h => h
 | x :: l,es,h => by
   obtain ⟨e,es',rfl,⟨c1,h1,h2⟩,⟨c2,h3,h4⟩,h5⟩:=h
   exact ⟨e,es',rfl,⟨c1,hk _ _ h1,h2⟩,⟨c2,hv _ _ h3,h4⟩,MRep.imp hk hv h5⟩
def Born (es:List MapEntry) (clk:Nat):Prop:=(∀ e ∈ es,e.born < clk) ∧ (es.map (·.born)).Nodup
def MRow {α β:Type} (RK:α→List Value→Fp→Prop) (RV:β→List Value→Fp→Prop) (ks vs:Sh) (l:List (α × β)) (es:Array MapEntry) (clk:Nat):Prop:=MRep RK RV ks vs l es.toList∧Born es.toList clk
theorem MRow.imp {α β:Type} {RK RK':α→List Value→Fp→Prop} {RV RV':β→List Value→Fp→Prop} {ks vs:Sh} (hk:∀ x cs,RK x cs (fun _ => False)→RK' x cs (fun _ => False)) (hv:∀ x cs,RV x cs (fun _ => False)→RV' x cs (fun _ => False))
 {l:List (α × β)} {es:Array MapEntry} {clk:Nat} (h:MRow RK RV ks vs l es clk):MRow RK' RV' ks vs l es clk:=⟨h.1.imp hk hv,h.2⟩
theorem Born.nil (c:Nat):Born [] c:=⟨by simp,by simp⟩
theorem Born.push {es:List MapEntry} {c:Nat} (h:Born es c) {e:MapEntry} (he:e.born=c):Born (es ++ [e]) (c+1):=by
 refine ⟨fun x hx => ?_,?_⟩
 ·rcases List.mem_append.1 hx with hx | hx
  ·have:=h.1 x hx; omega
  ·have:x=e:=by simpa using hx
   subst this; omega
 ·rw [List.map_append,List.nodup_append]
  refine ⟨h.2,by simp,?_⟩
  intro a ha b hb
  obtain ⟨x,hx,rfl⟩:=List.mem_map.1 ha
  have:b=e.born:=by simpa using hb
  have:=h.1 x hx
  omega
theorem Born.sub {es es2:List MapEntry} {c:Nat} (h:Born es c) (hs:es2.Sublist es):Born es2 c:=⟨fun x hx => h.1 x (hs.subset hx),h.2.sublist (hs.map _)⟩
def CRep (Z:Fp) (w:World):(s:Sh)→s.den→List Value→Fp→Prop
 | .int k,x,cs,f => cs=[.int k x]∧∀ i,¬ f i
 | .bool,x,cs,f => cs=[.bool x]∧∀ i,¬ f i
 | .str,x,cs,f => cs=[.string x]∧∀ i,¬ f i
 | .unit,_,cs,f => cs=[]∧∀ i,¬ f i
 | .any,_,cs,f => (∃ v,cs=[v]∧v.oneCell'=true)∧∀ i,¬ f i
 | .raw,x,cs,f => (cs=[x]∧x.oneCell'=true)∧∀ i,¬ f i
 | .gh true,x,cs,f => (cs=[x.1]∧x.1.oneCell'=true)∧x.2.1.J x.2.2 w f
 | .gh false,x,cs,f => (cs=[x.1]∧x.1.oneCell'=true) ∧ (∀ i,¬ f i)∧∃ fg,(∀ i,fg i→Z i)∧x.2.1.J x.2.2 w fg
 | .pair a b,x,cs,f => ∃ c1 c2 f1 f2,cs=c1 ++ c2 ∧ (∀ i,f i↔f1 i∨f2 i) ∧ (∀ i,f1 i→¬ f2 i)∧CRep Z w a x.1 c1 f1∧CRep Z w b x.2 c2 f2
 | .st s,x,cs,f => CRep Z w s x cs f
 | .sl true t e,xs,cs,f => ∃ v inner fr,cs=[v]∧RRep (CRep Z w e) xs inner fr∧OwnSl w t e.size v xs.length inner fr f
 | .sl false t e,xs,cs,f => ∃ v inner fr,cs=[v]∧RRep (CRep Z w e) xs inner fr∧RoSl Z w v xs.length inner fr f
 | .pt _ _ _,none,cs,f => cs=[.pointer none]∧∀ i,¬ f i
 | .pt true t e,some y,cs,f => ∃ v inner fr,cs=[v]∧CRep Z w e y inner fr∧OwnPt w t v inner fr f
 | .pt false t e,some y,cs,f => ∃ v inner fr,cs=[v]∧CRep Z w e y inner fr∧RoPt Z w v inner fr f
 | .mp _ _ _,none,cs,f => cs=[.map none]∧∀ i,¬ f i
 | .mp true k v,some l,cs,f => ∃ g es clk,cs=[.map (some g)]∧w.heap[g]?=some (.map es clk)∧MRow (CRep Z w k) (CRep Z w v) k v l es clk∧∀ i,f i↔i=g
 | .mp false k v,some l,cs,f => (∀ i,¬ f i)∧∃ g es clk,cs=[.map (some g)]∧Z g∧w.heap[g]?=some (.map es clk)∧MRow (CRep Z w k) (CRep Z w v) k v l es clk
 | .fn fn c,x,cs,f => ∃ vs,cs=[.func (.func fn) #[] vs.toArray]∧CRep Z w c x vs f
theorem RRep.length {α:Type} {R:α→List Value→Fp→Prop} {size:Nat} (hR:∀ x cs f,R x cs f→cs.length=size) :
 ∀ {xs:List α} {cs:List Value} {f:Fp},RRep R xs cs f→cs.length=xs.length*size
 | [],cs,f,h => by obtain ⟨rfl,_⟩:=h; simp
 | x :: xs,cs,f,h => by
   obtain ⟨c1,c2,f1,f2,rfl,_,_,h1,h2⟩:=h
   have:=RRep.length hR h2
   simp [hR _ _ _ h1,this,Nat.add_mul,Nat.add_comm]
theorem CRep.length {Z:Fp} {w:World}:∀ {s:Sh} {x:s.den} {cs:List Value} {f:Fp},CRep Z w s x cs f→cs.length=s.size
 | .int k,x,cs,f,h => by obtain ⟨rfl,_⟩:=h; rfl
 | .bool,x,cs,f,h => by obtain ⟨rfl,_⟩:=h; rfl
 | .str,x,cs,f,h => by obtain ⟨rfl,_⟩:=h; rfl
 | .unit,x,cs,f,h => by obtain ⟨rfl,_⟩:=h; rfl
 | .any,x,cs,f,h => by obtain ⟨⟨v,rfl,_⟩,_⟩:=h; rfl
 | .raw,x,cs,f,h => by obtain ⟨⟨rfl,_⟩,_⟩:=h; rfl
 | .gh true,x,cs,f,h => by obtain ⟨⟨rfl,_⟩,_⟩:=h; rfl
 | .gh false,x,cs,f,h => by obtain ⟨⟨rfl,_⟩,_⟩:=h; rfl
 | .pair a b,x,cs,f,h => by
   obtain ⟨c1,c2,f1,f2,rfl,_,_,h1,h2⟩:=h
   simp [CRep.length h1,CRep.length h2,Sh.size]
 | .st s,x,cs,f,h => CRep.length (s:=s) h
 | .sl true t e,xs,cs,f,h => by obtain ⟨v,inner,fr,rfl,_⟩:=h; rfl
 | .sl false t e,xs,cs,f,h => by obtain ⟨v,inner,fr,rfl,_⟩:=h; rfl
 | .pt true _ _,none,cs,f,h => by obtain ⟨rfl,_⟩:=h; rfl
 | .pt false _ _,none,cs,f,h => by obtain ⟨rfl,_⟩:=h; rfl
 | .pt true t e,some y,cs,f,h => by obtain ⟨v,inner,fr,rfl,_⟩:=h; rfl
 | .pt false t e,some y,cs,f,h => by obtain ⟨v,inner,fr,rfl,_⟩:=h; rfl
 | .mp true _ _,none,cs,f,h => by obtain ⟨rfl,_⟩:=h; rfl
 | .mp false _ _,none,cs,f,h => by obtain ⟨rfl,_⟩:=h; rfl
 | .mp true _ _,some _,cs,f,h => by obtain ⟨g,es,clk,rfl,_⟩:=h; rfl
 | .mp false _ _,some _,cs,f,h => by obtain ⟨_,g,es,clk,rfl,_⟩:=h; rfl
 | .fn _ _,x,cs,f,h => by obtain ⟨vs,rfl,_⟩:=h; rfl
theorem RRep.one {α:Type} {R:α→List Value→Fp→Prop} (hR:∀ x cs f,R x cs f→∀ u ∈ cs,u.oneCell'=true) :
 ∀ {xs:List α} {cs:List Value} {f:Fp},RRep R xs cs f→∀ u ∈ cs,u.oneCell'=true
 | [],cs,f,h => by obtain ⟨rfl,_⟩:=h; simp
 | x :: xs,cs,f,h => by
   obtain ⟨c1,c2,f1,f2,rfl,_,_,h1,h2⟩:=h
   intro u hu
   rcases List.mem_append.1 hu with hu | hu
   ·exact hR _ _ _ h1 u hu
   ·exact RRep.one hR h2 u hu
theorem own_value {w:World} {b t size n:Nat} {v:Value} {xs:List Value} (h:w.ownsRow b t size v n xs):∃ A c,v=.slice A n c:=by
 rcases h.2 with ⟨rfl,rfl⟩ | ⟨g,cap,cur,rfl,_⟩
 ·exact ⟨_,_,rfl⟩
 ·exact ⟨_,_,rfl⟩
theorem CRep.one {Z:Fp} {w:World}:∀ {s:Sh} {x:s.den} {cs:List Value} {f:Fp},CRep Z w s x cs f→∀ u ∈ cs,u.oneCell'=true
 | .int k,x,cs,f,h => by obtain ⟨rfl,_⟩:=h; simp [Value.oneCell']
 | .bool,x,cs,f,h => by obtain ⟨rfl,_⟩:=h; simp [Value.oneCell']
 | .str,x,cs,f,h => by obtain ⟨rfl,_⟩:=h; simp [Value.oneCell']
 | .unit,x,cs,f,h => by obtain ⟨rfl,_⟩:=h; simp
 | .any,x,cs,f,h => by obtain ⟨⟨v,rfl,hv⟩,_⟩:=h; simpa using hv
 | .raw,x,cs,f,h => by obtain ⟨⟨rfl,hv⟩,_⟩:=h; simpa using hv
 | .gh true,x,cs,f,h => by obtain ⟨⟨rfl,hv⟩,_⟩:=h; simpa using hv
 | .gh false,x,cs,f,h => by obtain ⟨⟨rfl,hv⟩,_⟩:=h; simpa using hv
 | .pair a b,x,cs,f,h => by
   obtain ⟨c1,c2,f1,f2,rfl,_,_,h1,h2⟩:=h
   intro u hu
   rcases List.mem_append.1 hu with hu | hu
   ·exact CRep.one h1 u hu
   ·exact CRep.one h2 u hu
 | .st s,x,cs,f,h => CRep.one (s:=s) h
 | .sl true t e,xs,cs,f,h => by obtain ⟨v,inner,fr,rfl,_,ho,_⟩:=h; obtain ⟨A,c,rfl⟩:=own_value ho; simp [Value.oneCell']
 | .sl false t e,xs,cs,f,h => by obtain ⟨v,inner,fr,rfl,_,_,_,A,c,rfl,_⟩:=h; simp [Value.oneCell']
 | .pt true _ _,none,cs,f,h => by obtain ⟨rfl,_⟩:=h; simp [Value.oneCell']
 | .pt false _ _,none,cs,f,h => by obtain ⟨rfl,_⟩:=h; simp [Value.oneCell']
 | .pt true t e,some y,cs,f,h => by obtain ⟨v,inner,fr,rfl,_,g,rfl,_⟩:=h; simp [Value.oneCell']
 | .pt false t e,some y,cs,f,h => by obtain ⟨v,inner,fr,rfl,_,_,_,ad,rfl,_⟩:=h; simp [Value.oneCell']
 | .mp true _ _,none,cs,f,h => by obtain ⟨rfl,_⟩:=h; simp [Value.oneCell']
 | .mp false _ _,none,cs,f,h => by obtain ⟨rfl,_⟩:=h; simp [Value.oneCell']
 | .mp true _ _,some _,cs,f,h => by obtain ⟨g,es,clk,rfl,_⟩:=h; simp [Value.oneCell']
 | .mp false _ _,some _,cs,f,h => by obtain ⟨_,g,es,clk,rfl,_⟩:=h; simp [Value.oneCell']
 | .fn _ _,x,cs,f,h => by obtain ⟨vs,rfl,_⟩:=h; simp [Value.oneCell']
theorem RRep.imp {α:Type} {R R':α→List Value→Fp→Prop} {P:Fp} :
 ∀ {xs:List α} {cs:List Value} {f:Fp},(∀ i,f i→P i) → (∀ x cs f,(∀ i,f i→P i)→R x cs f→R' x cs f)→RRep R xs cs f→RRep R' xs cs f
 | [],cs,f,_,_,h => h
 | x :: xs,cs,f,hP,hR,h => by
   obtain ⟨c1,c2,f1,f2,rfl,hf,hd,h1,h2⟩:=h
   exact ⟨c1,c2,f1,f2,rfl,hf,hd,hR _ _ _ (fun i hi => hP i ((hf i).2 (.inl hi))) h1,RRep.imp (fun i hi => hP i ((hf i).2 (.inr hi))) hR h2⟩
theorem cell_same {w w':World} {a:Addr} (h:w'.heap[a.block]?=w.heap[a.block]?):w'.cell? a=w.cell? a:=by
 unfold World.cell?; rw [h]
theorem add_block (a:Addr) (j:Nat):(a.add j).block=a.block:=by unfold Addr.add; split <;> rfl
theorem owns_same {w w':World} {b t size n:Nat} {v:Value} {xs:List Value} (h:w.ownsRow b t size v n xs) (hs:∀ i,v.ownBlock=some i→w'.heap[i]?=w.heap[i]?):w'.ownsRow b t size v n xs:=by
 refine ⟨h.1,?_⟩
 rcases h.2 with ⟨rfl,rfl⟩ | ⟨g,cap,cur,rfl,hb,hh,rest⟩
 ·exact .inl ⟨rfl,rfl⟩
 ·exact .inr ⟨g,cap,cur,rfl,hb,by rw [hs g rfl]; exact hh,rest⟩
theorem CRep.same {Z Z':Fp} {w w':World} (hZ:∀ i,Z i→Z' i) (hw:∀ i,Z i→w'.heap[i]?=w.heap[i]?):∀ {s:Sh} {x:s.den} {cs:List Value} {f:Fp},(∀ i,f i→w'.heap[i]?=w.heap[i]?)→CRep Z w s x cs f→CRep Z' w' s x cs f
 | .int k,x,cs,f,_,h => h
 | .bool,x,cs,f,_,h => h
 | .str,x,cs,f,_,h => h
 | .unit,x,cs,f,_,h => h
 | .any,x,cs,f,_,h => h
 | .raw,x,cs,f,_,h => h
 | .gh true,x,cs,f,hf,h => ⟨h.1,x.2.1.stay _ _ _ _ hf h.2⟩
 | .gh false,x,cs,f,_,h => by
   obtain ⟨h1,h2,fg,h3,h4⟩:=h
   exact ⟨h1,h2,fg,fun i hi => hZ i (h3 i hi),x.2.1.stay _ _ _ _ (fun i hi => hw i (h3 i hi)) h4⟩
 | .pair a b,x,cs,f,hf,h => by
   obtain ⟨c1,c2,f1,f2,rfl,he,hd,h1,h2⟩:=h
   exact ⟨c1,c2,f1,f2,rfl,he,hd,CRep.same hZ hw (fun i hi => hf i ((he i).2 (.inl hi))) h1,CRep.same hZ hw (fun i hi => hf i ((he i).2 (.inr hi))) h2⟩
 | .st s,x,cs,f,hf,h => CRep.same (s:=s) hZ hw hf h
 | .sl true t e,xs,cs,f,hf,h => by
   obtain ⟨v,inner,fr,rfl,hr,ho,he,hd⟩:=h
   refine ⟨v,inner,fr,rfl,RRep.imp (P:=fun i => w'.heap[i]?=w.heap[i]?) (fun i hi => hf i ((he i).2 (.inr hi))) (fun x cs f hP h => CRep.same hZ hw hP h) hr,owns_same ho (fun i hi => hf i ((he i).2 (.inl hi))),he,hd⟩
 | .sl false t e,xs,cs,f,hf,h => by
   obtain ⟨v,inner,fr,rfl,hr,h0,h1,A,c,hv,hc,hm,hs,hread⟩:=h
   refine ⟨v,inner,fr,rfl,RRep.imp (P:=fun i => w'.heap[i]?=w.heap[i]?) (fun i hi => absurd hi (h1 i)) (fun x cs f hP h => CRep.same hZ hw hP h) hr,h0,h1,A,c,hv,hc,hm,hs,fun j u hu => ?_⟩
   obtain ⟨ad,hA,hz,hcell⟩:=hread j u hu
   exact ⟨ad,hA,hZ _ hz,by rw [cell_same (w:=w) (by rw [add_block]; exact hw _ hz)]; exact hcell⟩
 | .pt true _ _,none,cs,f,_,h => h
 | .pt false _ _,none,cs,f,_,h => h
 | .pt true t e,some y,cs,f,hf,h => by
   obtain ⟨v,inner,fr,rfl,hr,g,hv,hh,he,hd⟩:=h
   exact ⟨v,inner,fr,rfl,CRep.same hZ hw (fun i hi => hf i ((he i).2 (.inr hi))) hr,g,hv,by rw [hf g ((he g).2 (.inl rfl))]; exact hh,he,hd⟩
 | .pt false t e,some y,cs,f,hf,h => by
   obtain ⟨v,inner,fr,rfl,hr,h0,h1,ad,hv,hread⟩:=h
   refine ⟨v,inner,fr,rfl,CRep.same hZ hw (fun i hi => absurd hi (h1 i)) hr,h0,h1,ad,hv,fun j u hu => ?_⟩
   obtain ⟨hz,hcell⟩:=hread j u hu
   exact ⟨hZ _ hz,by rw [cell_same (w:=w) (by rw [add_block]; exact hw _ hz)]; exact hcell⟩
 | .mp true _ _,none,cs,f,_,h => h
 | .mp false _ _,none,cs,f,_,h => h
 | .mp true k v,some l,cs,f,hf,h => by
   obtain ⟨g,es,clk,rfl,hg,hm,he⟩:=h
   exact ⟨g,es,clk,rfl,by rw [hf g ((he g).2 rfl)]; exact hg,hm.imp (fun x cs hx => CRep.same hZ hw (fun i hi => hi.elim) hx) (fun x cs hx => CRep.same hZ hw (fun i hi => hi.elim) hx),he⟩
 | .mp false k v,some l,cs,f,hf,h => by
   obtain ⟨h0,g,es,clk,rfl,hz,hg,hm⟩:=h
   exact ⟨h0,g,es,clk,rfl,hZ _ hz,by rw [hw g hz]; exact hg,hm.imp (fun x cs hx => CRep.same hZ hw (fun i hi => hi.elim) hx) (fun x cs hx => CRep.same hZ hw (fun i hi => hi.elim) hx)⟩
 | .fn _ c,x,cs,f,hf,h => by
   obtain ⟨vs,rfl,hr⟩:=h
   exact ⟨vs,rfl,CRep.same (s:=c) hZ hw hf hr⟩
theorem RRep.lt {α:Type} {R:α→List Value→Fp→Prop} {n:Nat} (hR:∀ x cs f,R x cs f→∀ i,f i→i < n) :
 ∀ {xs:List α} {cs:List Value} {f:Fp},RRep R xs cs f→∀ i,f i→i < n
 | [],cs,f,h => by obtain ⟨_,h⟩:=h; exact fun i hi => absurd hi (h i)
 | x :: xs,cs,f,h => by
   obtain ⟨c1,c2,f1,f2,rfl,hf,_,h1,h2⟩:=h
   intro i hi
   rcases (hf i).1 hi with hi | hi
   ·exact hR _ _ _ h1 i hi
   ·exact RRep.lt hR h2 i hi
theorem owns_lt {w:World} {b t size n:Nat} {v:Value} {xs:List Value} (h:w.ownsRow b t size v n xs) (i:Nat) (hi:v.ownBlock=some i):i < w.heap.size:=by
 rcases h.2 with ⟨rfl,_⟩ | ⟨g,cap,cur,rfl,hb,hh,_⟩
 ·simp [Value.ownBlock] at hi
 ·have:g=i:=by simpa [Value.ownBlock] using hi
  subst this
  exact (Array.getElem?_eq_some_iff.1 hh).1
theorem CRep.lt {Z:Fp} {w:World}:∀ {s:Sh} {x:s.den} {cs:List Value} {f:Fp},CRep Z w s x cs f→∀ i,f i→i < w.heap.size
 | .int k,x,cs,f,h => fun i hi => absurd hi (h.2 i)
 | .bool,x,cs,f,h => fun i hi => absurd hi (h.2 i)
 | .str,x,cs,f,h => fun i hi => absurd hi (h.2 i)
 | .unit,x,cs,f,h => fun i hi => absurd hi (h.2 i)
 | .any,x,cs,f,h => fun i hi => absurd hi (h.2 i)
 | .raw,x,cs,f,h => fun i hi => absurd hi (h.2 i)
 | .gh true,x,cs,f,h => x.2.1.low _ _ _ h.2
 | .gh false,x,cs,f,h => fun i hi => absurd hi (h.2.1 i)
 | .pair a b,x,cs,f,h => by
   obtain ⟨c1,c2,f1,f2,rfl,he,_,h1,h2⟩:=h
   intro i hi
   rcases (he i).1 hi with hi | hi
   ·exact CRep.lt h1 i hi
   ·exact CRep.lt h2 i hi
 | .st s,x,cs,f,h => CRep.lt (s:=s) h
 | .sl true t e,xs,cs,f,h => by
   obtain ⟨v,inner,fr,rfl,hr,ho,he,_⟩:=h
   intro i hi
   rcases (he i).1 hi with hi | hi
   ·exact owns_lt ho i hi
   ·exact RRep.lt (fun x cs f h => CRep.lt h) hr i hi
 | .sl false t e,xs,cs,f,h => by obtain ⟨v,inner,fr,rfl,hr,h0,_⟩:=h; exact fun i hi => absurd hi (h0 i)
 | .pt true _ _,none,cs,f,h => fun i hi => absurd hi (h.2 i)
 | .pt false _ _,none,cs,f,h => fun i hi => absurd hi (h.2 i)
 | .pt true t e,some y,cs,f,h => by
   obtain ⟨v,inner,fr,rfl,hr,g,hv,hh,he,hd⟩:=h
   intro i hi
   rcases (he i).1 hi with rfl | hi
   ·exact (Array.getElem?_eq_some_iff.1 hh).1
   ·exact CRep.lt hr i hi
 | .pt false t e,some y,cs,f,h => by obtain ⟨v,inner,fr,rfl,hr,h0,_⟩:=h; exact fun i hi => absurd hi (h0 i)
 | .mp true _ _,none,cs,f,h => fun i hi => absurd hi (h.2 i)
 | .mp false _ _,none,cs,f,h => fun i hi => absurd hi (h.2 i)
 | .mp true _ _,some _,cs,f,h => by
   obtain ⟨g,es,clk,rfl,hg,_,he⟩:=h
   intro i hi
   rw [(he i).1 hi]
   exact (Array.getElem?_eq_some_iff.1 hg).1
 | .mp false _ _,some _,cs,f,h => fun i hi => absurd hi (h.1 i)
 | .fn _ c,x,cs,f,h => by
   obtain ⟨vs,rfl,hr⟩:=h
   exact CRep.lt (s:=c) hr
theorem RRep.none_ {α:Type} {R:α→List Value→Fp→Prop} (hR:∀ x cs f,R x cs f→∀ i,¬ f i) :
 ∀ {xs:List α} {cs:List Value} {f:Fp},RRep R xs cs f→∀ i,¬ f i
 | [],cs,f,h => h.2
 | x :: xs,cs,f,h => by
   obtain ⟨c1,c2,f1,f2,rfl,hf,_,h1,h2⟩:=h
   intro i hi
   rcases (hf i).1 hi with hi | hi
   ·exact hR _ _ _ h1 i hi
   ·exact RRep.none_ hR h2 i hi
theorem CRep.noOwn {Z:Fp} {w:World}:∀ {s:Sh} {x:s.den} {cs:List Value} {f:Fp},s.noOwn=true→CRep Z w s x cs f→∀ i,¬ f i
 | .int k,x,cs,f,_,h => h.2
 | .bool,x,cs,f,_,h => h.2
 | .str,x,cs,f,_,h => h.2
 | .unit,x,cs,f,_,h => h.2
 | .any,x,cs,f,_,h => h.2
 | .raw,x,cs,f,_,h => h.2
 | .gh true,x,cs,f,hn,h => by simp [Sh.noOwn] at hn
 | .gh false,x,cs,f,_,h => h.2.1
 | .pair a b,x,cs,f,hn,h => by
   obtain ⟨c1,c2,f1,f2,rfl,he,_,h1,h2⟩:=h
   simp only [Sh.noOwn,Bool.and_eq_true] at hn
   intro i hi
   rcases (he i).1 hi with hi | hi
   ·exact CRep.noOwn hn.1 h1 i hi
   ·exact CRep.noOwn hn.2 h2 i hi
 | .st s,x,cs,f,hn,h => CRep.noOwn (s:=s) hn h
 | .sl true t e,xs,cs,f,hn,h => by simp [Sh.noOwn] at hn
 | .sl false t e,xs,cs,f,hn,h => by obtain ⟨v,inner,fr,rfl,hr,h0,_⟩:=h; exact h0
 | .pt true _ _,x,cs,f,hn,h => by simp [Sh.noOwn] at hn
 | .pt false _ _,none,cs,f,_,h => h.2
 | .pt false t e,some y,cs,f,hn,h => by obtain ⟨v,inner,fr,rfl,hr,h0,_⟩:=h; exact h0
 | .mp true _ _,none,cs,f,_,h => h.2
 | .mp false _ _,none,cs,f,_,h => h.2
 | .mp true _ _,some _,cs,f,hn,h => by simp [Sh.noOwn] at hn
 | .mp false _ _,some _,cs,f,hn,h => h.1
 | .fn _ c,x,cs,f,hn,h => by
   obtain ⟨vs,rfl,hr⟩:=h
   exact CRep.noOwn (s:=c) hn hr
theorem CRep.ext {Z:Fp} {w:World} {s:Sh} {x:s.den} {cs:List Value} {f f':Fp} (he:∀ i,f' i↔f i) (h:CRep Z w s x cs f):CRep Z w s x cs f':=by
 have:f'=f:=funext fun i => propext (he i)
 rw [this]; exact h
end Go.Vm
