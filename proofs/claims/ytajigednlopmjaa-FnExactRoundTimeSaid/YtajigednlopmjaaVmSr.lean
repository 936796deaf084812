/- A region that sorts an owned row: load, the interface, the function, the call. -/
import Derived.Test.YtajigednlopmjaaVmSo
set_option linter.unusedVariables false
set_option linter.unusedSimpArgs false
namespace Go.Vm
open Go
open Go.Sort (SWO)
def SortC (P:Program) (fs t te sz:Nat) (res:(Nat→Nat→Bool)→Nat→Array Nat):Prop :=
 ∀ (w1:World) (B:Option Nat) (A:Option Addr) (n cp:Nat) (c:Nat→List Value) (rest:List Value) (lt:Nat→Nat→Bool) (g:Nat) (lb:Array Value),n < 2305843009213693952 →
   (∀ b,B=some b→A=some ⟨b,0,none⟩∧b < w1.heap.size∧w1.heap[b]?=some (.cells (rowC c (Array.range n) ++ rest).toArray te (0,0))) → (B=none→n=0) → (∀ q,(c q).length=sz) → (∀ q,∀ v ∈ c q,v.oneCell'=true)→SWO lt →
   (∀ X i j,inX X i j→GLess P (.func (.func g) #[] lb) (soFam w1 B te c rest n lt) X i j (lessF (soFam w1 B te c rest n lt) X i j)) →
   Calls P fs #[.iface t (.slice A n cp),.func (.func g) #[] lb] w1 fun e w' => e=.returned (.tuple #[])∧∃ f',(soFam w1 B te c rest n lt).J (res lt n) w' f'∧Grow (fun i => i < w1.heap.size) w1 w'
def sortR {α:Type} (res:(Nat→Nat→Bool)→Nat→Array Nat) (d:α) (L:α→α→Bool) (xs:List α):List α:=getX d xs (res (fun p q => L (xs.getD p d) (xs.getD q d)) xs.length)
def anyS:SV:=.val .any ()
def sortS (S:SS) (k t te:Nat) (e:Sh) (ys:List e.den) (d0 d1 d2 d3:Nat):SS:=((((S.put k (.val (.pt true t (.sl true te e)) (some ys))).put d0 anyS).put d1 anyS).put d2 anyS).put d3 anyS
def sortB (N:Fr) (k:Nat) (ds cl:List Nat):Bool:=ds.all fun d => Nat.blt d N.n && !(N.keep.any (Nat.beq d)) && !(Nat.beq d k) && cl.all fun s => !(Nat.beq s d)
theorem RelX.any {Z:Fp} {F:Nat→Fp} {w0:World} {Wr Zi:Fp} {N:Fr} {S:SS} {a:Act} {w:World} (h:RelX Z F w0 Wr Zi N S a w) {d:Nat} (v:Value) (hd:d < N.n) (hk:d ∉ N.keep):∃ F',RelX Z F' w0 Wr Zi N (S.put d anyS) (a.put (some d) v) w :=
 ⟨_,h.putR (d:=d) (sv:=anyS) (v:=v) (by rw [h.tsize]; exact hd) (fun hm => absurd hm hk) ⟨[.bool true],⟨⟨_,rfl,rfl⟩,fun _ => id⟩,trivial⟩ rfl rfl⟩
theorem wp_sort {P:Program} {T:Tbl} (hT:TOk P T) {w0:World} {Wr Zi:Fp} {N:Fr} {S:SS} {a:Act} {w:World} {Q:Exit→Act→World→Prop} {id:Nat} {ops:Array Oper} {o0 o1 o2 o3:Oper} {fs t te k d0 d1 d2 d3 g:Nat} {e:Sh} {ti:TI} {res:(Nat→Nat→Bool)→Nat→Array Nat}
 (hs:SortC P fs t te e.size res) {cap:Array Operand} {tys:Array TypeId} {cl:List Nat} {xs:List e.den} (h:Rel w0 Wr Zi N S a w) (hops:ops.toList=[o0,o1,o2,o3])
 (e0:o0.op=.load t (.tmp k)) (e1:o0.dst=some d0) (e2:o0.guard=none) (e3:o1.op=.makeInterface t (.tmp d0)) (e4:o1.dst=some d1) (e5:o1.guard=none) (e6:o2.op=.makeFunc (.func g) #[] cap) (e7:o2.dst=some d2) (e8:o2.guard=none)
 (e9:o3.op=.call { callee:=.value (.func fs),args:=#[.tmp d1,.tmp d2],argTypes:=tys }) (e10:o3.dst=some d3) (e11:o3.guard=none) (hcap:cap.toList=cl.map Operand.tmp)
 (hb:sortB N k [d0,d1,d2,d3] cl=true) (hdd:(!(Nat.beq d0 d1) && !(Nat.beq d0 d2) && !(Nat.beq d1 d2))=true) (hg:S.get k=some (.val (.pt true t (.sl true te e)) (some xs))) (hti:T.find t=some ti) (hfit:fits ti (.sl true te e)=true) (hcon:P.concrete t=true) (hlen:xs.length < 2305843009213693952)
 (hfs : ∃ fn, P.funcs[fs]? = some fn ∧ (fn.name == "runtime.NumGoroutine") = false ∧ fn.body.isSome = true) (hfn : ∃ fn, P.funcs[g]? = some fn ∧ (fn.name == "runtime.NumGoroutine") = false ∧ fn.body.isSome = true)
 {L:e.den→e.den→Bool} (hL:SWO L)
 (hcl:∀ ys:List e.den,ys.length=xs.length→∃ caps cs,capsO T (S.put k (.val (.pt true t (.sl true te e)) (some ys))) cap.toList=some caps∧capsV (S.put k (.val (.pt true t (.sl true te e)) (some ys))) caps=some cs ∧
  ∀ i j:Nat,i < ys.length→j < ys.length→PCall P g (⟨.int .i64,(i:Int)⟩ :: ⟨.int .i64,(j:Int)⟩ :: cs) [⟨.bool,L (ys.getD i e.dflt) (ys.getD j e.dflt)⟩])
 (hQ:∀ a' w',Rel w0 Wr Zi N (sortS S k t te e (sortR res e.dflt L xs) d0 d1 d2 d3) a' w'→Q .normal a' w'):(Code.region id ops false).wp P Q a w:=by
 obtain ⟨Z,F,hX⟩:=h
 obtain ⟨vk,B,A,cp,c,rest,hvk,hr⟩:=so_row hX hg
 obtain ⟨gb,rfl,hcell,hBg⟩:=hr.cell
 have hbb:=fun d hd => List.all_eq_true.1 hb d hd
 simp only [Bool.and_eq_true] at hbb
 have hlt:∀ d ∈ [d0,d1,d2,d3],d < N.n∧d ∉ N.keep∧d≠k∧∀ s ∈ cl,s≠d:=fun d hd => by
  obtain ⟨⟨⟨q1,q2⟩,q3⟩,q4⟩:=hbb d hd
  refine ⟨by simpa [Nat.blt_eq] using q1,fun hm => ?_,beq_ne q3,fun s hs => beq_ne (List.all_eq_true.1 q4 s hs)⟩
  have:N.keep.any (Nat.beq d)=true:=List.any_eq_true.2 ⟨d,hm,by simp⟩
  rw [this] at q2
  cases q2
 obtain ⟨l0,k0,n0,c0⟩:=hlt d0 (by simp)
 obtain ⟨l1,k1,n1,c1⟩:=hlt d1 (by simp)
 obtain ⟨l2,k2,n2,c2⟩:=hlt d2 (by simp)
 obtain ⟨l3,k3,n3,c3⟩:=hlt d3 (by simp)
 simp only [Bool.and_eq_true] at hdd
 have n01:d0≠d1:=beq_ne hdd.1.1
 have n02:d0≠d2:=beq_ne hdd.1.2
 have n12:d1≠d2:=beq_ne hdd.2
 have hts:=hX.tsize
 obtain ⟨v0,hload,hv0⟩:=load_run (P:=P) hT hti (s:=.sl true te e) hfit (cs:=[.slice A xs.length cp]) rfl (ad:=⟨gb,0,none⟩) (w:=w) (fun j u hu => by
  have hj:=(List.getElem?_eq_some_iff.1 hu).1
  have:j=0:=by simpa using hj
  subst this
  have:u=.slice A xs.length cp:=by simpa using hu.symm
  subst this
  simp [Addr.add,World.cell?,hcell])
 obtain rfl:v0=.slice A xs.length cp:=by simpa [ValOf] using hv0.symm
 refine wp_region_list ?_
 rw [hops]
 refine wpList_step fun K hK => ?_
 rw [if_pos (by simp [Region.wanted,e2])]
 unfold Oper.wp
 have hr0:(execOp a.eval o0).run P w=.ok (.value (.slice A xs.length cp)) w:=by
  simp [execOp,e0,eval_of hvk,hload]
 rw [hr0]
 refine hK _ _ ?_
 rw [e1]
 refine wpList_step fun K hK => ?_
 rw [if_pos (by simp [Region.wanted,e5])]
 unfold Oper.wp
 have ht0:(a.put (some d0) (.slice A xs.length cp)).tmps[d0]?=some (.slice A xs.length cp):=put_same a d0 _ (by rw [hts]; exact l0)
 have hr1:(execOp (a.put (some d0) (.slice A xs.length cp)).eval o1).run P w=.ok (.value (.iface t (.slice A xs.length cp))) w:=by
  simp [execOp,e3,eval_of ht0,run_makeInterface _ t _ hcon]
 rw [hr1]
 refine hK _ _ ?_
 rw [e4]
 refine wpList_step fun K hK => ?_
 rw [if_pos (by simp [Region.wanted,e8])]
 unfold Oper.wp
 have hsame:∀ s,s≠d0→s≠d1 → ((a.put (some d0) (.slice A xs.length cp)).put (some d1) (.iface t (.slice A xs.length cp))).eval (.tmp s)=a.eval (.tmp s):=fun s h0 h1 => by
  rw [eval_tmp,eval_tmp,Array.getD_eq_getD_getElem?,Array.getD_eq_getD_getElem?,put_other _ _ _ _ h1,put_other _ _ _ _ h0]
 have hvals:cap.map ((a.put (some d0) (.slice A xs.length cp)).put (some d1) (.iface t (.slice A xs.length cp))).eval = (cap.toList.map a.eval).toArray:=by
  apply Array.toList_inj.1
  simp only [Array.toList_map]
  rw [hcap,List.map_map,List.map_map]
  exact List.map_congr_left fun s hs => hsame s (c0 s hs) (c1 s hs)
 have hr2:(execOp ((a.put (some d0) (.slice A xs.length cp)).put (some d1) (.iface t (.slice A xs.length cp))).eval o2).run P w=.ok (.value (.func (.func g) #[] (cap.toList.map a.eval).toArray)) w:=by
  simp [execOp,e6,Instr.makeFunc,hvals]
 rw [hr2]
 refine hK _ _ ?_
 rw [e7]
 refine wpList_step fun K hK => ?_
 rw [if_pos (by simp [Region.wanted,e11])]
 unfold Oper.wp
 obtain ⟨a2,ha2⟩:∃ a2,a2 = ((a.put (some d0) (.slice A xs.length cp)).put (some d1) (.iface t (.slice A xs.length cp))).put (some d2) (.func (.func g) #[] (cap.toList.map a.eval).toArray):=⟨_,rfl⟩
 rw [← ha2]
 have g1:a2.eval (.tmp d1)=.iface t (.slice A xs.length cp):=by
  rw [ha2,eval_of]
  rw [put_other _ _ _ _ n12,put_same _ _ _ (by simp [Act.put,hts,l1])]
 have g2:a2.eval (.tmp d2)=.func (.func g) #[] (cap.toList.map a.eval).toArray:=by
  rw [ha2,eval_of]
  rw [put_same _ _ _ (by simp [Act.put,hts,l2])]
 obtain ⟨fn,hfn1,hfn2,hfn3⟩:=hfs
 have hr3:(execOp a2.eval o3).run P w=.ok (.enter fs #[.iface t (.slice A xs.length cp),.func (.func g) #[] (cap.toList.map a.eval).toArray]) w:=by
  have hname' : ¬ fn.name = "runtime.NumGoroutine" := by simpa using hfn2
  have hbody':¬ fn.body=none:=by intro e; rw [e] at hfn3; cases hfn3
  have hev:a2.eval (.func fs)=.func (.func fs) #[] #[]:=rfl
  simp [execOp,e9,resolve,hev,g1,g2,Deferred.ofValue,invoke,callFunc,hfn1,hname',hbody']
 rw [hr3,Oper.upon_enter]
 have hlt:SWO (fun p q => L (xs.getD p e.dflt) (xs.getD q e.dflt)):=⟨fun x => hL.irrefl _,fun x y z => hL.trans _ _ _,fun x y z => hL.ntrans _ _ _⟩
 have hless:=so_less (P:=P) (T:=T) (lt:=fun p q => L (xs.getD p e.dflt) (xs.getD q e.dflt)) hX hvk hr (ops:=cap.toList) hfn (fun X hXp => by
  have hxl:(getX e.dflt xs X).length=xs.length:=by unfold getX; simp [perm_size hXp]
  obtain ⟨caps,cs,q1,q2,q3⟩:=hcl (getX e.dflt xs X) hxl
  refine ⟨caps,cs,q1,q2,fun i j hi hj => ?_⟩
  have hsz:=perm_size hXp
  have hget:∀ i,i < X.size → (getX e.dflt xs X).getD i e.dflt=xs.getD X[i]! e.dflt:=fun i hi => by
   unfold getX
   simp [List.getD_eq_getElem?_getD,hi]
  have:=q3 i j (by omega) (by omega)
  rw [hget i hi,hget j hj] at this
  exact this)
 have hc:=hs w B A xs.length cp c rest _ g _ hlen (fun b hb' => ⟨(hr.blk b hb').1,hX.lt k b (hr.blk b hb').2.1,(hr.blk b hb').2.2⟩) hr.nil hr.sz hr.one hlt hless
 refine hc.mono ?_
 rintro e' w' ⟨rfl,f',hJ,hgr⟩
 refine hK _ _ (hQ _ _ ?_)
 rw [e10]
 have h1:=so_turn hX hvk hr hJ hgr.os hgr.tape hgr.output
 obtain ⟨F1,h2⟩:=h1.any (.slice A xs.length cp) l0 k0
 obtain ⟨F2,h3⟩:=h2.any (.iface t (.slice A xs.length cp)) l1 k1
 obtain ⟨F3,h4⟩:=h3.any (.func (.func g) #[] (cap.toList.map a.eval).toArray) l2 k2
 obtain ⟨F4,h5⟩:=h4.any (.tuple #[]) l3 k3
 rw [ha2]
 exact ⟨_,_,h5⟩
def ofLess {α:Type} (f:List α→Int→Int→Option Bool) (a b:α):Bool:=(f [a,b] 0 1).getD false
def LessOk {α:Type} (d:α) (f:List α→Int→Int→Option Bool):Prop:=SWO (ofLess f)∧∀ (ys:List α) (i j:Nat),i < ys.length→j < ys.length→f ys (i:Int) (j:Int)=some (ofLess f (ys.getD i d) (ys.getD j d))
def pdqR (lt:Nat→Nat→Bool) (n:Nat):Array Nat:=Go.Sort.pdq lt (Array.range n) 0 n (Go.Sort.bitsLen n) true true
theorem pdqR_ok {lt:Nat→Nat→Bool} (h:SWO lt) (n:Nat):(pdqR lt n).toList.Perm (List.range n)∧Go.Sort.SortedIn lt 0 n (pdqR lt n):=by
 have hs:(Array.range n).size=n:=Array.size_range
 have h1:=Go.Sort.pdq_sorts lt h (Array.range n) 0 n (Go.Sort.bitsLen n) true true (Nat.zero_le _) (by omega) (.inl rfl)
 refine ⟨?_,h1.2⟩
 have h2:=h1.1.2.2
 have h3:=h1.1.1
 have e1:∀ (Y:Array Nat),Y.size=n→Y.extract 0 n=Y:=fun Y hY => by subst hY; simp
 rw [e1 _ (by omega),e1 _ hs] at h2
 rw [Array.toList_range] at h2
 exact h2
theorem sortR_ok {α:Type} {d:α} {L:α→α→Bool} (hL:SWO L) (xs:List α):(sortR pdqR d L xs).Perm xs ∧ (sortR pdqR d L xs).Pairwise (fun a b => L b a=false):=by
 have hlt:SWO (fun p q => L (xs.getD p d) (xs.getD q d)):=⟨fun x => hL.irrefl _,fun x y z => hL.trans _ _ _,fun x y z => hL.ntrans _ _ _⟩
 obtain ⟨h1,h2⟩:=pdqR_ok hlt xs.length
 have hx:(List.range xs.length).map (fun q => xs.getD q d)=xs:=by
  apply List.ext_getElem
  ·simp
  ·intro i h1 h2
   simp at h1
   simp [List.getD_eq_getElem?_getD,h1]
 constructor
 ·unfold sortR getX
  have:=h1.map (fun q => xs.getD q d)
  rw [hx] at this
  exact this
 ·unfold sortR getX
  rw [List.pairwise_map,List.pairwise_iff_getElem]
  intro i j hi hj hij
  have hs:(pdqR (fun p q => L (xs.getD p d) (xs.getD q d)) xs.length).toList.length=xs.length:=by rw [h1.length_eq]; simp
  have:=h2 i j (Nat.zero_le _) hij (by omega)
  simp only [Array.length_toList] at hs
  rw [getElem!_pos _ i (by omega),getElem!_pos _ j (by omega)] at this
  simpa using this
section
variable {P:Program} {T:Tbl}
theorem wp_sort_seq (hT:TOk P T) {w0:World} {Wr Zi:Fp} {N:Fr} {S:SS} {a:Act} {w:World} {Q:Exit→Act→World→Prop} {id:Nat} {ops:Array Oper} {rest:Code} {o0 o1 o2 o3:Oper} {fs t te k d0 d1 d2 d3 g:Nat} {e:Sh} {ti:TI} {res:(Nat→Nat→Bool)→Nat→Array Nat}
 (hs:SortC P fs t te e.size res) {cap:Array Operand} {tys:Array TypeId} {cl:List Nat} {xs:List e.den} (h:Rel w0 Wr Zi N S a w) (hops:ops.toList=[o0,o1,o2,o3])
 (e0:o0.op=.load t (.tmp k)) (e1:o0.dst=some d0) (e2:o0.guard=none) (e3:o1.op=.makeInterface t (.tmp d0)) (e4:o1.dst=some d1) (e5:o1.guard=none) (e6:o2.op=.makeFunc (.func g) #[] cap) (e7:o2.dst=some d2) (e8:o2.guard=none)
 (e9:o3.op=.call { callee:=.value (.func fs),args:=#[.tmp d1,.tmp d2],argTypes:=tys }) (e10:o3.dst=some d3) (e11:o3.guard=none) (hcap:cap.toList=cl.map Operand.tmp)
 (hb:sortB N k [d0,d1,d2,d3] cl=true) (hdd:(!(Nat.beq d0 d1) && !(Nat.beq d0 d2) && !(Nat.beq d1 d2))=true) (hg:S.get k=some (.val (.pt true t (.sl true te e)) (some xs))) (hti:T.find t=some ti) (hfit:fits ti (.sl true te e)=true) (hcon:P.concrete t=true) (hlen:xs.length < 2305843009213693952)
 (hfs : ∃ fn, P.funcs[fs]? = some fn ∧ (fn.name == "runtime.NumGoroutine") = false ∧ fn.body.isSome = true) (hfn : ∃ fn, P.funcs[g]? = some fn ∧ (fn.name == "runtime.NumGoroutine") = false ∧ fn.body.isSome = true)
 {f:List e.den→Int→Int→Option Bool} (hL:LessOk e.dflt f)
 (hcl:∀ ys:List e.den,∃ caps cs,capsO T (S.put k (.val (.pt true t (.sl true te e)) (some ys))) cap.toList=some caps∧capsV (S.put k (.val (.pt true t (.sl true te e)) (some ys))) caps=some cs ∧
  ∀ (i j:Int) (r:Bool),f ys i j=some r→PCall P g (⟨.int .i64,i⟩ :: ⟨.int .i64,j⟩ :: cs) [⟨.bool,r⟩])
 (hrest:∀ a' w',Rel w0 Wr Zi N (sortS S k t te e (sortR res e.dflt (ofLess f) xs) d0 d1 d2 d3) a' w'→rest.wp P Q a' w'):((Code.region id ops false).seq rest).wp P Q a w :=
 wp_seq (wp_sort hT hs h hops e0 e1 e2 e3 e4 e5 e6 e7 e8 e9 e10 e11 hcap hb hdd hg hti hfit hcon hlen hfs hfn hL.1 (fun ys hy => by
  obtain ⟨caps,cs,q1,q2,q3⟩:=hcl ys
  exact ⟨caps,cs,q1,q2,fun i j hi hj => q3 _ _ _ (hL.2 ys i j hi hj)⟩) hrest)
end
end Go.Vm
