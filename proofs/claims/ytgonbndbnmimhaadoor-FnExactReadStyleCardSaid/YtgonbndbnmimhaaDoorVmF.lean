/- Writing a slot, taking what a slot owns; types; operands. -/
import Derived.Test.YtgonbndbnmimhaaDoorVmE
import Derived.Test.YtgonbndbnmimhaaDoorVmD
set_option linter.unusedVariables false
set_option linter.unusedSimpArgs false
namespace Go.Vm
open Go
def Held (Z:Fp) (F:Nat→Fp) (w0:World) (Wr:Fp) (w:World) (f:Fp):Prop :=
 ∀ i,f i→i < w.heap.size∧¬ Z i ∧ (∀ s,¬ F s i) ∧ (Wr i∨w0.heap.size≤i)
theorem Held.none {Z:Fp} {F:Nat→Fp} {w0:World} {Wr:Fp} {w:World}:Held Z F w0 Wr w (fun _ => False):=fun i h => h.elim
theorem RelX.putG {Z:Fp} {F:Nat→Fp} {w0:World} {Wr Zi:Fp} {N:Fr} {S:SS} {a:Act} {w:World} (h:RelX Z F w0 Wr Zi N S a w) {d:Nat} {sv:SV} {v:Value} {w':World} {f U:Fp}
 (hd:d < a.tmps.size) (hpin:d ∈ N.keep→a.tmps[d]?=some v) (hg:Grow U w w')
 (hU:∀ i,U i→i < w.heap.size→¬ Z i ∧ (∀ s,s≠d→¬ F s i) ∧ (Wr i∨w0.heap.size≤i))
 (hf:∀ i,f i→i < w'.heap.size ∧ (w.heap.size≤i ∨ (¬ Z i ∧ (∀ s,s≠d→¬ F s i) ∧ (Wr i∨w0.heap.size≤i))))
 (hrep:sv.rep Z (S.put d sv) w' (a.put (some d) v).tmps v f) :
 RelX Z (fun s => if s=d then f else F s) w0 Wr Zi N (S.put d sv) (a.put (some d) v) w':=by
 have hsame:∀ i,i < w.heap.size → (Z i∨∃ s,s≠d∧F s i)→w'.heap[i]?=w.heap[i]?:=by
  intro i hi hz
  refine hg.block i hi (fun hu => ?_)
  have:=hU i hu hi
  rcases hz with hz | ⟨s,hs,hz⟩
  ·exact this.1 hz
  ·exact this.2.1 s hs hz
 refine ⟨by simp [Act.put,h.tsize],fun k hk => ?_,uniq_put h.uniq,fun i hi => Nat.lt_of_lt_of_le (h.zlt i hi) hg.size,h.zin,?_,?_,?_,?_,?_,h.defers,?_⟩
 ·by_cases e:k=d
  ·subst e
   rw [put_same a k v hd,← hpin hk]
   exact h.pins k hk
  ·rw [put_other a d k v e]; exact h.pins k hk
 ·intro s i hi
  by_cases hs:s=d
  ·simp only [hs,if_true] at hi
   rcases (hf i hi).2 with h' | h'
   ·exact .inr (Nat.le_trans h.grow.size h')
   ·exact h'.2.2
  ·simp only [hs,if_false] at hi; exact h.wr s i hi
 ·intro s i hi hz
  by_cases hs:s=d
  ·simp only [hs,if_true] at hi
   rcases (hf i hi).2 with h' | h'
   ·have:=h.zlt i hz; omega
   ·exact h'.1 hz
  ·simp only [hs,if_false] at hi; exact h.nz s i hi hz
 ·intro s i hi
  by_cases hs:s=d
  ·simp only [hs,if_true] at hi; exact (hf i hi).1
  ·simp only [hs,if_false] at hi; exact Nat.lt_of_lt_of_le (h.lt s i hi) hg.size
 ·intro s t i hs ht
  by_cases e1:s=d <;> by_cases e2:t=d <;> simp only [e1,e2,if_true,if_false] at hs ht
  ·rw [e1,e2]
  ·exfalso
   rcases (hf i hs).2 with h' | h'
   ·have:=h.lt t i ht; omega
   ·exact h'.2.1 t e2 ht
  ·exfalso
   rcases (hf i ht).2 with h' | h'
   ·have:=h.lt s i hs; omega
   ·exact h'.2.1 s e1 hs
  ·exact h.apart s t i hs ht
 ·exact ⟨hg.os.trans h.grow.os,hg.tape.trans h.grow.tape,hg.output.trans h.grow.output,Nat.le_trans h.grow.size hg.size,fun i hi hn => by
   rw [hg.block i (Nat.lt_of_lt_of_le hi h.grow.size) (fun hu => by
    rcases (hU i hu (Nat.lt_of_lt_of_le hi h.grow.size)).2.2 with h' | h'
    ·exact hn h'
    ·omega)]
   exact h.grow.block i hi hn⟩
 ·intro s sv' hm
  rcases SS.mem_put.1 hm with he | ⟨hm,hne,hr,ht⟩
  ·simp only [Prod.mk.injEq] at he
   obtain ⟨rfl,rfl⟩:=he
   refine ⟨v,put_same a s v hd,?_⟩
   simp only [if_true]
   exact hrep
  ·obtain ⟨v',hv',hrep'⟩:=h.rep s sv' hm
   simp only at hne hr ht
   refine ⟨v',by rw [put_other a d s v hne]; exact hv',?_⟩
   simp only [hne,if_false]
   refine SV.rep_turn (Z:=Z) (fun i hi => hi) (fun i hi => hsame i (h.zlt i hi) (.inl hi)) (fun i hi => hsame i (h.lt s i hi) (.inr ⟨s,hne,hi⟩)) ?_ ?_ hrep'
   ·intro k hk s1 x1 vh hh
    have hkd:k≠d:=fun e => by rw [e,hr] at hk; cases hk
    refine ⟨⟨SS.mem_put.2 (.inr ⟨hh.get,hkd,rfl,rfl⟩),by rw [put_other a d k v hkd]; exact hh.tmp⟩,fun hs => ?_⟩
    obtain ⟨v1,hv1,hr1⟩:=h.rep k _ hh.get
    rw [hh.tmp] at hv1
    obtain rfl:vh=v1:=by simpa using hv1
    exact ⟨F k,root_cells hs hr1,fun i hi => hsame i (h.lt k i hi) (.inr ⟨k,hkd,hi⟩)⟩
   ·intro g hg'
    refine put_other a d g v (fun e => ?_)
    rw [e,ht] at hg'; cases hg'
theorem RelX.putR {Z:Fp} {F:Nat→Fp} {w0:World} {Wr Zi:Fp} {N:Fr} {S:SS} {a:Act} {w:World} (h:RelX Z F w0 Wr Zi N S a w) {d:Nat} {sv:SV} {v:Value}
 (hd:d < a.tmps.size) (hpin:d ∈ N.keep→a.tmps[d]?=some v) (hrep:sv.rep Z S w a.tmps v (fun _ => False)) (hr:sv.refs d=false) (ht:sv.tests d=false) :
 RelX Z (fun s => if s=d then (fun _ => False) else F s) w0 Wr Zi N (S.put d sv) (a.put (some d) v) w:=by
 refine h.putG (U:=fun _ => False) hd hpin (Grow.refl _ _) (fun i hi => hi.elim) (fun i hi => hi.elim) ?_
 refine SV.rep_turn (Z:=Z) (fun i hi => hi) (fun i hi => rfl) (fun i hi => rfl) ?_ ?_ hrep
 ·intro k hk s1 x1 vh hh
  have hkd:k≠d:=fun e => by rw [e,hr] at hk; cases hk
  refine ⟨⟨SS.mem_put.2 (.inr ⟨hh.get,hkd,rfl,rfl⟩),by rw [put_other a d k v hkd]; exact hh.tmp⟩,fun hs => ?_⟩
  obtain ⟨v1,hv1,hr1⟩:=h.rep k _ hh.get
  rw [hh.tmp] at hv1
  obtain rfl:vh=v1:=by simpa using hv1
  exact ⟨F k,root_cells hs hr1,fun i hi => rfl⟩
 ·intro g hg'
  refine put_other a d g v (fun e => ?_)
  rw [e,ht] at hg'; cases hg'
theorem RelX.take {Z:Fp} {F:Nat→Fp} {w0:World} {Wr Zi:Fp} {N:Fr} {S:SS} {a:Act} {w:World} (h:RelX Z F w0 Wr Zi N S a w) {s:Nat} {sh:Sh} {x:sh.den} (hm:(s,SV.val sh x) ∈ S) :
 ∃ v,a.tmps[s]?=some v∧VRep Z w sh x v (F s)∧RelX Z (fun t => if t=s then (fun _ => False) else F t) w0 Wr Zi N (S.kill s) a w ∧
   Held Z (fun t => if t=s then (fun _ => False) else F t) w0 Wr w (F s):=by
 obtain ⟨v,hv,hr⟩:=h.rep s _ hm
 refine ⟨v,hv,hr,⟨h.tsize,h.pins,fun k v1 v2 h1 h2 => h.uniq k v1 v2 (SS.mem_kill.1 h1).1 (SS.mem_kill.1 h2).1,h.zlt,h.zin,?_,?_,?_,?_,h.grow,h.defers,?_⟩,?_⟩
 ·intro t i hi
  by_cases e:t=s
  ·simp [e] at hi
  ·simp only [e,if_false] at hi; exact h.wr t i hi
 ·intro t i hi
  by_cases e:t=s
  ·simp [e] at hi
  ·simp only [e,if_false] at hi; exact h.nz t i hi
 ·intro t i hi
  by_cases e:t=s
  ·simp [e] at hi
  ·simp only [e,if_false] at hi; exact h.lt t i hi
 ·intro t u i hi hi2
  by_cases e:t=s
  ·simp [e] at hi
  ·by_cases e2:u=s
   ·simp [e2] at hi2
   ·simp only [e,if_false] at hi; simp only [e2,if_false] at hi2; exact h.apart t u i hi hi2
 ·intro t sv hm'
  obtain ⟨hm',hne,hrf,hts⟩:=SS.mem_kill.1 hm'
  simp only at hne hrf hts
  obtain ⟨v',hv',hr'⟩:=h.rep t sv hm'
  refine ⟨v',hv',?_⟩
  simp only [hne,if_false]
  refine SV.rep_turn (Z:=Z) (fun i hi => hi) (fun i hi => rfl) (fun i hi => rfl) ?_ (fun g hg => rfl) hr'
  intro k hk s1 x1 vh hh
  have hkd:k≠s:=fun e => by rw [e,hrf] at hk; cases hk
  refine ⟨⟨SS.mem_kill.2 ⟨hh.get,hkd,rfl,rfl⟩,hh.tmp⟩,fun hs => ?_⟩
  obtain ⟨v1,hv1,hr1⟩:=h.rep k _ hh.get
  rw [hh.tmp] at hv1
  obtain rfl:vh=v1:=by simpa using hv1
  exact ⟨F k,root_cells hs hr1,fun i hi => rfl⟩
 ·intro i hi
  refine ⟨h.lt s i hi,h.nz s i hi,fun t ht => ?_,h.wr s i hi⟩
  by_cases e:t=s
  ·simp [e] at ht
  ·simp only [e,if_false] at ht; exact e (h.apart t s i ht hi)
inductive KD where
 | int (k:IntKind) | bool | string | slice (e:Nat) | ptr (e:Nat) | struct (fs:List (Nat × Nat)) | array (n e:Nat) | map (k e:Nat) | other
def kdOf:TypeDesc→KD
 | .int k => .int k
 | .bool => .bool
 | .string => .string
 | .slice e => .slice e
 | .pointer e => .ptr e
 | .struct fs => .struct (fs.toList.map fun f => (f.type,f.offset))
 | .array n e => .array n e
 | .map k e => .map k e
 | _ => .other
def Sh.zeros:Sh→List Value
 | .int k => [.int k 0]
 | .bool => [.bool false]
 | .str => [.string ⟨#[]⟩]
 | .unit => []
 | .any => [.int .i64 0]
 | .raw => [.nilFunc]
 | .gh _ => [.nilFunc]
 | .pair a b => a.zeros ++ b.zeros
 | .st f => f.zeros
 | .sl _ _ _ => [.slice none 0 0]
 | .pt _ _ _ => [.pointer none]
 | .mp _ _ _ => [.map none]
 | .fn f c => [.func (.func f) #[] c.zeros.toArray]
def Sh.zeroV (s:Sh):Value:=if s.isSt then .agg s.zeros.toArray else s.zeros.getD 0 undef
theorem Sh.zeros_rep (Z:Fp) (w:World):∀ s:Sh,CRep Z w s s.dflt s.zeros (fun _ => False)
 | .int k => ⟨rfl,fun _ => id⟩
 | .bool => ⟨rfl,fun _ => id⟩
 | .str => ⟨rfl,fun _ => id⟩
 | .unit => ⟨rfl,fun _ => id⟩
 | .any => ⟨⟨_,rfl,rfl⟩,fun _ => id⟩
 | .raw => ⟨⟨rfl,rfl⟩,fun _ => id⟩
 | .gh true => ⟨⟨rfl,rfl⟩,fun _ => id⟩
 | .gh false => ⟨⟨rfl,rfl⟩,fun _ => id,fun _ => False,fun _ h => h.elim,fun _ => id⟩
 | .pair a b => ⟨a.zeros,b.zeros,fun _ => False,fun _ => False,rfl,fun i => ⟨.inl,fun h => h.elim id id⟩,fun i h => h.elim,a.zeros_rep Z w,b.zeros_rep Z w⟩
 | .st f => f.zeros_rep Z w
 | .sl true t e => ⟨_,[],fun _ => False,rfl,⟨rfl,fun _ => id⟩,⟨by simp [Sh.dflt],.inl ⟨rfl,rfl⟩⟩,fun i => ⟨False.elim,fun h => h.elim (fun h => by simp [Value.ownBlock] at h) id⟩,fun i h => by simp [Value.ownBlock] at h⟩
 | .sl false t e => ⟨_,[],fun _ => False,rfl,⟨rfl,fun _ => id⟩,fun _ => id,fun _ => id,none,0,rfl,Nat.le_refl _,by omega,fun h => by simp [Sh.dflt] at h,fun j u hu => by simp at hu⟩
 | .pt true t e => ⟨rfl,fun _ => id⟩
 | .pt false t e => ⟨rfl,fun _ => id⟩
 | .mp true _ _ => ⟨rfl,fun _ => id⟩
 | .mp false _ _ => ⟨rfl,fun _ => id⟩
 | .fn f c => ⟨_,rfl,c.zeros_rep Z w⟩
structure TI where
 t:Nat
 kd:KD
 size:Nat
 bytes:Nat
 zero:Sh
abbrev Tbl:=List TI
def Tbl.find:Tbl→Nat→Option TI
 | [],_ => none
 | i :: r,t => if i.t=t then some i else Tbl.find r t
def TOk (P:Program) (T:Tbl):Prop :=
 (T.map fun i => ((P.underlying i.t).map kdOf,(P.info? i.t).map fun x => (x.size,x.bytes,x.zero)))=T.map fun i => (some i.kd,some (i.size,i.bytes,some i.zero.zeroV))
theorem Tbl.find_mem:∀ {T:Tbl} {t:Nat} {i:TI},T.find t=some i→i ∈ T∧i.t=t
 | [],t,i,h => by simp [Tbl.find] at h
 | j :: r,t,i,h => by
   by_cases e:j.t=t
   ·simp only [Tbl.find,e,if_true,Option.some.injEq] at h
    subst h; exact ⟨List.mem_cons_self,e⟩
   ·simp only [Tbl.find,e,if_false] at h
    obtain ⟨h1,h2⟩:=Tbl.find_mem h
    exact ⟨List.mem_cons_of_mem _ h1,h2⟩
structure TypeIs (P:Program) (i:TI):Prop where
 desc:∃ d,P.underlying i.t=some d∧kdOf d=i.kd
 info:∃ x,P.info? i.t=some x∧x.size=i.size∧x.bytes=i.bytes∧x.zero=some i.zero.zeroV
theorem TOk.find {P:Program} {T:Tbl} (h:TOk P T) {t:Nat} {i:TI} (hf:T.find t=some i):i.t=t∧TypeIs P i:=by
 obtain ⟨hm,ht⟩:=Tbl.find_mem hf
 refine ⟨ht,?_⟩
 have:=List.map_inj_left.1 h i hm
 simp only [Prod.mk.injEq] at this
 obtain ⟨h1,h2⟩:=this
 constructor
 ·obtain ⟨d,hd,hk⟩:=Option.map_eq_some_iff.1 h1
  exact ⟨d,hd,hk⟩
 ·obtain ⟨x,hx,hk⟩:=Option.map_eq_some_iff.1 h2
  simp only [Prod.mk.injEq] at hk
  exact ⟨x,hx,hk.1,hk.2.1,hk.2.2⟩
def Sh.isRoot:Sh→Bool
 | .sl true _ _ => true
 | .pt true _ _ => true
 | .mp true _ _ => true
 | _ => false
theorem Sh.isRoot_iff {s:Sh} (h:s.isRoot=true):IsRoot s:=by
 cases s with
 | sl o t e => cases o <;> simp_all [Sh.isRoot,IsRoot]
 | pt o t e => cases o <;> simp_all [Sh.isRoot,IsRoot]
 | mp o k v => cases o <;> simp_all [Sh.isRoot,IsRoot]
 | _ => simp [Sh.isRoot] at h
def nilSl:Sh→Option TV
 | .sl o t e => some ⟨.sl o t e,[]⟩
 | .st f => nilSl f
 | .pair _ b => nilSl b
 | _ => none
theorem nilSl_rep (Z:Fp) (w:World):∀ {s:Sh} {tv:TV},nilSl s=some tv→VRep Z w tv.sh tv.x (.slice none 0 0) (fun _ => False)
 | .sl o t e,tv,h => by cases h; exact ⟨_,Sh.zeros_rep Z w (.sl o t e),rfl⟩
 | .st f,tv,h => nilSl_rep Z w (s:=f) h
 | .pair _ b,tv,h => nilSl_rep Z w (s:=b) h
 | .int _,tv,h => by cases h
 | .bool,tv,h => by cases h
 | .str,tv,h => by cases h
 | .unit,tv,h => by cases h
 | .any,tv,h => by cases h
 | .raw,tv,h => by cases h
 | .gh _,tv,h => by cases h
 | .pt _ _ _,tv,h => by cases h
 | .mp _ _ _,tv,h => by cases h
 | .fn _ _,tv,h => by cases h
def cst (T:Tbl) (ty:Nat):Value→Option TV
 | .int k n => some ⟨.int k,n⟩
 | .bool b => some ⟨.bool,b⟩
 | .string s => some ⟨.str,s⟩
 | .slice none 0 0 => match T.find ty with
   | some i => nilSl i.zero
   | none => none
 | .pointer none => match T.find ty with
   | some i => match i.zero with
     | .pt o t e => some ⟨.pt o t e,none⟩
     | _ => none
   | none => none
 | .map none => match T.find ty with
   | some i => match i.zero with
     | .mp o k v => some ⟨.mp o k v,none⟩
     | _ => none
   | none => none
 | _ => none
theorem cst_rep {T:Tbl} {ty:Nat} {v:Value} {tv:TV} (h:cst T ty v=some tv) (Z:Fp) (w:World):VRep Z w tv.sh tv.x v (fun _ => False):=by
 unfold cst at h
 split at h
 ·cases h; exact ⟨_,⟨rfl,fun _ => id⟩,rfl⟩
 ·cases h; exact ⟨_,⟨rfl,fun _ => id⟩,rfl⟩
 ·cases h; exact ⟨_,⟨rfl,fun _ => id⟩,rfl⟩
 ·split at h
  ·exact nilSl_rep Z w h
  ·cases h
 ·split at h
  ·split at h
   ·cases h
    rename_i o t e _
    exact ⟨_,Sh.zeros_rep Z w (.pt o t e),rfl⟩
   ·cases h
  ·cases h
 ·split at h
  ·split at h
   ·cases h
    rename_i o k v _
    exact ⟨_,Sh.zeros_rep Z w (.mp o k v),rfl⟩
   ·cases h
  ·cases h
 ·cases h
def opd (T:Tbl) (S:SS) (ty:Nat):Operand→Option SV
 | .const v => (cst T ty v).map fun t => .val t.sh t.x
 | .tmp s => match S.get s with
   | some (.val sh x) => if sh.noOwn then some (.val sh x) else if sh.isRoot then some (.copy s []) else none
   | some (.copy h p) => some (.copy h p)
   | some (.addr h p) => some (.addr h p)
   | some (.clo f c) => some (.clo f c)
   | _ => none
 | .func f => some (.clo f [])
 | .global _ => none
theorem eval_tmp (a:Act) (s:Nat):a.eval (.tmp s)=a.tmps.getD s undef:=rfl
theorem eval_of {a:Act} {s:Nat} {v:Value} (h:a.tmps[s]?=some v):a.eval (.tmp s)=v:=by
 rw [eval_tmp,Array.getD_eq_getD_getElem?,h]; rfl
theorem VRep.noOwn {Z:Fp} {w:World} {s:Sh} {x:s.den} {v:Value} {f:Fp} (hn:s.noOwn=true) (h:VRep Z w s x v f):VRep Z w s x v (fun _ => False):=by
 obtain ⟨cs,hc,hv⟩:=h
 exact ⟨cs,CRep.ext (fun i => ⟨False.elim,CRep.noOwn hn hc i⟩) hc,hv⟩
theorem opd_rep {Z:Fp} {F:Nat→Fp} {w0:World} {Wr Zi:Fp} {N:Fr} {S:SS} {a:Act} {w:World} (h:RelX Z F w0 Wr Zi N S a w) {T:Tbl} {ty:Nat} {x:Operand} {sv:SV} (ho:opd T S ty x=some sv) :
 sv.rep Z S w a.tmps (a.eval x) (fun _ => False):=by
 cases x with
 | const v =>
   simp only [opd,Option.map_eq_some_iff] at ho
   obtain ⟨t,ht,rfl⟩:=ho
   exact cst_rep ht Z w
 | tmp s =>
   simp only [opd] at ho
   split at ho
   ·rename_i sh x hg
    obtain ⟨v,hv,hr⟩:=h.rep s _ (SS.get_mem hg)
    rw [eval_of hv]
    split at ho
    ·cases ho; exact VRep.noOwn ‹_› hr
    ·split at ho
     ·cases ho; exact ⟨fun _ => id,sh,x,v,⟨SS.get_mem hg,hv⟩,.inl ⟨rfl,rfl⟩⟩
     ·cases ho
   ·rename_i hg
    cases ho
    obtain ⟨v,hv,hr⟩:=h.rep s _ (SS.get_mem hg)
    rw [eval_of hv]; exact ⟨fun _ => id,hr.2⟩
   ·rename_i hg
    cases ho
    obtain ⟨v,hv,hr⟩:=h.rep s _ (SS.get_mem hg)
    rw [eval_of hv]; exact ⟨fun _ => id,hr.2⟩
   ·rename_i hg
    cases ho
    obtain ⟨v,hv,hr⟩:=h.rep s _ (SS.get_mem hg)
    rw [eval_of hv]; exact ⟨fun _ => id,hr.2⟩
   ·cases ho
 | func f =>
   simp only [opd,Option.some.injEq] at ho
   subst ho
   exact ⟨fun _ => id,[],rfl,rfl,fun j u c hu => by simp at hu⟩
 | global g => simp [opd] at ho
def takeO (T:Tbl) (S:SS) (ty:Nat):Operand→Option (TV × SS)
 | .const v => (cst T ty v).map fun t => (t,S)
 | .tmp s => match S.get s with
   | some (.val sh x) => some (⟨sh,x⟩,if sh.noOwn then S else S.kill s)
   | some (.copy h []) => match S.get h with
     | some (.val sh x) => some (⟨sh,x⟩,S.kill h)
     | _ => none
   | some (.copy h (q :: p)) => match S.get h with
     | some (.val sh x) => if sh.isRoot then match getAt sh x (q :: p) with
       | some tv => some (tv,S.kill h)
       | none => none
       else none
     | _ => none
   | _ => none
 | _ => none
theorem takeO_rep {Z:Fp} {F:Nat→Fp} {w0:World} {Wr Zi:Fp} {N:Fr} {S S1:SS} {a:Act} {w:World} (h:RelX Z F w0 Wr Zi N S a w) {T:Tbl} {ty:Nat} {x:Operand} {tv:TV} (ho:takeO T S ty x=some (tv,S1)) :
 ∃ F1 f,VRep Z w tv.sh tv.x (a.eval x) f∧RelX Z F1 w0 Wr Zi N S1 a w∧Held Z F1 w0 Wr w f ∧ (∀ s i,F1 s i→F s i)∧∀ i,f i→∃ s,F s i:=by
 cases x with
 | const v =>
   simp only [takeO,Option.map_eq_some_iff] at ho
   obtain ⟨t,ht,he⟩:=ho
   cases he
   exact ⟨F,fun _ => False,cst_rep ht Z w,h,Held.none,fun _ _ => id,fun i h => h.elim⟩
 | tmp s =>
   simp only [takeO] at ho
   split at ho
   ·rename_i sh x hg
    by_cases hn:sh.noOwn=true
    ·simp only [hn,if_true,Option.some.injEq,Prod.mk.injEq] at ho
     obtain ⟨rfl,rfl⟩:=ho
     obtain ⟨v,hv,hr⟩:=h.rep s _ (SS.get_mem hg)
     rw [eval_of hv]
     exact ⟨F,fun _ => False,VRep.noOwn hn hr,h,Held.none,fun _ _ => id,fun i h => h.elim⟩
    ·simp only [hn,if_false,Option.some.injEq,Prod.mk.injEq] at ho
     obtain ⟨rfl,rfl⟩:=ho
     obtain ⟨v,hv,hr,h',hh⟩:=h.take (SS.get_mem hg)
     rw [eval_of hv]
     refine ⟨_,F s,hr,by simpa using h',hh,fun t i hi => ?_,fun i hi => ⟨s,hi⟩⟩
     by_cases e:t=s
     ·simp [e] at hi
     ·simp only [e,if_false] at hi; exact hi
   ·rename_i k hg
    split at ho
    ·rename_i sh x hk
     cases ho
     obtain ⟨v,hv,hr,h',hh⟩:=h.take (SS.get_mem hk)
     obtain ⟨v2,hv2,_,sh2,x2,vh2,hh2,hr2⟩:=h.rep s _ (SS.get_mem hg)
     rcases hr2 with ⟨_,rfl⟩ | ⟨_,_,_,_,_,_,hp,_⟩
     ·rw [eval_of hv2]
      have:v2=v:=by have:=hh2.tmp; rw [hv] at this; simpa using this.symm
      subst this
      refine ⟨_,F k,hr,h',hh,fun t i hi => ?_,fun i hi => ⟨k,hi⟩⟩
      by_cases e:t=k
      ·simp [e] at hi
      ·simp only [e,if_false] at hi; exact hi
     ·exact absurd rfl hp
    ·cases ho
   ·rename_i k q p hg
    split at ho
    ·rename_i sh x hk
     split at ho
     ·rename_i hroot
      have hroot:=Sh.isRoot_iff hroot
      split at ho
      ·rename_i tv' hat
       cases ho
       obtain ⟨v,hv,hr,h',hh⟩:=h.take (SS.get_mem hk)
       obtain ⟨v2,hv2,_,sh2,x2,vh2,hh2,hr2⟩:=h.rep s _ (SS.get_mem hg)
       have he:=h.uniq k _ _ hh2.get (SS.get_mem hk)
       injection he with e1 e2
       subst e1
       obtain rfl:=eq_of_heq e2
       rcases hr2 with ⟨hp,_⟩ | ⟨g,o,s',x',cs,_,hpn,hok,hat',hl,hlen,hcells,hvo⟩
       ·cases hp
       ·rw [hat] at hat'
        obtain rfl:tv=⟨s',x'⟩:=by simpa using hat'
        have hvv:v=vh2:=by have:=hh2.tmp; rw [hv] at this; simpa using this
        subst hvv
        obtain ⟨g',t',pre',cs',post',f',R⟩:=rfocus (q :: p) sh2 x2 v (F k) ⟨s',x'⟩ (root_cells hroot hr) hpn (by cases sh2 <;> first | exact hroot.elim | trivial | exact absurd (mp_path hok) (by assumption)) hok hat
        have hgo:=R.at_
        rw [hl] at hgo
        simp only [Option.some.injEq,Prod.mk.injEq] at hgo
        obtain ⟨rfl,rfl⟩:=hgo
        have hcs:cs=cs':=by
         have hl1:=CRep.length R.rep
         apply List.ext_getElem?
         intro j
         by_cases hj:j < cs.length
         ·have h1:=hcells j cs[j] (by simp [hj])
          simp only [World.cell?,R.heap] at h1
          have hj':j < cs'.length:=by simp only at hl1 hlen; omega
          simp only [List.append_assoc,List.getElem?_toArray] at h1
          rw [List.getElem?_append_right (by omega),Nat.add_sub_cancel_left,List.getElem?_append_left hj'] at h1
          rw [List.getElem?_eq_getElem hj]
          simpa using h1.symm
         ·have hj':¬ j < cs'.length:=by simp only at hl1 hlen; omega
          rw [List.getElem?_eq_none (by omega),List.getElem?_eq_none (by omega)]
        subst hcs
        rw [eval_of hv2]
        refine ⟨_,f',⟨cs,R.rep,hvo⟩,h',fun i hi => hh i (R.sub i hi),fun t i hi => ?_,fun i hi => ⟨k,R.sub i hi⟩⟩
        by_cases e:t=k
        ·simp [e] at hi
        ·simp only [e,if_false] at hi; exact hi
      ·cases ho
     ·cases ho
    ·cases ho
   ·cases ho
 | func f => simp [takeO] at ho
 | global g => simp [takeO] at ho
end Go.Vm
