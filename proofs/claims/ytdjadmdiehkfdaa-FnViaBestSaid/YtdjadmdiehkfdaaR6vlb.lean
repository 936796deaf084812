/-
  Laws of the graph statements, turned to this seat's numbers by a program of this project (port4.py). No condition.
-/
import Derived.Test.YtdjadmdiehkfdaaR6vgl
set_option linter.unusedVariables false
set_option linter.unusedSimpArgs false
namespace Go.Proofs.Ytdjadmdiehkfdaa
open Go Go.Vm Go.Proofs V
theorem wrap_id {n:Int} (h1:-9223372036854775808≤n) (h2:n < 9223372036854775808):IntKind.i64.wrap n=n:=wrap_in h1 (by omega)
theorem beq5 (a b:Int × Int):Sh.beq (.st (.pair (.int .i64) (.int .i64))) a b=true↔a=b:=by
 obtain ⟨a1,a2⟩:=a; obtain ⟨b1,b2⟩:=b
 simp [Sh.beq]
theorem beq5d (a b:Int × Int):Sh.beq (.st (.pair (.int .i64) (.int .i64))) a b=decide (a=b):=by
 by_cases h:a=b
 ·rw [(beq5 a b).2 h]; simp [h]
 ·rw [decide_eq_false h]
  cases hb:Sh.beq (.st (.pair (.int .i64) (.int .i64))) a b with
  | false => rfl
  | true => exact absurd ((beq5 a b).1 hb) h
theorem ban_iff {a b:Ban}:banLess a b=true↔a.1 < b.1 ∨ (a.1=b.1∧a.2 < b.2):=by simp [banLess]
theorem ban_trans {a b c:Ban} (h1:banLess a b=true) (h2:banLess b c=true):banLess a c=true:=by
 rw [ban_iff] at *; omega
theorem ban_irr {a:Ban}:banLess a a=false:=by simp [banLess]
structure GOk (g:Graph):Prop where
 n1:g.1.length≤5000
 n2:g.2.1.length≤8000
 n3:g.2.2.length≤2000
 spot:∀ i,i < g.1.length→okSpot g i=true
 road:∀ i,i < g.2.1.length→okRoad g i=true
 ban:∀ i,i < g.2.2.length→okBan g i=true
theorem gok {g:Graph} (h:graphOk g=true):GOk g:=by
 unfold graphOk at h
 simp only [Bool.and_eq_true,decide_eq_true_eq] at h
 obtain ⟨⟨⟨⟨⟨h1,h2⟩,h3⟩,h4⟩,h5⟩,h6⟩:=h
 exact ⟨h1,h2,h3,allTo_iff.1 h4,allTo_iff.1 h5,allTo_iff.1 h6⟩
theorem ban_sorted {g:Graph} (hg:GOk g):∀ {d i:Nat},i+d+1 < g.2.2.length→banLess (g.2.2.getD i dB) (g.2.2.getD (i+d+1) dB)=true
 | 0,i,h => by
   have:=hg.ban (i+1) (by omega)
   unfold okBan at this
   simp only [Bool.and_eq_true,Bool.or_eq_true,decide_eq_true_eq] at this
   rcases this.2 with h' | h'
   ·omega
   ·simpa using h'
 | d+1,i,h => ban_trans (ban_sorted hg (d:=d) (i:=i) (by omega)) (by
   have h0:=ban_sorted hg (d:=0) (i:=i+d+1) (by omega)
   rwa [show i+d+1+0+1=i + (d+1)+1 by omega] at h0)
theorem ban_sort {g:Graph} (hg:GOk g) {i j:Nat} (hij:i < j) (hj:j < g.2.2.length):banLess (g.2.2.getD i dB) (g.2.2.getD j dB)=true:=by
 have:=ban_sorted hg (d:=j - i - 1) (i:=i) (by omega)
 rwa [show i + (j - i - 1)+1=j by omega] at this
def banned (g:Graph) (e f:Int):Bool:=decide ((e,f) ∈ g.2.2)
theorem mem_getD {α:Type} {d:α} {x:α} {l:List α} (h:x ∈ l):∃ i,i < l.length∧l.getD i d=x:=by
 obtain ⟨i,hi,he⟩:=List.getElem_of_mem h
 exact ⟨i,hi,by rw [List.getD_eq_getElem?_getD,List.getElem?_eq_getElem hi,he]; rfl⟩
theorem getD_in {α:Type} {d:α} {l:List α} {i:Nat} (h:i < l.length):l.getD i d ∈ l:=by
 rw [List.getD_eq_getElem?_getD,List.getElem?_eq_getElem h]; exact List.getElem_mem h
def ab (x:Int):Int:=if x < 0 then -x else x
def headR (dx dy:Int):Int :=
 if 5*ab dy < 2*ab dx∧dx > 0 then 0 else if 5*ab dy < 2*ab dx then 4 else if 5*ab dx < 2*ab dy∧dy > 0 then 2 else if 5*ab dx < 2*ab dy then 6 else
 if dx > 0∧dy > 0 then 1 else if dx < 0∧dy > 0 then 3 else if dx < 0 then 5 else 7
def headB (p q:Int × Int):Int:=if ptB p=true∧ptB q=true∧p≠q then headR (q.1 - p.1) (q.2 - p.2) else -1
theorem headR_range (dx dy:Int):0≤headR dx dy∧headR dx dy≤7:=by
 unfold headR
 repeat' split
 all_goals omega
theorem headB_range (p q:Int × Int):-1≤headB p q∧headB p q≤7:=by
 unfold headB
 split
 ·have:=headR_range (q.1 - p.1) (q.2 - p.2); omega
 ·omega
theorem ptB_iff {p:Int × Int} (h:ptB p=true):-10000000≤p.1∧p.1≤10000000 ∧ -10000000≤p.2∧p.2≤10000000:=by
 unfold ptB at h
 simp only [cond_eq_ite,Bool.if_false_right,Bool.and_eq_true,decide_eq_true_eq] at h
 omega
theorem ab_range {x:Int} (h1:-100000000≤x) (h2:x≤100000000):0≤ab x∧ab x≤100000000:=by
 unfold ab; split <;> omega
def roadAt (g:Graph) (r:Int):Road:=g.2.1.getD r.toNat dR
def spotAt (g:Graph) (p:Int):Spot:=g.1.getD p.toNat dS
def roadIs (g:Graph) (r:Int):Bool:=decide (0≤r) && decide (r < (g.2.1.length:Int))
def spotIs (g:Graph) (p:Int):Bool:=decide (0≤p) && decide (p < (g.1.length:Int))
def headOf (g:Graph) (r:Int):Int:=headB (spotAt g (roadAt g r).1).2 (spotAt g (roadAt g r).2.1).2
def windOf (g:Graph) (e f:Int):Int:=if headOf g e < 0∨headOf g f < 0 then -1 else (headOf g f - headOf g e+8) % 8
def costOf (w:Int):Int:=if w=2∨w=3∨w=4 then 5 else if w=5∨w=6 then 3 else 0
def turnOf (g:Graph) (e f:Int):Int:=if banned g e f=true then -1 else if (roadAt g f).2.1 = (roadAt g e).1 then 20 else costOf (windOf g e f)
theorem foldR (g:Graph) (r:Int):List.getD g.2.1 (Int.toNat r) ((0:Int),((0:Int),((0:Int),((0:Int),((0:Int),(⟨#[]⟩:ByteArray))))))=roadAt g r:=by cases g; exact id rfl
theorem foldS (g:Graph) (p:Int):List.getD g.1 (Int.toNat p) ((0:Int),((0:Int),(0:Int)))=spotAt g p:=by cases g; exact id rfl
theorem foldH (g:Graph) (r:Int):headB (spotAt g (roadAt g r).1).2 (spotAt g (roadAt g r).2.1).2=headOf g r:=by cases g; exact id rfl
theorem roadIs_iff {g:Graph} {r:Int}:roadIs g r=true↔0≤r∧r < (g.2.1.length:Int):=by simp [roadIs]
theorem spotIs_iff {g:Graph} {r:Int}:spotIs g r=true↔0≤r∧r < (g.1.length:Int):=by simp [spotIs]
theorem road_ends {g:Graph} (hg:GOk g) {r:Int} (h:roadIs g r=true):(0 ≤ (roadAt g r).1 ∧ (roadAt g r).1 < (g.1.length:Int)) ∧ (0 ≤ (roadAt g r).2.1 ∧ (roadAt g r).2.1 < (g.1.length:Int)):=by
 rw [roadIs_iff] at h
 have:=hg.road r.toNat (by omega)
 unfold okRoad at this
 simp only [Bool.and_eq_true,decide_eq_true_eq] at this
 unfold roadAt
 omega
theorem mod8 {x:Int} (h1:0≤x):Int.tmod x 8=x % 8:=Int.tmod_eq_emod_of_nonneg h1
abbrev Net:=Graph × ((List (List Int)) × ((List (List Int)) × (Option (List ((Int × Int) × Bool)))))
def outs (g:Graph) (n p:Nat):List Int:=((List.range n).filter fun r => decide ((g.2.1.getD r dR).1 = (p:Int))).map fun (r:Nat) => (r:Int)
def inns (g:Graph) (n p:Nat):List Int:=((List.range n).filter fun r => decide ((g.2.1.getD r dR).2.1 = (p:Int))).map fun (r:Nat) => (r:Int)
structure NetOf (g:Graph) (t:Net):Prop where
 fst:t.1=g
 out:t.2.1.length=g.1.length∧∀ p,p < g.1.length→t.2.1.getD p []=outs g g.2.1.length p
 inn:t.2.2.1.length=g.1.length∧∀ p,p < g.1.length→t.2.2.1.getD p []=inns g g.2.1.length p
 ban:∃ m,t.2.2.2=some m∧∀ e f,mget (Sh.beq (.st (.pair (.int .i64) (.int .i64)))) (some m) (e,f) false=banned g e f
theorem outs_len (g:Graph) (n p:Nat):(outs g n p).length≤n:=by
 unfold outs; rw [List.length_map]
 exact Nat.le_trans (List.length_filter_le _ _) (by simp)
theorem inns_len (g:Graph) (n p:Nat):(inns g n p).length≤n:=by
 unfold inns; rw [List.length_map]
 exact Nat.le_trans (List.length_filter_le _ _) (by simp)
theorem outs_succ (g:Graph) (n p:Nat):outs g (n+1) p=if (g.2.1.getD n dR).1 = (p:Int) then outs g n p ++ [(n:Int)] else outs g n p:=by
 unfold outs
 rw [List.range_succ,List.filter_append,List.map_append]
 by_cases h:(g.2.1.getD n dR).1 = (p:Int)
 ·rw [if_pos h,List.filter_cons_of_pos (by simpa using h)]; rfl
 ·rw [if_neg h,List.filter_cons_of_neg (by simpa using h)]; simp
theorem inns_succ (g:Graph) (n p:Nat):inns g (n+1) p=if (g.2.1.getD n dR).2.1 = (p:Int) then inns g n p ++ [(n:Int)] else inns g n p:=by
 unfold inns
 rw [List.range_succ,List.filter_append,List.map_append]
 by_cases h:(g.2.1.getD n dR).2.1 = (p:Int)
 ·rw [if_pos h,List.filter_cons_of_pos (by simpa using h)]; rfl
 ·rw [if_neg h,List.filter_cons_of_neg (by simpa using h)]; simp
theorem mem_take_succ {α:Type} {d:α} {l:List α} {i:Nat} (h:i < l.length) (x:α):x ∈ l.take (i+1)↔x ∈ l.take i∨x=l.getD i d:=by
 rw [List.take_add_one,List.mem_append,List.getD_eq_getElem?_getD,List.getElem?_eq_getElem h]
 simp
theorem banned_loop {g:Graph} (hg:GOk g) (k:Nat) (e f:Int):∀ (m lo hi:Nat),lo≤hi→hi≤g.2.2.length→hi - lo < m → (∀ j,j < lo→banLess (g.2.2.getD j dB) (e,f)=true) → (∀ j,hi≤j→j < g.2.2.length→banLess (g.2.2.getD j dB) (e,f)=false) →
 f88.l22 k g e f m ((lo:Int),(hi:Int))=some (banned g e f)
 | 0,lo,hi,_,_,h,_,_ => by omega
 | m+1,lo,hi,h1,h2,h3,h4,h5 => by
   have hn:=hg.n3
   rw [f88.l22]
   by_cases hlt:lo < hi
   ·rw [if_t (by simpa using hlt),if_t (by decide),wrap_id (n:=(lo:Int)+hi) (by omega) (by omega)]
    have hmid:Int.tdiv ((lo:Int)+hi) 2 = (((lo+hi) / 2:Nat):Int):=by
     rw [Int.tdiv_eq_ediv_of_nonneg (by omega)]; omega
    rw [hmid,wrap_id (n:=(((lo+hi) / 2:Nat):Int)) (by omega) (by omega),if_t ⟨by omega,by omega⟩]
    generalize hM:(lo+hi) / 2=M at *
    rw [e72,Option.bind_some,Int.toNat_natCast]
    cases hb:banLess (g.2.2.getD M dB) (e,f) with
    | true =>
      rw [if_t rfl,wrap_s (by omega)]
      refine banned_loop hg k e f m (M+1) hi (by omega) h2 (by omega) (fun j hj => ?_) h5
      by_cases hjM:j=M
      ·rw [hjM]; exact hb
      ·exact ban_trans (ban_sort hg (i:=j) (j:=M) (by omega) (by omega)) hb
    | false =>
      rw [if_f (by simp)]
      refine banned_loop hg k e f m lo M (by omega) (by omega) (by omega) h4 (fun j hj hjn => ?_)
      by_cases hjM:j=M
      ·rw [hjM]; exact hb
      ·cases hb2:banLess (g.2.2.getD j dB) (e,f) with
       | false => rfl
       | true =>
         have:=ban_trans (ban_sort hg (i:=M) (j:=j) (by omega) hjn) hb2
         rw [hb] at this; cases this
   ·obtain rfl:lo=hi:=by omega
    rw [if_f (by simp)]
    rw [if_t (fun hh => ⟨by omega,by simpa using hh⟩)]
    congr 1
    rw [Int.toNat_natCast]
    have key:banned g e f=true↔lo < g.2.2.length∧g.2.2.getD lo dB = (e,f):=by
     unfold banned
     rw [decide_eq_true_iff]
     constructor
     ·intro hm
      obtain ⟨j,hj,hje⟩:=mem_getD (d:=dB) hm
      have hlo:j=lo:=by
       rcases Nat.lt_trichotomy j lo with h' | h' | h'
       ·have:=h4 j h'
        rw [hje,ban_irr] at this; cases this
       ·exact h'
       ·have:=h5 lo (Nat.le_refl _) (by omega)
        have h6:=ban_sort hg h' hj
        rw [hje,this] at h6; cases h6
      subst hlo
      exact ⟨hj,hje⟩
     ·rintro ⟨h6,h7⟩
      rw [← h7]; exact getD_in h6
    by_cases hl:lo < g.2.2.length
    ·have:decide ((lo:Int) < (g.2.2.length:Int))=true:=by simpa using hl
     rw [this,cond_true,beq5d]
     by_cases hq:g.2.2.getD lo dB = (e,f)
     ·rw [key.2 ⟨hl,hq⟩]; simpa using hq
     ·have:banned g e f=false:=Bool.eq_false_iff.2 (fun h => hq (key.1 h).2)
      rw [this]; simpa using hq
    ·have:decide ((lo:Int) < (g.2.2.length:Int))=false:=by simpa using hl
     rw [this,cond_false]
     exact (Bool.eq_false_iff.2 (fun h => hl (key.1 h).1)).symm
theorem e88 {g:Graph} (hg:GOk g) (k:Nat) (hk:1048576 < k) (e f:Int):f88 k g e f=some (banned g e f):=by
 have:=hg.n3
 exact banned_loop hg k e f k 0 g.2.2.length (by omega) (Nat.le_refl _) (by omega) (fun j hj => by omega) (fun j h1 h2 => by omega)
theorem abs_eq (k:Nat) {x:Int} (h1:-100000000≤x) (h2:x≤100000000):f108 k x=some (ab x)∧f116 k x=some (ab x):=by
 unfold f108 f116 ab
 by_cases h:x < 0
 ·rw [if_t (by simpa using h),if_pos h,wrap_id (by omega) (by omega)]; simp
 ·rw [if_f (by simpa using h),if_neg h]; simp
theorem e89 (k:Nat) (p q:Int × Int):f89 k p q=some (headB p q):=by
 unfold f89 headB
 rw [e71]
 simp only [Option.bind_some,e71,beq5d]
 by_cases hp:ptB p=true
 ·by_cases hq:ptB q=true
  ·by_cases he:p=q
   ·subst he; simp [hp]
   ·have bp:=ptB_iff hp
    have bq:=ptB_iff hq
    have w1:IntKind.i64.wrap (q.1 - p.1)=q.1 - p.1:=wrap_id (by omega) (by omega)
    have w2:IntKind.i64.wrap (q.2 - p.2)=q.2 - p.2:=wrap_id (by omega) (by omega)
    have hR:(if ptB p=true∧ptB q=true∧p≠q then headR (q.1 - p.1) (q.2 - p.2) else -1)=headR (q.1 - p.1) (q.2 - p.2):=if_pos ⟨hp,hq,he⟩
    rw [hR]
    simp only [hp,hq,he,w1,w2]
    obtain ⟨dx,hdx⟩:∃ dx,dx=q.1 - p.1:=⟨_,rfl⟩
    obtain ⟨dy,hdy⟩:∃ dy,dy=q.2 - p.2:=⟨_,rfl⟩
    rw [← hdx,← hdy]
    rw [(abs_eq k (x:=dx) (by omega) (by omega)).1,(abs_eq k (x:=dy) (by omega) (by omega)).1]
    have r1:=ab_range (x:=dx) (by omega) (by omega)
    have r2:=ab_range (x:=dy) (by omega) (by omega)
    simp only [Option.bind_some,if_true]
    rw [wrap_id (n:=5*ab dy) (by omega) (by omega),wrap_id (n:=2*ab dx) (by omega) (by omega),wrap_id (n:=5*ab dx) (by omega) (by omega),wrap_id (n:=2*ab dy) (by omega) (by omega)]
    unfold headR
    by_cases c1:5*ab dy < 2*ab dx <;> by_cases c2:dx > 0 <;> by_cases c3:5*ab dx < 2*ab dy <;> by_cases c4:dy > 0 <;> by_cases c5:dx < 0 <;> simp [c1,c2,c3,c4,c5]
  ·simp only [Bool.not_eq_true] at hq
   simp [hp,hq]
 ·simp only [Bool.not_eq_true] at hp
  simp [hp]
theorem e107 (k:Nat) (p q:Int × Int):f107 k p q=some (headB p q):=by
 unfold f107 headB
 simp only [e35,beq5d]
 by_cases he:p=q
 ·subst he; simp
 ·by_cases hp:ptB p=true
  ·by_cases hq:ptB q=true
   ·have bp:=ptB_iff hp
    have bq:=ptB_iff hq
    have w1:IntKind.i64.wrap (q.1 - p.1)=q.1 - p.1:=wrap_id (by omega) (by omega)
    have w2:IntKind.i64.wrap (q.2 - p.2)=q.2 - p.2:=wrap_id (by omega) (by omega)
    have hR:(if ptB p=true∧ptB q=true∧p≠q then headR (q.1 - p.1) (q.2 - p.2) else -1)=headR (q.1 - p.1) (q.2 - p.2):=if_pos ⟨hp,hq,he⟩
    rw [hR]
    simp only [hp,hq,he,w1,w2]
    obtain ⟨dx,hdx⟩:∃ dx,dx=q.1 - p.1:=⟨_,rfl⟩
    obtain ⟨dy,hdy⟩:∃ dy,dy=q.2 - p.2:=⟨_,rfl⟩
    rw [← hdx,← hdy]
    rw [(abs_eq k (x:=dx) (by omega) (by omega)).2,(abs_eq k (x:=dy) (by omega) (by omega)).2]
    have r1:=ab_range (x:=dx) (by omega) (by omega)
    have r2:=ab_range (x:=dy) (by omega) (by omega)
    simp only [Option.bind_some,if_true,decide_false,cond_false,Bool.not_true,cond_true]
    have m1:-100000000 ≤ (if ab dy < ab dx then ab dy else ab dx) ∧ (if ab dy < ab dx then ab dy else ab dx)≤100000000:=by split <;> omega
    have m2:-100000000 ≤ (if ab dy > ab dx then ab dy else ab dx) ∧ (if ab dy > ab dx then ab dy else ab dx)≤100000000:=by split <;> omega
    rw [wrap_id (n:=5 * (if ab dy < ab dx then ab dy else ab dx)) (by omega) (by omega),wrap_id (n:=2 * (if ab dy > ab dx then ab dy else ab dx)) (by omega) (by omega)]
    unfold headR
    have a1:ab dx=if dx < 0 then -dx else dx:=rfl
    have a2:ab dy=if dy < 0 then -dy else dy:=rfl
    generalize ab dx=X at *
    generalize ab dy=Y at *
    by_cases c0:Y < X <;> by_cases c1:5*Y < 2*X <;> by_cases c3:5*X < 2*Y <;> by_cases c2:dx > 0 <;> by_cases c4:dy > 0 <;> by_cases c5:dx < 0 <;> by_cases c6:dy < 0 <;> by_cases c7:Y > X <;> simp [c0,c1,c2,c3,c4,c5,c6,c7] at a1 a2 ⊢ <;> omega
   ·simp only [Bool.not_eq_true] at hq
    simp [hp,hq,he]
  ·simp only [Bool.not_eq_true] at hp
   simp [hp,he]
theorem net_bans {g:Graph} (hg:GOk g) (k:Nat) (o i:List (List Int)):∀ (m q:Nat) (v:List ((Int × Int) × Bool)),q≤g.2.2.length→g.2.2.length - q < m →
 (∀ e f,mget (Sh.beq (.st (.pair (.int .i64) (.int .i64)))) (some v) (e,f) false=decide ((e,f) ∈ g.2.2.take q)) →
 ∃ v',f36.l126 k g o i m (v,(q:Int))=some (g,(o,(i,some v')))∧∀ e f,mget (Sh.beq (.st (.pair (.int .i64) (.int .i64)))) (some v') (e,f) false=banned g e f
 | 0,q,v,_,h,_ => by omega
 | m+1,q,v,hq,h,hv => by
   have hn:=hg.n3
   rw [f36.l126]
   by_cases hlt:q < g.2.2.length
   ·rw [if_t (by simpa using hlt),if_t ⟨by omega,by omega⟩,wrap_s (by omega),Int.toNat_natCast]
    refine net_bans hg k o i m (q+1) _ (by omega) (by omega) (fun e f => ?_)
    rw [mget_put beq5,hv e f,beq5d]
    by_cases hx:(e,f)=g.2.2.getD q ((0:Int),(0:Int))
    ·have:(e,f) ∈ g.2.2.take (q+1):=(mem_take_succ (d:=((0:Int),(0:Int))) hlt _).2 (.inr hx)
     rw [decide_eq_true hx,decide_eq_true this]; rfl
    ·rw [decide_eq_false hx,cond_false]
     congr 1
     apply propext
     rw [mem_take_succ (d:=((0:Int),(0:Int))) hlt]
     exact ⟨.inl,fun h => h.resolve_right hx⟩
   ·obtain rfl:q=g.2.2.length:=by omega
    rw [if_f (by simp)]
    refine ⟨v,rfl,fun e f => ?_⟩
    rw [hv e f,List.take_length]; rfl
theorem net_roads {g:Graph} (hg:GOk g) (k:Nat) (hk:1048576 < k):∀ (m q:Nat) (o i:List (List Int)),q≤g.2.1.length→g.2.1.length - q < m →
 (o.length=g.1.length∧∀ p,p < g.1.length→o.getD p []=outs g q p) → (i.length=g.1.length∧∀ p,p < g.1.length→i.getD p []=inns g q p) →
 ∃ t,f36.l56 k g m (o,i,(q:Int))=some t∧NetOf g t
 | 0,q,o,i,_,h,_,_ => by omega
 | m+1,q,o,i,hq,h,ho,hi => by
   have hn:=hg.n2
   have hn3:=hg.n3
   rw [f36.l56]
   by_cases hlt:q < g.2.1.length
   ·have hr:roadIs g (q:Int)=true:=roadIs_iff.2 ⟨by omega,by omega⟩
    obtain ⟨r1,r2⟩:=road_ends hg hr
    have e0:roadAt g (q:Int)=g.2.1.getD q dR:=by unfold roadAt; rw [Int.toNat_natCast]
    rw [e0] at r1 r2
    rw [if_t (by simpa using hlt),if_t ⟨by omega,by omega⟩,wrap_s (by omega),Int.toNat_natCast]
    have c1:∀ (x:List (List Int)) (p n:Nat),n≤8000 → (x.getD p []).length≤n → ((x.getD p []).length+[(q:Int)].length)*8≤140737488355328:=fun x p n h1 h2 => by
     simp only [List.length_singleton]; omega
    generalize hR:g.2.1.getD q dR=R at *
    obtain ⟨P,hP⟩:∃ P:Nat,R.1 = (P:Int):=⟨R.1.toNat,by omega⟩
    obtain ⟨O,hO⟩:∃ O:Nat,R.2.1 = (O:Int):=⟨R.2.1.toNat,by omega⟩
    have b1:0≤R.1∧R.1 < (o.length:Int):=by rw [ho.1]; exact r1
    have b2:0≤R.2.1∧R.2.1 < (i.length:Int):=by rw [hi.1]; exact r2
    have l1:(o.getD R.1.toNat []).length≤q:=by rw [ho.2 _ (by omega)]; exact outs_len g q _
    have l2:(i.getD R.2.1.toNat []).length≤q:=by rw [hi.2 _ (by omega)]; exact inns_len g q _
    rw [if_t b1,if_t (c1 o _ q (by omega) l1),if_t b1,if_t b2,if_t (c1 i _ q (by omega) l2),if_t b2]
    refine net_roads hg k hk m (q+1) _ _ (by omega) (by omega) ⟨by rw [List.length_set]; exact ho.1,fun p hp => ?_⟩ ⟨by rw [List.length_set]; exact hi.1,fun p hp => ?_⟩
    ·rw [outs_succ,hR,List.getD_eq_getElem?_getD,List.getElem?_set]
     by_cases hx:R.1 = (p:Int)
     ·have:R.1.toNat=p:=by omega
      rw [if_pos hx,if_pos this,if_pos (by rw [ho.1]; omega),Option.getD_some,this,ho.2 p hp]; rfl
     ·have:¬ R.1.toNat=p:=by omega
      rw [if_neg hx,if_neg this,← List.getD_eq_getElem?_getD,ho.2 p hp]
    ·rw [inns_succ,hR,List.getD_eq_getElem?_getD,List.getElem?_set]
     by_cases hx:R.2.1 = (p:Int)
     ·have:R.2.1.toNat=p:=by omega
      rw [if_pos hx,if_pos this,if_pos (by rw [hi.1]; omega),Option.getD_some,this,hi.2 p hp]; rfl
     ·have:¬ R.2.1.toNat=p:=by omega
      rw [if_neg hx,if_neg this,← List.getD_eq_getElem?_getD,hi.2 p hp]
   ·obtain rfl:q=g.2.1.length:=by omega
    rw [if_f (by simp)]
    obtain ⟨v',h1,h2⟩:=net_bans hg k o i k 0 [] (Nat.zero_le _) (by omega) (fun e f => by rw [mget_nil]; simp)
    exact ⟨_,h1,rfl,ho,hi,v',rfl,h2⟩
theorem e36 {g:Graph} (hg:GOk g) (k:Nat) (hk:1048576 < k):∃ t,f36 k g=some t∧NetOf g t:=by
 have h1:=hg.n1
 have h2:=hg.n2
 have c:(0:Int) ≤ (g.1.length:Int)∧Int.toNat (g.1.length:Int)*24≤140737488355328:=⟨by omega,by rw [Int.toNat_natCast]; omega⟩
 unfold f36
 rw [if_t c,if_t c,Int.toNat_natCast]
 refine net_roads hg k hk k 0 _ _ (Nat.zero_le _) (by omega) ⟨by simp,fun p hp => ?_⟩ ⟨by simp,fun p hp => ?_⟩
 ·rw [List.getD_eq_getElem?_getD,List.getElem?_replicate]
  simp [hp,outs]
 ·rw [List.getD_eq_getElem?_getD,List.getElem?_replicate]
  simp [hp,inns]
theorem e86 {g:Graph} (hg:GOk g) (k:Nat) {t:Net} (ht:NetOf g t) {e f:Int} (he:roadIs g e=true) (hf:roadIs g f=true):f86 k t e f=some (windOf g e f):=by
 have re:=road_ends hg he
 have rf:=road_ends hg hf
 rw [roadIs_iff] at he hf
 obtain ⟨g',t2⟩:=t
 obtain rfl:g'=g:=ht.fst
 unfold f86
 simp only [foldR,foldS]
 rw [if_t he,if_t hf,if_t re.1,if_t re.2,e107,Option.bind_some,if_t rf.1,if_t rf.2,e107,Option.bind_some]
 simp only [foldH]
 unfold windOf
 have r1:-1≤headOf g' e∧headOf g' e≤7:=headB_range _ _
 have r2:-1≤headOf g' f∧headOf g' f≤7:=headB_range _ _
 generalize headOf g' e=x at *
 generalize headOf g' f=y at *
 by_cases hx:x < 0
 ·simp [hx]
 ·by_cases hy:y < 0
  ·simp [hy]
  ·have hW:(if x < 0∨y < 0 then (-1:Int) else (y - x+8) % 8) = (y - x+8) % 8:=if_neg (by omega)
   rw [hW,if_f (by simp [hx,hy]),if_t (by decide)]
   rw [wrap_id (n:=y - x) (by omega) (by omega),wrap_id (n:=y - x+8) (by omega) (by omega),mod8 (by omega)]
theorem e73 {g:Graph} (hg:GOk g) (k:Nat) (hk:1048576 < k) {e f:Int} (he:roadIs g e=true) (hf:roadIs g f=true):f73 k g e f=some (turnOf g e f):=by
 have re:=road_ends hg he
 have rf:=road_ends hg hf
 rw [roadIs_iff] at he hf
 unfold f73 turnOf
 rw [e88 hg k hk,Option.bind_some]
 cases hb:banned g e f with
 | true => rw [if_t rfl,if_pos rfl]
 | false =>
   simp only [Bool.false_eq_true,if_false,foldR,foldS]
   rw [if_t he,if_t hf]
   by_cases hr:(roadAt g f).2.1 = (roadAt g e).1
   ·simp [hr]
   ·rw [if_neg hr,if_f (by simpa using hr),if_t re.1,if_t re.2,e89,Option.bind_some,if_t rf.1,if_t rf.2,e89,Option.bind_some]
    have r1:-1≤headOf g e∧headOf g e≤7:=headB_range _ _
    have r2:-1≤headOf g f∧headOf g f≤7:=headB_range _ _
    simp only [foldH]
    unfold windOf
    generalize headOf g e=x at *
    generalize headOf g f=y at *
    by_cases hx:x < 0
    ·simp [hx,costOf]
    ·by_cases hy:y < 0
     ·simp [hy,costOf]
     ·have hw:Int.tmod (IntKind.i64.wrap (IntKind.i64.wrap (y - x)+8)) 8 = (y - x+8) % 8:=by
       rw [wrap_id (n:=y - x) (by omega) (by omega),wrap_id (n:=y - x+8) (by omega) (by omega),mod8 (by omega)]
      have hW:(if x < 0∨y < 0 then (-1:Int) else (y - x+8) % 8) = (y - x+8) % 8:=if_neg (by omega)
      rw [hW,if_f (by simp [hx,hy]),if_t (by decide)]
      unfold f73.j9 f73.j11
      rw [hw]
      generalize (y - x+8) % 8=z
      unfold costOf
      by_cases c2:z=2
      ·subst c2; simp
      ·by_cases c3:z=3
       ·subst c3; simp
       ·by_cases c4:z=4
        ·subst c4; simp
        ·by_cases c5:z=5
         ·subst c5; simp
         ·by_cases c6:z=6
          ·subst c6; simp
          ·simp [c2,c3,c4,c5,c6]
theorem e66 {g:Graph} (hg:GOk g) (k:Nat) {t:Net} (ht:NetOf g t) {e f:Int} (he:roadIs g e=true) (hf:roadIs g f=true):f66 k t e f=some (if (roadAt g e).2.1 = (roadAt g f).1 then turnOf g e f else -1):=by
 have e86':=e86 hg k ht he hf
 rw [roadIs_iff] at he hf
 obtain ⟨g',o,i,mm⟩:=t
 obtain rfl:g'=g:=ht.fst
 obtain ⟨v,hv1,hv2⟩:=ht.ban
 simp only at hv1
 subst hv1
 unfold f66
 simp only [foldR,foldS]
 rw [if_t he,if_t hf,hv2 e f,e86',Option.bind_some]
 unfold turnOf
 by_cases hm:(roadAt g' e).2.1 = (roadAt g' f).1
 ·rw [if_pos hm]
  cases hb:banned g' e f with
  | true => simp
  | false =>
    simp only [hm,bne_self_eq_false,cond_false,Bool.false_eq_true,if_false]
    by_cases hr:(roadAt g' f).2.1 = (roadAt g' e).1
    ·simp [hr]
    ·rw [if_neg hr,if_f (by simpa using hr)]
     unfold f66.j7 f66.j9 costOf
     generalize windOf g' e f=z
     by_cases c2:z=2
     ·subst c2; simp
     ·by_cases c3:z=3
      ·subst c3; simp
      ·by_cases c4:z=4
       ·subst c4; simp
       ·by_cases c5:z=5
        ·subst c5; simp
        ·by_cases c6:z=6
         ·subst c6; simp
         ·simp [c2,c3,c4,c5,c6]
 ·rw [if_neg hm,if_t (by simp [hm])]
theorem at_loop {g:Graph} (hg:GOk g) (k:Nat) (b:Bool):∀ (m q:Nat) (o:List (List Int)),q≤g.2.1.length→g.2.1.length - q < m →
 (o.length=g.1.length∧∀ p,p < g.1.length→o.getD p [] = (bif b then inns g q p else outs g q p)) →
 ∃ t,f49.l58 k g b m (o,(q:Int))=some t∧t.length=g.1.length∧∀ p,p < g.1.length→t.getD p [] = (bif b then inns g g.2.1.length p else outs g g.2.1.length p)
 | 0,q,o,_,h,_ => by omega
 | m+1,q,o,hq,h,ho => by
   have hn:=hg.n2
   rw [f49.l58]
   by_cases hlt:q < g.2.1.length
   ·have hr:roadIs g (q:Int)=true:=roadIs_iff.2 ⟨by omega,by omega⟩
    obtain ⟨r1,r2⟩:=road_ends hg hr
    have e0:roadAt g (q:Int)=g.2.1.getD q dR:=by unfold roadAt; rw [Int.toNat_natCast]
    have hb:(0:Int) ≤ (q:Int) ∧ (q:Int) < (g.2.1.length:Int):=⟨by omega,by omega⟩
    have hc:decide ((q:Int) < (g.2.1.length:Int))=true:=by simpa using hlt
    have step:∀ P:Int,0≤P∧P < (g.1.length:Int) → (∀ p:Nat,(P = (p:Int) → (bif b then inns g (q+1) p else outs g (q+1) p) = (bif b then inns g q p else outs g q p) ++ [(q:Int)]) ∧ (P ≠ (p:Int) → (bif b then inns g (q+1) p else outs g (q+1) p) = (bif b then inns g q p else outs g q p))) →
     ∃ t,f49.j109 k o (q:Int) (f49.l58 k g b m) P=some t∧t.length=g.1.length∧∀ p,p < g.1.length→t.getD p [] = (bif b then inns g g.2.1.length p else outs g g.2.1.length p):=fun P hP hQ => by
     unfold f49.j109
     have b1:0≤P∧P < (o.length:Int):=by rw [ho.1]; exact hP
     have l1:(o.getD P.toNat []).length≤q:=by
      rw [ho.2 _ (by omega)]
      cases b
      ·exact outs_len g q _
      ·exact inns_len g q _
     have c1:((o.getD P.toNat []).length+[(q:Int)].length)*8≤140737488355328:=by
      simp only [List.length_singleton]; omega
     rw [if_t b1,if_t c1,if_t b1,wrap_s (by omega)]
     refine at_loop hg k b m (q+1) _ (by omega) (by omega) ⟨by rw [List.length_set]; exact ho.1,fun p hp => ?_⟩
     rw [List.getD_eq_getElem?_getD,List.getElem?_set]
     by_cases hx:P = (p:Int)
     ·have:P.toNat=p:=by omega
      rw [(hQ p).1 hx,if_pos this,if_pos (by rw [ho.1]; omega),Option.getD_some,this,ho.2 p hp]; rfl
     ·have:¬ P.toNat=p:=by omega
      rw [(hQ p).2 hx,if_neg this,← List.getD_eq_getElem?_getD,ho.2 p hp]
    rw [e0] at r1 r2
    simp only [if_t hc,if_t hb,Int.toNat_natCast]
    cases b with
    | true =>
      rw [if_t rfl]
      refine step _ r2 (fun p => ⟨fun hx => ?_,fun hx => ?_⟩)
      ·simp only [cond_true,inns_succ]; rw [if_pos hx]
      ·simp only [cond_true,inns_succ]; rw [if_neg hx]
    | false =>
      rw [if_f (by simp)]
      refine step _ r1 (fun p => ⟨fun hx => ?_,fun hx => ?_⟩)
      ·simp only [cond_false,outs_succ]; rw [if_pos hx]
      ·simp only [cond_false,outs_succ]; rw [if_neg hx]
   ·obtain rfl:q=g.2.1.length:=by omega
    rw [if_f (by simp)]
    exact ⟨o,rfl,ho⟩
theorem e49 {g:Graph} (hg:GOk g) (k:Nat) (hk:1048576 < k) (b:Bool):∃ t,f49 k g b=some t∧t.length=g.1.length∧∀ p,p < g.1.length→t.getD p [] = (bif b then inns g g.2.1.length p else outs g g.2.1.length p):=by
 have h1:=hg.n1
 have h2:=hg.n2
 have c:(0:Int) ≤ (g.1.length:Int)∧Int.toNat (g.1.length:Int)*24≤140737488355328:=⟨by omega,by rw [Int.toNat_natCast]; omega⟩
 unfold f49
 rw [if_t c,Int.toNat_natCast]
 refine at_loop hg k b k 0 _ (Nat.zero_le _) (by omega) ⟨by simp,fun p hp => ?_⟩
 rw [List.getD_eq_getElem?_getD,List.getElem?_replicate]
 cases b <;> simp [hp,outs,inns]
theorem e87 (k:Nat) (x y:It):f87 k x y=some (lsB x y):=by
 unfold f87 lsB
 by_cases h1:x.1=y.1
 ·by_cases h2:x.2.1=y.2.1
  ·simp [h1,h2]
  ·simp [h1,h2]
 ·simp [h1]
theorem push_go (k:Nat) (x0:List It × Unit):∀ (m i:Nat) (xs:List It),Up xs i→i < m→xs.length≤4294967296 →
 ∃ ys,f68.l1 k x0 m (xs,(i:Int))=some (ys,x0.2)∧HP ys∧ys.length=xs.length∧∀ u,Has ys u↔Has xs u
 | 0,i,xs,_,h,_ => by omega
 | m+1,i,xs,hu,hm,hl => by
   have hi:=hu.lt
   have h2:((2:Int):Int)≠0:=by decide
   by_cases h0:0 < i
   ·have hq:IntKind.i64.wrap (Int.tdiv (IntKind.i64.wrap ((i:Int) - 1)) 2) = (((i - 1) / 2:Nat):Int):=by
     rw [wrap_in (n:=(i:Int) - 1) (by omega) (by omega),Int.tdiv_eq_ediv_of_nonneg (by omega),wrap_in (by omega) (by omega)]; omega
    have hp:(i - 1) / 2 < xs.length:=by omega
    have hc:decide ((i:Int) > 0)=true:=by simpa using h0
    have hb:(0:Int) ≤ (i:Int) ∧ (i:Int) < (xs.length:Int):=⟨by omega,by omega⟩
    have hb2:(0:Int) ≤ (((i - 1) / 2:Nat):Int) ∧ (((i - 1) / 2:Nat):Int) < (xs.length:Int):=⟨by omega,by omega⟩
    rw [f68.l1]
    simp only [hq,hc,e87,Option.bind_some,Int.toNat_natCast,List.length_set,if_t hb,if_t hb2,if_t h2,cond_true]
    rw [if_t (fun _ => hb),if_t (fun _ => h2),if_t (fun _ => hb2),if_t trivial,Option.bind_some]
    by_cases hls:ls (X xs i) (X xs ((i - 1) / 2))
    ·rw [if_t (show lsB (xs.getD i ((0:Int),((0:Int),(0:Int)))) (xs.getD ((i - 1) / 2) ((0:Int),((0:Int),(0:Int))))=true from lsB_iff.2 hls)]
     obtain ⟨ys,q1,q2,q3,q4⟩:=push_go k x0 m ((i - 1) / 2) (swp xs i ((i - 1) / 2)) (hu.step h0 hls) (by omega) (by rw [swp_len]; exact hl)
     exact ⟨ys,q1,q2,by rw [q3,swp_len],fun u => by rw [q4,swp_has hi hp]⟩
    ·rw [if_f (by rw [show lsB (xs.getD i ((0:Int),((0:Int),(0:Int)))) (xs.getD ((i - 1) / 2) ((0:Int),((0:Int),(0:Int))))=false from lsB_not.2 hls]; decide)]
     exact ⟨xs,rfl,hu.done (.inr hls),rfl,fun u => Iff.rfl⟩
   ·obtain rfl:i=0:=by omega
    have hc:decide ((((0:Nat):Int)) > 0)=false:=by simp
    rw [f68.l1]
    simp only [hc,Bool.false_eq_true,false_implies,if_true,if_false,Option.bind_some,cond_false]
    exact ⟨xs,rfl,hu.done (.inl rfl),rfl,fun u => Iff.rfl⟩
theorem has_app {xs:List It} {v u:It}:Has (xs ++ [v]) u↔Has xs u∨u=v:=by
 unfold Has
 constructor
 ·rintro ⟨j,hj,rfl⟩
  by_cases h:j < xs.length
  ·exact .inl ⟨j,h,by simp [X,List.getD_eq_getElem?_getD,List.getElem?_append_left h]⟩
  ·simp at hj
   obtain rfl:j=xs.length:=by omega
   right; simp [X,List.getD_eq_getElem?_getD]
 ·rintro (⟨j,hj,rfl⟩ | rfl)
  ·exact ⟨j,by simp; omega,by simp [X,List.getD_eq_getElem?_getD,List.getElem?_append_left hj]⟩
  ·exact ⟨xs.length,by simp,by simp [X,List.getD_eq_getElem?_getD]⟩
theorem push_ok (k:Nat) (hk:1099511627776 < k) {xs:List It} {v:It} (h:HP xs) (hl:xs.length≤1073741824) :
 ∃ ys,f68 k (xs,()) v=some (ys,())∧HP ys∧ys.length=xs.length+1∧∀ u,Has ys u↔Has xs u∨u=v:=by
 obtain ⟨ys,q1,q2,q3,q4⟩:=push_go k (xs,()) k xs.length (xs ++ [v]) (Up.new h v) (by omega) (by simp; omega)
 refine ⟨ys,?_,q2,by rw [q3]; simp,fun u => by rw [q4,has_app]⟩
 unfold f68
 rw [if_t (by simp; omega)]
 have e:IntKind.i64.wrap ((List.length (List.append xs [v]):Int) - 1) = (xs.length:Int):=by
  rw [show List.append xs [v]=xs ++ [v] from rfl,List.length_append,List.length_singleton]
  rw [wrap_in (by omega) (by omega)]; omega
 rw [show ((xs,()):List It × Unit).1=xs from rfl,e]
 exact q1
theorem pop_go (k:Nat) (x0:List It × Unit) (n:Nat) (hn:x0.1.length=n+1) (hn2:n≤4294967296):∀ (d i m:Nat) (xs:List It),xs.length=n→Down xs i → (i < n ∨ (n=0∧i=0))→n - i≤d→d < m →
 ∃ ys,f69.l56 k x0 (f69.j55 k x0) m (xs,(i:Int))=f69.j55 k x0 ys∧HP ys∧ys.length=n∧∀ u,Has ys u↔Has xs u:=by
 intro d
 induction d with
 | zero =>
   intro i m xs hx hd hi hdn hm
   obtain ⟨m,rfl⟩:∃ q,m=q+1:=⟨m - 1,by omega⟩
   have hw1:IntKind.i64.wrap (IntKind.i64.wrap ((2:Int) * (i:Int))+1) = ((2*i+1:Nat):Int):=by
    rw [wrap_in (n:=(2:Int) * (i:Int)) (by omega) (by omega),wrap_in (by omega) (by omega)]; omega
   have hw3:IntKind.i64.wrap ((x0.1.length:Int) - 1) = (n:Int):=by rw [hn,wrap_in (by omega) (by omega)]; omega
   rw [f69.l56]
   simp only [hw1,hw3]
   rw [if_t (by simp; omega)]
   exact ⟨xs,rfl,hd.done (fun j h0 hj hp => by omega),hx,fun _ => Iff.rfl⟩
 | succ d ih =>
   intro i m xs hx hd hi hdn hm
   obtain ⟨m,rfl⟩:∃ q,m=q+1:=⟨m - 1,by omega⟩
   have hw1:IntKind.i64.wrap (IntKind.i64.wrap ((2:Int) * (i:Int))+1) = ((2*i+1:Nat):Int):=by
    rw [wrap_in (n:=(2:Int) * (i:Int)) (by omega) (by omega),wrap_in (by omega) (by omega)]; omega
   have hw2:IntKind.i64.wrap (((2*i+1:Nat):Int)+1) = ((2*i+2:Nat):Int):=by
    rw [wrap_in (by omega) (by omega)]; omega
   have hw3:IntKind.i64.wrap ((x0.1.length:Int) - 1) = (n:Int):=by rw [hn,wrap_in (by omega) (by omega)]; omega
   have child:∀ c:Nat,c < n→0 < c → (c - 1) / 2=i → (∀ j,0 < j→j < xs.length → (j - 1) / 2=i→¬ ls (X xs j) (X xs c)) →
    ∃ ys,f69.j97 k xs (i:Int) (f69.j55 k x0) ((f69.l56 k x0 (f69.j55 k x0)) m) (c:Int)=f69.j55 k x0 ys∧HP ys∧ys.length=n∧∀ u,Has ys u↔Has xs u:=by
    intro c hc hc0 hci hmin
    have b1:(0:Int) ≤ (c:Int) ∧ (c:Int) < (xs.length:Int):=⟨by omega,by omega⟩
    have b2:(0:Int) ≤ (i:Int) ∧ (i:Int) < (xs.length:Int):=⟨by omega,by omega⟩
    unfold f69.j97
    simp only [if_t b1,if_t b2,e87,Option.bind_some,Int.toNat_natCast,List.length_set]
    by_cases hls:ls (X xs c) (X xs i)
    ·rw [if_f (by rw [show lsB (xs.getD c ((0:Int),((0:Int),(0:Int)))) (xs.getD i ((0:Int),((0:Int),(0:Int))))=true from lsB_iff.2 hls]; decide)]
     obtain ⟨ys,q1,q2,q3,q4⟩:=ih c m (swp xs i c) (by rw [swp_len]; exact hx) (hd.step hc0 (by omega) hci hmin hls) (by omega) (by omega) (by omega)
     exact ⟨ys,q1,q2,q3,fun u => by rw [q4,swp_has (by omega) (by omega)]⟩
    ·rw [if_t (by rw [show lsB (xs.getD c ((0:Int),((0:Int),(0:Int)))) (xs.getD i ((0:Int),((0:Int),(0:Int))))=false from lsB_not.2 hls]; rfl)]
     exact ⟨xs,rfl,hd.done (fun j h0 hj hp => ls_trans hls (hmin j h0 hj hp)),hx,fun _ => Iff.rfl⟩
   rw [f69.l56]
   simp only [hw1,hw2,hw3]
   by_cases hc:n≤2*i+1
   ·rw [if_t (by simp; omega)]
    exact ⟨xs,rfl,hd.done (fun j h0 hj hp => by omega),hx,fun _ => Iff.rfl⟩
   ·rw [if_f (by simp; omega)]
    by_cases hc2:2*i+2 < n
    ·have hd1:decide ((((2*i+2:Nat):Int)) < (n:Int))=true:=by simp; omega
     simp only [hd1,Int.toNat_natCast,e87]
     rw [if_t (fun _ => ⟨by omega,by omega⟩),if_t (fun _ => ⟨by omega,by omega⟩),if_t trivial,Option.bind_some,cond_true]
     by_cases hls:ls (X xs (2*i+2)) (X xs (2*i+1))
     ·rw [if_t (by exact lsB_iff.2 hls)]
      refine child (2*i+2) hc2 (by omega) (by omega) fun j h0 hj hp => ?_
      have:j=2*i+1∨j=2*i+2:=by omega
      rcases this with rfl | rfl
      ·exact ls_asym hls
      ·exact fun h => ls_asym h h
     ·rw [if_f (by rw [show lsB (xs.getD (2*i+2) ((0:Int),((0:Int),(0:Int)))) (xs.getD (2*i+1) ((0:Int),((0:Int),(0:Int))))=false from lsB_not.2 hls]; decide)]
      refine child (2*i+1) (by omega) (by omega) (by omega) fun j h0 hj hp => ?_
      have:j=2*i+1∨j=2*i+2:=by omega
      rcases this with rfl | rfl
      ·exact fun h => ls_asym h h
      ·exact hls
    ·have hd1:decide ((((2*i+2:Nat):Int)) < (n:Int))=false:=by simp; omega
     simp only [hd1,Bool.false_eq_true,false_implies,if_true,if_false,Option.bind_some,cond_false]
     refine child (2*i+1) (by omega) (by omega) (by omega) fun j h0 hj hp => ?_
     have:j=2*i+1:=by omega
     subst this
     exact fun h => ls_asym h h
theorem pop_ok (k:Nat) (hk:1099511627776 < k) {xs:List It} (h:HP xs) (h0:0 < xs.length) (hl:xs.length≤1073741824) :
 ∃ ys,f69 k (xs,())=some (X xs 0,(ys,()))∧HP ys∧ys.length=xs.length - 1 ∧ (∀ u,Has ys u→Has xs u) ∧ (∀ u,Has xs u→u=X xs 0∨Has ys u)∧∀ u,Has xs u→¬ ls u (X xs 0):=by
 have hw:IntKind.i64.wrap ((xs.length:Int) - 1) = ((xs.length - 1:Nat):Int):=by rw [wrap_in (by omega) (by omega)]; omega
 obtain ⟨zs,hz⟩:∃ zs,zs = (xs.set 0 (xs.getD (xs.length - 1) itD)).take (xs.length - 1):=⟨_,rfl⟩
 have zl:zs.length=xs.length - 1:=by rw [hz]; simp
 have za:∀ j,j < xs.length - 1→X zs j=if j=0 then X xs (xs.length - 1) else X xs j:=fun j hj => by
  show zs.getD j itD=_
  rw [hz,getD_take hj,getD_set]
  by_cases hj0:j=0
  ·rw [if_pos ⟨hj0.symm,h0⟩,if_pos hj0]
  ·rw [if_neg (fun e => hj0 e.1.symm),if_neg hj0]
 have hdn:Down zs 0:=⟨fun j hj0 hj hne => by
  rw [zl] at hj
  rw [za j hj,za _ (by omega),if_neg (by omega),if_neg hne]
  exact h j hj0 (by omega),fun j _ _ _ h => by omega⟩
 obtain ⟨ys,q1,q2,q3,q4⟩:=pop_go k (xs,()) (xs.length - 1) (by show xs.length=_; omega) (by omega) (xs.length - 1) 0 k zs zl hdn (by omega) (by omega) (by omega)
 have hasz:∀ u,Has zs u→Has xs u:=by
  rintro u ⟨j,hj,rfl⟩
  rw [zl] at hj
  rw [za j hj]
  split
  ·exact ⟨_,by omega,rfl⟩
  ·exact ⟨j,by omega,rfl⟩
 refine ⟨ys,?_,q2,q3,fun u hu => hasz u ((q4 u).1 hu),fun u hu => ?_,fun u ⟨j,hj,e⟩ => by rw [← e]; exact h.root j j (Nat.le_refl _) hj⟩
 ·unfold f69
  simp only [hw,Int.toNat_natCast,List.length_set]
  rw [if_t ⟨by omega,by omega⟩,if_t ⟨by omega,by omega⟩,if_t ⟨by omega,by omega⟩,if_t ⟨by omega,by omega⟩]
  rw [hz] at q1
  exact q1
 ·obtain ⟨j,hj,rfl⟩:=hu
  by_cases hj0:j=0
  ·exact .inl (by rw [hj0])
  ·right; rw [q4]
   by_cases hjl:j=xs.length - 1
   ·exact ⟨0,by omega,by rw [za 0 (by omega),if_pos rfl,hjl]⟩
   ·exact ⟨j,by omega,by rw [za j (by omega),if_neg hj0]⟩
def inN (g:Graph) (p:Nat):List Nat:=(List.range g.2.1.length).filter fun r => decide ((g.2.1.getD r dR).2.1 = (p:Int))
def outN (g:Graph) (p:Nat):List Nat:=(List.range g.2.1.length).filter fun r => decide ((g.2.1.getD r dR).1 = (p:Int))
theorem inns_eq (g:Graph) (p:Nat):inns g g.2.1.length p = (inN g p).map fun (r:Nat) => (r:Int):=rfl
theorem outs_eq (g:Graph) (p:Nat):outs g g.2.1.length p = (outN g p).map fun (r:Nat) => (r:Int):=rfl
theorem castD (l:List Nat) (i:Nat):(l.map fun (r:Nat) => (r:Int)).getD i 0 = ((l.getD i 0:Nat):Int):=by
 simp only [List.getD_eq_getElem?_getD,List.getElem?_map]
 cases l[i]? <;> rfl
theorem turn_range (g:Graph) (e f:Int):-1≤turnOf g e f∧turnOf g e f≤20:=by
 unfold turnOf costOf
 split
 ·omega
 ·split
  ·omega
  ·split
   ·omega
   ·split <;> omega
def timeOf (g:Graph) (e:Nat):Int:=(g.2.1.getD e dR).2.2.2.1
theorem time_bd {g:Graph} (hg:GOk g) {e:Nat} (h:e < g.2.1.length):1≤timeOf g e∧timeOf g e≤1000000:=by
 have:=hg.road e h
 unfold timeOf
 simp only [okRoad,Bool.and_eq_true,decide_eq_true_eq] at this
 omega
def costN (g:Graph) (a b e:Nat):Int:=if turnOf g (a:Int) (b:Int) < 0 then -1 else turnOf g (a:Int) (b:Int)+timeOf g e
def dgB (g:Graph) (hg:GOk g) (t:Int):DG where
 n:=g.2.1.length
 adj x:=inN g (g.2.1.getD x dR).1.toNat
 cost x e:=if e < g.2.1.length then costN g e x e else -1
 start e:=if e < g.2.1.length ∧ (g.2.1.getD e dR).2.1=t then some (timeOf g e) else none
 dl:=1
 C:=1000020
 hadj:=fun x hx e he => by simpa using (List.mem_filter.1 he).1
 hcost:=fun x e hx he => by
  have hl:e < g.2.1.length:=by simpa using (List.mem_filter.1 he).1
  have:=time_bd hg hl
  have:=turn_range g e x
  rw [if_pos hl]; unfold costN; split <;> omega
 hstart:=fun e s h => by
  by_cases hc:e < g.2.1.length ∧ (g.2.1.getD e dR).2.1=t
  ·rw [if_pos hc] at h
   have:=time_bd hg hc.1
   have:timeOf g e=s:=by simpa using h
   omega
  ·rw [if_neg hc] at h; cases h
 hdl:=.inr rfl
 hC:=by decide
theorem road_nat {g:Graph} {e:Nat} (h:e < g.2.1.length):roadIs g (e:Int)=true:=roadIs_iff.2 ⟨by omega,by omega⟩
theorem bnd_num {G:DG} (hC:G.C=1000020) (hn:G.n≤8000) {part:Nat→List Nat} {tm ct:List Int} {dn:List Bool} (h:Inv G part tm ct dn) {x:Nat} (hx:x < G.n):T tm x≤10000000000∧T ct x≤8001:=by
 obtain ⟨b1,b2⟩:=h.bnd x hx
 have:=cnt_le dn
 rw [h.l3] at this
 rw [hC] at b1
 omega
def Ends (g:Graph) (b:Bool) (t:List (List Int)):Prop:=t.length=g.1.length∧∀ p,p < g.1.length→t.getD p [] = (bif b then inns g g.2.1.length p else outs g g.2.1.length p)
theorem relax52 {g:Graph} (hg:GOk g) (k:Nat) (hk:1048576 < k) (t:Int) {x:Nat} (hx:x < g.2.1.length) {es:List (List Int)} (hes:Ends g true es) (op0:List Int) (kk:Nat) (hop:op0.getD kk 0 = (x:Int)) (dn0:List Bool) (hdl:dn0.length=g.2.1.length)
 (q:(List Int × List Int × List Bool × List Int)→Option (List Int × List Int)) (tm ct op:List Int) (hI:Inv (dgB g hg t) (partX (dgB g hg t) x []) tm ct (dn0.set x true)) (hR:Row (dgB g hg t) tm (dn0.set x true) op) (hc:Cur (dgB g hg t) tm ct (dn0.set x true) x) :
 ∃ tm' ct' op',f52.l2126 k es g op0 (kk:Int) dn0 q k (tm,ct,op,(0:Int))=q (tm',ct',dn0.set x true,op')∧Inv (dgB g hg t) (dgB g hg t).adj tm' ct' (dn0.set x true)∧Row (dgB g hg t) tm' (dn0.set x true) op':=by
 have n1:=hg.n1
 have n2:=hg.n2
 have hxr:=road_nat hx
 have hend:=road_ends hg hxr
 have hadj:es.getD (g.2.1.getD x dR).1.toNat [] = ((dgB g hg t).adj x).map fun (r:Nat) => (r:Int):=by
  have h1:(roadAt g (x:Int)).1 = (g.2.1.getD x dR).1:=by unfold roadAt; rw [Int.toNat_natCast]
  rw [h1] at hend
  rw [hes.2 _ (by omega)]
  exact inns_eq g _
 have hlen:((dgB g hg t).adj x).length≤g.2.1.length:=Nat.le_trans (List.length_filter_le _ _) (by simp)
 obtain ⟨tm',ct',op',q1,q2,q3,_⟩:=relaxRow (G:=dgB g hg t) (P:=fun _ => True) hx (dn:=dn0.set x true)
  (L:=fun m tm ct op i => f52.l2126 k es g op0 (kk:Int) dn0 q m (tm,ct,op,(i:Int))) (Q:=fun tm ct op => q (tm,ct,dn0.set x true,op))
  (fun m tm ct op i hi hI hR _ hc => by
   have he:=getD_in' hi
   have hl1:=hI.l1; have hl2:=hI.l2
   have hcost:=(dgB g hg t).hcost x _ hx he
   have hai:((dgB g hg t).adj x).getD i 0 < g.2.1.length:=(dgB g hg t).hadj x hx _ he
   have hci:decide ((i:Int) < ((((dgB g hg t).adj x).map fun (r:Nat) => (r:Int)).length:Int))=true:=by simpa using hi
   have hbi:(0:Int) ≤ (i:Int) ∧ (i:Int) < ((((dgB g hg t).adj x).map fun (r:Nat) => (r:Int)).length:Int):=⟨by omega,by simpa using hi⟩
   have hb1:=bnd_num (G:=dgB g hg t) rfl n2 hI hx
   have hb0:=hI.pos x hx (hI.dfin x hx hc.don)
   have hcv:(dgB g hg t).cost x (((dgB g hg t).adj x).getD i 0)=if ((dgB g hg t).adj x).getD i 0 < g.2.1.length then costN g (((dgB g hg t).adj x).getD i 0) x (((dgB g hg t).adj x).getD i 0) else -1:=rfl
   have hcd:=castD ((dgB g hg t).adj x) i
   have hcl:(((dgB g hg t).adj x).map fun (r:Nat) => (r:Int)).length = ((dgB g hg t).adj x).length:=List.length_map ..
   have hen:Row (dgB g hg t) tm (dn0.set x true) op→op.length≤g.2.1.length:=fun h => h.len
   have hol:=hen hR
   have hbt:T tm (((dgB g hg t).adj x).getD i 0)≤10000000000:=(bnd_num (G:=dgB g hg t) rfl n2 hI (x:=((dgB g hg t).adj x).getD i 0) hai).1
   generalize ((dgB g hg t).adj x).getD i 0=e at *
   rw [if_pos hai] at hcv
   have htm:=time_bd hg hai
   have htr:=turn_range g (e:Int) (x:Int)
   have e73':=e73 hg k hk (road_nat hai) hxr
   have hdl':(dgB g hg t).dl=1:=rfl
   have tl1:tm.length=g.2.1.length:=hl1
   have tl2:ct.length=g.2.1.length:=hl2
   have be:(0:Int) ≤ (e:Int) ∧ (e:Int) < (g.2.1.length:Int):=⟨by omega,by omega⟩
   have bx:(0:Int) ≤ (x:Int) ∧ (x:Int) < (g.2.1.length:Int):=⟨by omega,by omega⟩
   have w0:IntKind.i64.wrap ((i:Int)+1) = ((i+1:Nat):Int):=wrap_s (by omega)
   have w1:IntKind.i64.wrap (timeOf g e+turnOf g (e:Int) (x:Int))=timeOf g e+turnOf g (e:Int) (x:Int):=wrap_in (by omega) (by omega)
   have w2:IntKind.i64.wrap (timeOf g e+turnOf g (e:Int) (x:Int)+T tm x)=timeOf g e+turnOf g (e:Int) (x:Int)+T tm x:=wrap_in (by omega) (by omega)
   have w3:IntKind.i64.wrap (T ct x+1)=T ct x+1:=wrap_in (by omega) (by omega)
   have hgt:(g.2.1.getD e dR).2.2.2.1=timeOf g e:=rfl
   have key:f52.l2126 k es g op0 (kk:Int) dn0 q (m+1) (tm,ct,op,(i:Int)) =
    if D (dn0.set x true) e=true∨turnOf g (e:Int) (x:Int) < 0 then f52.l2126 k es g op0 (kk:Int) dn0 q m (tm,ct,op,((i+1:Nat):Int)) else
    if T tm e < 0 then f52.l2126 k es g op0 (kk:Int) dn0 q m (tm.set e (timeOf g e+turnOf g (e:Int) (x:Int)+T tm x),ct.set e (T ct x+1),op ++ [(e:Int)],((i+1:Nat):Int)) else
    if T tm e < timeOf g e+turnOf g (e:Int) (x:Int)+T tm x ∨ (timeOf g e+turnOf g (e:Int) (x:Int)+T tm x=T tm e∧T ct e≤T ct x+1) then f52.l2126 k es g op0 (kk:Int) dn0 q m (tm,ct,op,((i+1:Nat):Int)) else
    f52.l2126 k es g op0 (kk:Int) dn0 q m (tm.set e (timeOf g e+turnOf g (e:Int) (x:Int)+T tm x),ct.set e (T ct x+1),op,((i+1:Nat):Int)):=by
    rw [f52.l2126]
    simp only [Int.toNat_natCast,hop,hadj,hcd,e73',Option.bind_some,f52.j2302,f52.j2313,w0,List.length_set,hdl,tl1,tl2,hgt,w1,w2,w3,if_t hci,if_t hbi,if_t be,if_t bx]
    rw [if_t (fun _ => be),if_t (fun _ => bx),if_t (fun _ => be)]
    by_cases h1:D (dn0.set x true) e=true∨turnOf g (e:Int) (x:Int) < 0
    ·rw [if_pos h1,if_t]
     rcases h1 with h1 | h1
     ·rw [show (dn0.set x true).getD e false=true from h1]; rfl
     ·rw [decide_eq_true h1]; cases (dn0.set x true).getD e false <;> rfl
    ·rw [if_neg h1,if_f (fun hx => h1 (by
      cases hd:(dn0.set x true).getD e false with
      | true => exact .inl hd
      | false => rw [hd] at hx; exact .inr (by simpa using hx)))]
     by_cases h2:T tm e < 0
     ·rw [if_pos h2,if_t (by simpa using h2),if_t (by simp; omega)]
     ·rw [if_neg h2,if_f (by simpa using h2)]
      by_cases h3:T tm e < timeOf g e+turnOf g (e:Int) (x:Int)+T tm x ∨ (timeOf g e+turnOf g (e:Int) (x:Int)+T tm x=T tm e∧T ct e≤T ct x+1)
      ·rw [if_pos h3,if_t]
       rcases h3 with h3 | ⟨h3,h4⟩
       ·rw [show decide (timeOf g e+turnOf g (e:Int) (x:Int)+T tm x > tm.getD e 0)=true from decide_eq_true h3]; rfl
       ·rw [show (timeOf g e+turnOf g (e:Int) (x:Int)+T tm x == tm.getD e 0)=true from beq_iff_eq.2 h3,show decide (T ct x+1 ≥ ct.getD e 0)=true from decide_eq_true h4]
        cases decide (timeOf g e+turnOf g (e:Int) (x:Int)+T tm x > tm.getD e 0) <;> rfl
      ·rw [if_neg h3,if_f]
       rw [show decide (timeOf g e+turnOf g (e:Int) (x:Int)+T tm x > tm.getD e 0)=false from decide_eq_false (fun h => h3 (.inl h))]
       by_cases h4:timeOf g e+turnOf g (e:Int) (x:Int)+T tm x=T tm e
       ·rw [show (timeOf g e+turnOf g (e:Int) (x:Int)+T tm x == tm.getD e 0)=true from beq_iff_eq.2 h4,show decide (T ct x+1 ≥ ct.getD e 0)=false from decide_eq_false (fun h => h3 (.inr ⟨h4,h⟩))]
        decide
       ·rw [show (timeOf g e+turnOf g (e:Int) (x:Int)+T tm x == tm.getD e 0)=false from beq_false_of_ne h4]
        simp
   have hcn:costN g e x e < 0↔turnOf g (e:Int) (x:Int) < 0:=by unfold costN; split <;> omega
   have hcp:¬ turnOf g (e:Int) (x:Int) < 0→costN g e x e=turnOf g (e:Int) (x:Int)+timeOf g e:=fun h => by unfold costN; rw [if_neg h]
   rw [hcv]
   refine ⟨fun h => ?_,fun hd h0 h1 => ?_,fun hd h0 h1 h2 => ?_,fun hd h0 h1 h2 => ?_⟩
   ·show f52.l2126 k es g op0 (kk:Int) dn0 q (m+1) (tm,ct,op,(i:Int))=_
    rw [key,if_pos (by rw [hcn] at h; exact h)]
   ·have ht:¬ turnOf g (e:Int) (x:Int) < 0:=by rw [← hcn]; omega
    show f52.l2126 k es g op0 (kk:Int) dn0 q (m+1) (tm,ct,op,(i:Int))=_
    rw [key,if_neg (by rw [hd]; simpa using ht),if_pos h1,hcp ht,hdl',show T tm x + (turnOf g (e:Int) (x:Int)+timeOf g e)=timeOf g e+turnOf g (e:Int) (x:Int)+T tm x by omega]
   ·have ht:¬ turnOf g (e:Int) (x:Int) < 0:=by rw [← hcn]; omega
    show f52.l2126 k es g op0 (kk:Int) dn0 q (m+1) (tm,ct,op,(i:Int))=_
    rw [hcp ht,hdl'] at h2
    rw [key,if_neg (by rw [hd]; simpa using ht),if_neg (by omega),if_pos (by unfold Le at h2; omega)]
   ·have ht:¬ turnOf g (e:Int) (x:Int) < 0:=by rw [← hcn]; omega
    show f52.l2126 k es g op0 (kk:Int) dn0 q (m+1) (tm,ct,op,(i:Int))=_
    rw [hcp ht,hdl'] at h2
    rw [key,if_neg (by rw [hd]; simpa using ht),if_neg (by omega),if_neg (by unfold Le at h2; omega),hcp ht,hdl',show T tm x + (turnOf g (e:Int) (x:Int)+timeOf g e)=timeOf g e+turnOf g (e:Int) (x:Int)+T tm x by omega])
  (fun _ _ _ => trivial)
  (fun m tm ct op _ _ => by
   show f52.l2126 k es g op0 (kk:Int) dn0 q (m+1) (tm,ct,op,(((dgB g hg t).adj x).length:Int))=_
   rw [f52.l2126]
   simp only [Int.toNat_natCast,hop,hadj,List.length_map]
   rw [if_f (by simp)])
  _ 0 k tm ct op (Nat.zero_add _) (by omega) (by rw [List.take_zero]; exact hI) hR trivial hc
 exact ⟨tm',ct',op',q1,q2,q3⟩
theorem min52 {g:Graph} (hg:GOk g) (k:Nat) (hk:1048576 < k) {es:List (List Int)} (hel:es.length=g.1.length) (op tm ct:List Int) (dn:List Bool) (h1:tm.length=g.2.1.length) (h2:ct.length=g.2.1.length) (h3:dn.length=g.2.1.length)
 (hop:∀ i,i < op.length→∃ e:Nat,op.getD i 0 = (e:Int)∧e < g.2.1.length) (h0:0 < op.length) (hl:op.length≤g.2.1.length) (q:(List Int × List Int × List Bool × List Int)→Option (List Int × List Int)) :
 ∃ kk x:Nat,kk < op.length∧op.getD kk 0 = (x:Int)∧x < g.2.1.length∧f52.l2051 k op tm ct dn g es q k ((0:Int),(1:Int))=f52.l2126 k es g op (kk:Int) dn q k (tm,ct,remK op kk,(0:Int)) ∧
   ∀ j,j < op.length→¬ (T tm (op.getD j 0).toNat < T tm (op.getD kk 0).toNat ∨ (T tm (op.getD j 0).toNat=T tm (op.getD kk 0).toNat∧T ct (op.getD j 0).toNat < T ct (op.getD kk 0).toNat)):=by
 have n2:=hg.n2
 obtain ⟨kk,q1,q2,q3⟩:=minRow (n:=op.length) (a:=fun j => T tm (op.getD j 0).toNat) (b:=fun j => T ct (op.getD j 0).toNat)
  (L:=fun m kk i => f52.l2051 k op tm ct dn g es q m ((kk:Int),(i:Int))) (Q:=fun kk => f52.l2126 k es g op (kk:Int) dn q k (tm,ct,remK op kk,(0:Int)))
  (fun m kk i hki hi => by
   obtain ⟨e,e1,e2⟩:=hop i hi
   obtain ⟨f,f1,f2⟩:=hop kk (by omega)
   have bi:(0:Int) ≤ (i:Int) ∧ (i:Int) < (op.length:Int):=⟨by omega,by omega⟩
   have bk:(0:Int) ≤ (kk:Int) ∧ (kk:Int) < (op.length:Int):=⟨by omega,by omega⟩
   have be:(0:Int) ≤ (e:Int) ∧ (e:Int) < (g.2.1.length:Int):=⟨by omega,by omega⟩
   have bf:(0:Int) ≤ (f:Int) ∧ (f:Int) < (g.2.1.length:Int):=⟨by omega,by omega⟩
   have hci:decide ((i:Int) < (op.length:Int))=true:=by simpa using hi
   have w0:IntKind.i64.wrap ((i:Int)+1) = ((i+1:Nat):Int):=wrap_s (by omega)
   have key:f52.l2051 k op tm ct dn g es q (m+1) ((kk:Int),(i:Int))=if T tm e < T tm f ∨ (T tm e=T tm f∧T ct e < T ct f) then f52.l2051 k op tm ct dn g es q m ((i:Int),((i+1:Nat):Int)) else f52.l2051 k op tm ct dn g es q m ((kk:Int),((i+1:Nat):Int)):=by
    rw [f52.l2051]
    simp only [Int.toNat_natCast,e1,f1,h1,h2,if_t hci,if_t bi,if_t bk,if_t be,if_t bf,f52.j2115,w0]
    rw [if_t (fun _ => be),if_t (fun _ => bf),if_t (fun _ => be),if_t (fun _ => bf),Option.bind_some]
    by_cases c1:T tm e < T tm f
    ·rw [if_t (by rw [show decide (tm.getD e 0 < tm.getD f 0)=true from decide_eq_true c1]; rfl),if_pos (.inl c1)]
    ·rw [show decide (tm.getD e 0 < tm.getD f 0)=false from decide_eq_false c1]
     by_cases c2:T tm e=T tm f
     ·rw [show (tm.getD e 0 == tm.getD f 0)=true from beq_iff_eq.2 c2]
      by_cases c3:T ct e < T ct f
      ·rw [if_t (by rw [show decide (ct.getD e 0 < ct.getD f 0)=true from decide_eq_true c3]; rfl),if_pos (.inr ⟨c2,c3⟩)]
      ·rw [if_f (by rw [show decide (ct.getD e 0 < ct.getD f 0)=false from decide_eq_false c3]; decide),if_neg (by omega)]
     ·rw [show (tm.getD e 0 == tm.getD f 0)=false from beq_false_of_ne c2,if_f (by simp),if_neg (by omega)]
   show (_→f52.l2051 k op tm ct dn g es q (m+1) ((kk:Int),(i:Int))=f52.l2051 k op tm ct dn g es q m ((i:Int),((i+1:Nat):Int))) ∧ (_→f52.l2051 k op tm ct dn g es q (m+1) ((kk:Int),(i:Int))=f52.l2051 k op tm ct dn g es q m ((kk:Int),((i+1:Nat):Int)))
   rw [e1,f1,Int.toNat_natCast,Int.toNat_natCast,key]
   exact ⟨fun h => if_pos h,fun h => if_neg h⟩)
  (fun m kk hkk => by
   obtain ⟨f,f1,f2⟩:=hop kk hkk
   have bk:(0:Int) ≤ (kk:Int) ∧ (kk:Int) < (op.length:Int):=⟨by omega,by omega⟩
   have bf:(0:Int) ≤ (f:Int) ∧ (f:Int) < (g.2.1.length:Int):=⟨by omega,by omega⟩
   have w1:IntKind.i64.wrap ((op.length:Int) - 1) = ((op.length - 1:Nat):Int):=by rw [wrap_in (by omega) (by omega)]; omega
   have hend:=road_ends hg (road_nat f2)
   have hfr:(roadAt g (f:Int)).1 = (g.2.1.getD f dR).1:=by unfold roadAt; rw [Int.toNat_natCast]
   rw [hfr] at hend
   show f52.l2051 k op tm ct dn g es q (m+1) ((kk:Int),(op.length:Int))=_
   rw [f52.l2051,if_f (by simp)]
   simp only [Int.toNat_natCast,f1,h3,hel,List.length_set,w1,if_t bk,if_t bf]
   rw [if_t ⟨by omega,by omega⟩,if_t ⟨by omega,by omega⟩,if_t hend.1]
   rfl)
  (op.length - 1) 0 1 k (by omega) (by omega) (by omega) (fun j hj => by
   obtain rfl:j=0:=by omega
   intro h; omega)
 obtain ⟨x,x1,x2⟩:=hop kk q1
 exact ⟨kk,x,q1,x1,x2,q2,q3⟩
theorem run52 {g:Graph} (hg:GOk g) (k:Nat) (hk:1048576 < k) (t:Int) {es:List (List Int)} (hes:Ends g true es) (tm ct op:List Int)
 (hI:Inv (dgB g hg t) (dgB g hg t).adj tm ct (List.replicate g.2.1.length false)) (hR:Row (dgB g hg t) tm (List.replicate g.2.1.length false) op) :
 ∃ tm' ct',f52.l1235 k g es k (tm,ct,List.replicate g.2.1.length false,op)=some (tm',ct')∧Final (dgB g hg t) tm' ct':=by
 have n2:=hg.n2
 obtain ⟨_,tm',ct',_,q1,q2,_⟩:=rowRun (G:=dgB g hg t) (P:=fun _ => True) (σ:=Unit) (K:=fun _ _ _ => True) (L:=fun m _ tm ct dn op => f52.l1235 k g es m (tm,ct,dn,op)) (F:=fun _ tm ct => some (tm,ct))
  (fun m _ tm ct dn op hI hR _ _ h0 => by
   obtain ⟨kk,x,c1,c2,c3,c4,c5⟩:=min52 hg k hk hes.1 op tm ct dn hI.l1 hI.l2 hI.l3 (fun i hi => by obtain ⟨e,e1,e2,_⟩:=hR.in_ hi; exact ⟨e,e1,e2⟩) h0 hR.len (f52.l1235 k g es m)
   obtain ⟨d1,d2,d3,d4,d5⟩:=rowMark hI hR c1 c2 c5
   obtain ⟨tm',ct',op',r1,r2,r3⟩:=relax52 hg k hk t c3 hes op kk c2 dn hI.l3 (f52.l1235 k g es m) tm ct (remK op kk) d3 d4 d5
   refine ⟨x,(),tm',ct',op',d1,d2,?_,r2,r3,trivial,trivial⟩
   show f52.l1235 k g es (m+1) (tm,ct,dn,op)=_
   rw [f52.l1235,if_t (by simp; omega),c4,r1])
  (fun m _ tm ct dn op h0 => by
   show f52.l1235 k g es (m+1) (tm,ct,dn,op)=_
   rw [f52.l1235,if_f (by simp [h0])])
  g.2.1.length k () tm ct _ op (by show g.2.1.length - _≤_; omega) (by omega) hI hR trivial trivial
 exact ⟨tm',ct',q1,q2⟩
theorem e52 {g:Graph} (hg:GOk g) (k:Nat) (hk:1048576 < k) (t:Int):∃ tm ct,f52 k g t=some (tm,ct)∧Final (dgB g hg t) tm ct:=by
 have n2:=hg.n2
 have c8:(0:Int) ≤ (g.2.1.length:Int)∧Int.toNat (g.2.1.length:Int)*8≤140737488355328:=⟨by omega,by rw [Int.toNat_natCast]; omega⟩
 have c1:(0:Int) ≤ (g.2.1.length:Int)∧Int.toNat (g.2.1.length:Int)*1≤140737488355328:=⟨by omega,by rw [Int.toNat_natCast]; omega⟩
 obtain ⟨es,es1,es2,es3⟩:=e49 hg k hk true
 have hst:∀ e,(dgB g hg t).start e=if e < g.2.1.length ∧ (g.2.1.getD e dR).2.1=t then some (timeOf g e) else none:=fun _ => rfl
 have go:∀ (d i m:Nat) (tm ct op:List Int),i+d=g.2.1.length→d < m→tm.length=g.2.1.length→ct.length=g.2.1.length→op.length≤i→Nd op →
  (∀ v,v ∈ op↔∃ e:Nat,v = (e:Int)∧e < i∧0≤T tm e) → (∀ e s,e < i → (dgB g hg t).start e=some s→T tm e=s∧T ct e=1) → (∀ e,e < i → (dgB g hg t).start e=none→T tm e = -1∧T ct e=0) → (∀ e,i≤e→T ct e=0) →
  ∃ tm' ct',f52.l66 k g t m (tm,ct,op,(i:Int))=some (tm',ct')∧Final (dgB g hg t) tm' ct':=by
  intro d
  induction d with
  | zero =>
    intro i m tm ct op a1 a2 a3 a4 a5 a6 a7 a8 a9 a10
    obtain ⟨m,rfl⟩:∃ q,m=q+1:=⟨m - 1,by omega⟩
    obtain rfl:i=g.2.1.length:=by omega
    rw [f52.l66,if_f (by simp),es1,Option.bind_some,Int.toNat_natCast]
    exact run52 hg k hk t ⟨es2,es3⟩ tm ct op (Inv.init a3 a4 (fun e s he h => a8 e s he h) (fun e he h => a9 e he h)) (Row.init a6 a7)
  | succ d ih =>
    intro i m tm ct op a1 a2 a3 a4 a5 a6 a7 a8 a9 a10
    obtain ⟨m,rfl⟩:∃ q,m=q+1:=⟨m - 1,by omega⟩
    have hi:i < g.2.1.length:=by omega
    have hci:decide ((i:Int) < (g.2.1.length:Int))=true:=by simpa using hi
    have bi:(0:Int) ≤ (i:Int) ∧ (i:Int) < (g.2.1.length:Int):=⟨by omega,by omega⟩
    have w0:IntKind.i64.wrap ((i:Int)+1) = ((i+1:Nat):Int):=wrap_s (by omega)
    have ht:=time_bd hg hi
    have nin:(i:Int) ∉ op:=fun h => by obtain ⟨e,e1,e2,_⟩:=(a7 _).1 h; omega
    rw [f52.l66]
    simp only [Int.toNat_natCast,List.length_set,a3,a4,if_t hci,if_t bi,w0,f52.j124]
    by_cases hto:(g.2.1.getD i dR).2.1=t
    ·rw [if_t (by simpa using hto),if_t (by simp; omega)]
     have hsi:(dgB g hg t).start i=some (timeOf g i):=by rw [hst,if_pos ⟨hi,hto⟩]
     have o1:∀ e,i≠e→T ((tm.set i (-1)).set i (g.2.1.getD i dR).2.2.2.1) e=T tm e:=fun e h => by
      show ((tm.set i (-1)).set i _).getD e 0=_
      rw [getD_set_other h,getD_set_other h]
     have o2:T ((tm.set i (-1)).set i (g.2.1.getD i dR).2.2.2.1) i=timeOf g i:=getD_set_same (by simp; omega) _ _
     have o3:∀ e,i≠e→T (ct.set i 1) e=T ct e:=fun e h => getD_set_other h _ _
     have o4:T (ct.set i 1) i=1:=getD_set_same (by omega) _ _
     refine ih (i+1) m _ _ _ (by omega) (by omega) (by simp [a3]) (by simp [a4]) (by simp; omega) (a6.app nin) (fun v => ?_) (fun e s he h => ?_) (fun e he h => ?_) (fun e he => ?_)
     ·rw [List.mem_append,a7,List.mem_singleton]
      constructor
      ·rintro (⟨e,h1,h2,h3⟩ | h1)
       ·exact ⟨e,h1,by omega,by rw [o1 e (by omega)]; exact h3⟩
       ·exact ⟨i,h1,by omega,by rw [o2]; omega⟩
      ·rintro ⟨e,h1,h2,h3⟩
       by_cases hei:i=e
       ·exact .inr (by rw [h1,hei])
       ·rw [o1 e hei] at h3; exact .inl ⟨e,h1,by omega,h3⟩
     ·by_cases hei:i=e
      ·subst hei; rw [hsi] at h; rw [o2,o4]; exact ⟨by simpa using h,rfl⟩
      ·rw [o1 e hei,o3 e hei]; exact a8 e s (by omega) h
     ·by_cases hei:i=e
      ·subst hei; rw [hsi] at h; cases h
      ·rw [o1 e hei,o3 e hei]; exact a9 e (by omega) h
     ·rw [o3 e (by omega)]; exact a10 e (by omega)
    ·rw [if_f (by simpa using hto)]
     have hsi:(dgB g hg t).start i=none:=by rw [hst,if_neg (fun h => hto h.2)]
     have o1:∀ e,i≠e→T (tm.set i (-1)) e=T tm e:=fun e h => getD_set_other h _ _
     have o2:T (tm.set i (-1)) i = -1:=getD_set_same (by omega) _ _
     refine ih (i+1) m _ _ _ (by omega) (by omega) (by simp [a3]) a4 (by omega) a6 (fun v => ?_) (fun e s he h => ?_) (fun e he h => ?_) (fun e he => a10 e (by omega))
     ·rw [a7]
      constructor
      ·rintro ⟨e,h1,h2,h3⟩; exact ⟨e,h1,by omega,by rw [o1 e (by omega)]; exact h3⟩
      ·rintro ⟨e,h1,h2,h3⟩
       by_cases hei:i=e
       ·subst hei; rw [o2] at h3; omega
       ·rw [o1 e hei] at h3; exact ⟨e,h1,by omega,h3⟩
     ·by_cases hei:i=e
      ·subst hei; rw [hsi] at h; cases h
      ·rw [o1 e hei]; exact a8 e s (by omega) h
     ·by_cases hei:i=e
      ·subst hei; rw [o2]; exact ⟨rfl,a10 i (Nat.le_refl _)⟩
      ·rw [o1 e hei]; exact a9 e (by omega) h
 unfold f52
 rw [if_t c8,if_t c8,if_t c1,Int.toNat_natCast]
 exact go g.2.1.length 0 k _ _ [] (by omega) (by omega) (by simp) (by simp) (by simp) (fun i j h => by simp at h) (fun v => by simp) (fun e s h => by omega) (fun e h => by omega) (fun e _ => by
  show (List.replicate _ (0:Int)).getD e 0=0
  rw [List.getD_eq_getElem?_getD,List.getElem?_replicate]; split <;> rfl)
end Go.Proofs.Ytdjadmdiehkfdaa
