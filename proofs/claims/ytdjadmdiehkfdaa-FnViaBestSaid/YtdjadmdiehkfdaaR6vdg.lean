/-
  Forbid, NoBack and the drawn graphs end. No condition.
-/
import Derived.Test.YtdjadmdiehkfdaaR6vdm
set_option linter.unusedVariables false
set_option linter.unusedSimpArgs false
namespace Go.Proofs.Ytdjadmdiehkfdaa
open Go Go.Vm Go.Proofs V
def PR (g:Graph) (n:Nat) (y:Graph):Prop:=y.1=g.1∧y.2.1=g.2.1∧y.2.2.length≤n
theorem find_tot (k:Nat) (g:Graph) (x:Int) (hP:g.1.length≤1048576):∀ (f lo hi:Nat),lo≤hi→hi≤g.1.length→hi - lo < f→∃ r,f101.l16 k g x f ((lo:Int),(hi:Int))=some r
 | 0,lo,hi,_,_,h => by omega
 | f+1,lo,hi,h1,h2,h3 => by
   rw [f101.l16]
   by_cases hlt:lo < hi
   ·have c1:decide ((lo:Int) < (hi:Int))=true:=decide_eq_true (by omega)
    have hb:(0:Int) ≤ (((lo+hi) / 2:Nat):Int) ∧ (((lo+hi) / 2:Nat):Int) < (g.1.length:Int):=⟨by omega,by omega⟩
    rw [if_t c1,if_t (by decide),half hlt (by omega),if_t hb,Int.toNat_natCast]
    split
    ·rw [wrap_s (by omega)]
     exact find_tot k g x hP f ((lo+hi) / 2+1) hi (by omega) h2 (by omega)
    ·exact find_tot k g x hP f lo ((lo+hi) / 2) (by omega) (by omega) (by omega)
   ·rw [if_f (by rw [decide_eq_true_eq]; omega),if_t (fun hh => by rw [decide_eq_true_eq] at hh; omega)]
    split
    ·exact ⟨_,rfl⟩
    ·exact ⟨_,rfl⟩
theorem t101 (k:Nat) (hk:1048576 < k) (g:Graph) (x:Int) (hP:g.1.length≤1048576):∃ r,f101 k g x=some r :=
 find_tot k g x hP k 0 g.1.length (by omega) (by omega) (by omega)
theorem ban_go (k:Nat) (l:List Ban) (b:Ban) (hl:l.length≤1048576):∀ (f lo hi:Nat),lo≤hi→hi≤l.length→hi - lo < f→∃ r,f106.l22 k l b f ((lo:Int),(hi:Int))=some r∧r.length≤l.length+1
 | 0,lo,hi,_,_,h => by omega
 | f+1,lo,hi,h1,h2,h3 => by
   rw [f106.l22]
   by_cases hlt:lo < hi
   ·have c1:decide ((lo:Int) < (hi:Int))=true:=decide_eq_true (by omega)
    have hb:(0:Int) ≤ (((lo+hi) / 2:Nat):Int) ∧ (((lo+hi) / 2:Nat):Int) < (l.length:Int):=⟨by omega,by omega⟩
    rw [if_t c1,if_t (by decide),half hlt (by omega),if_t hb,Int.toNat_natCast,e72,Option.bind_some]
    split
    ·rw [wrap_s (by omega)]
     exact ban_go k l b hl f ((lo+hi) / 2+1) hi (by omega) h2 (by omega)
    ·exact ban_go k l b hl f lo ((lo+hi) / 2) (by omega) (by omega) (by omega)
   ·rw [if_f (by rw [decide_eq_true_eq]; omega),if_t (fun hh => by rw [decide_eq_true_eq] at hh; omega)]
    split
    ·exact ⟨_,rfl,by omega⟩
    ·have e1:(List.drop 0 (List.take (Int.toNat (lo:Int)) l)).length=lo:=by simp; omega
     have e2:(List.drop (Int.toNat (lo:Int)) (List.take l.length l)).length=l.length - lo:=by simp
     rw [if_t ⟨trivial,by omega,by omega,by omega⟩,if_t (by rw [e1]; simp only [List.length_nil]; omega),if_t (by rw [List.length_append,e1]; simp only [List.length_nil,List.length_singleton]; omega),if_t ⟨by omega,trivial,by omega,by omega⟩,if_t (by rw [List.length_append,List.length_append,e1,e2]; simp only [List.length_nil,List.length_singleton]; omega)]
     exact ⟨_,rfl,by rw [List.length_append,List.length_append,List.length_append,e1,e2]; simp only [List.length_nil,List.length_singleton]; omega⟩
theorem t106 (k:Nat) (hk:1048576 < k) (l:List Ban) (b:Ban) (hl:l.length≤1048575):∃ r,f106 k l b=some r∧r.length≤l.length+1 :=
 ban_go k l b (by omega) k 0 l.length (by omega) (by omega) (by omega)
theorem t104 (k:Nat) (g:Graph) (h1:g.1.length≤1048576) (h2:g.2.1.length≤1048576) (h3:g.2.2.length≤1048576):f104 k g=some g:=by
 unfold f104
 rw [if_t (by simp only [List.length_nil]; omega),if_t (by simp only [List.length_nil]; omega),if_t (by simp only [List.length_nil]; omega)]
 simp
theorem forb_in (k:Nat) (hk:1048576 < k) (g:Graph) (h2:g.2.1.length≤8000) (x3 r1:Int) (i:Nat) (q:Graph→Option Graph) (hq:∀ y,PR g 2001 y→∃ z,q y=some z∧PR g 2001 z) :
 ∀ (d m j:Nat) (y:Graph),g.2.1.length - j=d→d < m→j≤g.2.1.length→PR g 2001 y→∃ z,f105.l483 k x3 r1 (i:Int) q m (y,(j:Int))=some z∧PR g 2001 z
 | d,0,j,y,_,h,_,_ => by omega
 | 0,m+1,j,y,h,_,hj,hy => by
   have e2:y.2.1.length=g.2.1.length:=by rw [hy.2.1]
   have c1:decide ((j:Int) < (y.2.1.length:Int))=false:=decide_eq_false (by omega)
   rw [f105.l483,c1,cond_false,if_f (by simp)]
   exact hq y hy
 | d+1,m+1,j,y,h,hm,hj,hy => by
   have e2:y.2.1.length=g.2.1.length:=by rw [hy.2.1]
   have hb:(0:Int) ≤ (j:Int) ∧ (j:Int) < (y.2.1.length:Int):=⟨by omega,by omega⟩
   rw [f105.l483,decide_eq_true hb.2,cond_true]
   by_cases hl:y.2.2.length≤2000
   ·rw [if_t (by rw [decide_eq_true_eq]; omega),if_t hb,if_t (fun _ => hb)]
    have ih:=fun y hy => forb_in k hk g h2 x3 r1 i q hq d m (j+1) y (by omega) (by omega) (by omega) hy
    split
    ·obtain ⟨r,q1,q2⟩:=t106 k hk y.2.2 ((i:Int),(j:Int)) (by omega)
     rw [q1,Option.bind_some]
     unfold f105.j517
     rw [wrap_s (by omega)]
     exact ih _ ⟨hy.1,hy.2.1,by simp only; omega⟩
    ·unfold f105.j517
     rw [wrap_s (by omega)]
     exact ih _ hy
   ·rw [if_f (by rw [decide_eq_true_eq]; omega)]
    exact hq y hy
theorem forb_out (k:Nat) (hk:1048576 < k) (g:Graph) (h2:g.2.1.length≤8000) (x1 r1 x3:Int) :
 ∀ (d m j:Nat) (y:Graph),g.2.1.length - j=d→d < m→j≤g.2.1.length→PR g 2001 y→∃ z,f105.l263 k x1 r1 x3 m (y,(j:Int))=some z∧PR g 2001 z
 | d,0,j,y,_,h,_,_ => by omega
 | 0,m+1,j,y,h,_,hj,hy => by
   have e2:y.2.1.length=g.2.1.length:=by rw [hy.2.1]
   rw [f105.l263,if_f (by rw [decide_eq_true_eq]; omega)]
   exact ⟨_,rfl,hy⟩
 | d+1,m+1,j,y,h,hm,hj,hy => by
   have e2:y.2.1.length=g.2.1.length:=by rw [hy.2.1]
   have hb:(0:Int) ≤ (j:Int) ∧ (j:Int) < (y.2.1.length:Int):=⟨by omega,by omega⟩
   have ih:∀ y,PR g 2001 y→∃ z,f105.j482 k (j:Int) (f105.l263 k x1 r1 x3 m) y=some z∧PR g 2001 z:=fun y hy => by
    unfold f105.j482
    rw [wrap_s (by omega)]
    exact forb_out k hk g h2 x1 r1 x3 d m (j+1) y (by omega) (by omega) (by omega) hy
   rw [f105.l263,if_t (decide_eq_true hb.2),if_t hb,if_t (fun _ => hb)]
   split
   ·exact ih y hy
   ·exact forb_in k hk g h2 x3 r1 j _ ih _ k 0 y rfl (by omega) (Nat.zero_le _) hy
theorem t105 (k:Nat) (hk:1048576 < k) (g:Graph) (h1:g.1.length≤5000) (h2:g.2.1.length≤8000) (x1 x2 x3:Int) (y:Graph) (hy:PR g 2001 y):∃ z,f105 k y x1 x2 x3=some z∧PR g 2001 z:=by
 obtain ⟨r,hr⟩:=t101 k hk y x2 (by rw [hy.1]; omega)
 unfold f105
 rw [hr,Option.bind_some]
 exact forb_out k hk g h2 x1 r x3 _ k 0 y rfl (by omega) (Nat.zero_le _) hy
def Left (g y:Graph):Prop:=PR g 2001 y∨y=noG
theorem t84 (k:Nat) (hk:1048576 < k) (g:Graph) (hg:GOk g) (x:List (List Int)) (hx:x.length≤1000):∃ z,f84 k g x=some z∧Left g z:=by
 have n1:=hg.n1
 have n2:=hg.n2
 have n3:=hg.n3
 have lp:∀ (d m i:Nat) (y:Graph),x.length - i=d→d < m→i≤x.length→PR g 2001 y→∃ z,f84.l96 k x m (y,(i:Int))=some z∧Left g z:=by
  intro d
  induction d with
  | zero =>
    intro m i y h1 h2 h3 hy
    obtain ⟨m,rfl⟩:∃ m',m=m'+1:=⟨m - 1,by omega⟩
    rw [f84.l96,if_f (by rw [decide_eq_true_eq]; omega)]
    split
    ·exact ⟨_,rfl,.inr rfl⟩
    ·exact ⟨_,rfl,.inl hy⟩
  | succ d ih =>
    intro m i y h1 h2 h3 hy
    obtain ⟨m,rfl⟩:∃ m',m=m'+1:=⟨m - 1,by omega⟩
    have hb:(0:Int) ≤ (i:Int) ∧ (i:Int) < (x.length:Int):=⟨by omega,by omega⟩
    rw [f84.l96,if_t (decide_eq_true hb.2),if_t hb,if_t (fun _ => hb)]
    simp only [Int.toNat_natCast]
    have hj:∀ y,PR g 2001 y→∃ z,f84.j175 k (i:Int) (f84.l96 k x m) y=some z∧Left g z:=fun y hy => by
     unfold f84.j175
     rw [wrap_s (by omega)]
     exact ih m (i+1) y (by omega) (by omega) (by omega) hy
    by_cases h3':(x.getD i []).length=3
    ·have c3:(((List.length (x.getD i []):Int)) == 3)=true:=by rw [h3']; rfl
     have b0:(0:Int)≤0 ∧ (0:Int) < ((x.getD i []).length:Int):=⟨by omega,by omega⟩
     have b1:(0:Int)≤1 ∧ (1:Int) < ((x.getD i []).length:Int):=⟨by omega,by omega⟩
     have b2:(0:Int)≤2 ∧ (2:Int) < ((x.getD i []).length:Int):=⟨by omega,by omega⟩
     obtain ⟨r,hr⟩:=t101 k hk y ((x.getD i []).getD (Int.toNat 1) 0) (by rw [hy.1]; omega)
     rw [if_t (fun _ => b1),if_t c3,hr,Option.bind_some,c3,cond_true]
     split
     ·obtain ⟨z,z1,z2⟩:=t105 k hk g n1 n2 ((x.getD i []).getD (Int.toNat 0) 0) ((x.getD i []).getD (Int.toNat 1) 0) ((x.getD i []).getD (Int.toNat 2) 0) y hy
      simp only [if_t hb,if_t b0,if_t b1,if_t b2,z1,Option.bind_some]
      exact hj z z2
     ·exact hj y hy
    ·have c3:(((List.length (x.getD i []):Int)) == 3)=false:=by rw [beq_eq_false_iff_ne]; omega
     rw [if_t (fun h => by rw [c3] at h; cases h),if_f (by rw [c3]; simp),Option.bind_some,c3,cond_false,if_f (by simp)]
     exact hj y hy
 unfold f84
 rw [spec47 k hk g (by omega) (by omega) (by omega),Option.bind_some]
 split
 ·exact ⟨_,rfl,.inr rfl⟩
 ·rw [t104 k g (by omega) (by omega) (by omega),Option.bind_some]
  exact lp _ k 0 g rfl (by omega) (by omega) ⟨rfl,rfl,by omega⟩
theorem back_in (k:Nat) (hk:1048576 < k) (g:Graph) (l:List Int) (hl:l.length≤8000) (b:Bool) (i:Nat) (hi:i < 8000) (q:Graph × Int→Option Graph) (hq:∀ y,PR g 2001 y→∃ z,q (y,((i+1:Nat):Int))=some z∧Left g z) :
 ∀ (d m j:Nat) (y:Graph),l.length - j=d→d < m→j≤l.length→PR g 2001 y→∃ z,f85.l1433 k l b (i:Int) q m (y,(j:Int))=some z∧Left g z
 | d,0,j,y,_,h,_,_ => by omega
 | 0,m+1,j,y,h,_,hj,hy => by
   have c1:decide ((j:Int) < (l.length:Int))=false:=decide_eq_false (by omega)
   rw [f85.l1433,c1,cond_false,if_f (by simp),wrap_s (by omega)]
   exact hq y hy
 | d+1,m+1,j,y,h,hm,hj,hy => by
   have hb:(0:Int) ≤ (j:Int) ∧ (j:Int) < (l.length:Int):=⟨by omega,by omega⟩
   rw [f85.l1433,decide_eq_true hb.2,cond_true]
   cases b with
   | false =>
     rw [if_f (by simp),wrap_s (by omega)]
     exact hq y hy
   | true =>
     obtain ⟨r,q1,q2⟩:=t106 k hk y.2.2 ((i:Int),l.getD (Int.toNat (j:Int)) 0) (by have:=hy.2.2; omega)
     rw [if_t rfl,if_t hb,q1,Option.bind_some]
     by_cases hr:r.length > 2000
     ·rw [if_t (by rw [decide_eq_true_eq]; omega)]
      exact ⟨_,rfl,.inr rfl⟩
     ·rw [if_f (by rw [decide_eq_true_eq]; omega),wrap_s (by omega)]
      exact back_in k hk g l hl true i hi q hq d m (j+1) _ (by omega) (by omega) (by omega) ⟨hy.1,hy.2.1,by simp only; omega⟩
theorem back_mid (k:Nat) (hk:1048576 < k) (g g':Graph) (h2:g.2.1.length≤8000) (i:Nat) (hi:i < 8000) (y:Graph) (hy:PR g' 2001 y) (q:Graph × Int→Option Graph) (hq:∀ y,PR g' 2001 y→∃ z,q (y,((i+1:Nat):Int))=some z∧Left g' z) :
 ∀ (d m j:Nat) (l:List Int) (b:Bool),g.2.1.length - j=d→d < m→j≤g.2.1.length→l.length≤j→∃ z,f85.l1387 k g (i:Int) y q m (l,b,(j:Int))=some z∧Left g' z
 | d,0,j,l,b,_,h,_,_ => by omega
 | 0,m+1,j,l,b,h,_,hj,hl => by
   rw [f85.l1387,if_f (by rw [decide_eq_true_eq]; omega)]
   exact back_in k hk g' l (by omega) b i hi q hq _ k 0 y rfl (by omega) (Nat.zero_le _) hy
 | d+1,m+1,j,l,b,h,hm,hj,hl => by
   have hb:(0:Int) ≤ (j:Int) ∧ (j:Int) < (g.2.1.length:Int):=⟨by omega,by omega⟩
   have ih:∀ l b,l.length≤j+1→∃ z,f85.j1428 k (j:Int) (f85.l1387 k g (i:Int) y q m) (l,b)=some z∧Left g' z:=fun l b hl => by
    unfold f85.j1428
    simp only
    rw [wrap_s (by omega)]
    exact back_mid k hk g g' h2 i hi y hy q hq d m (j+1) l b (by omega) (by omega) (by omega) hl
   rw [f85.l1387,if_t (decide_eq_true hb.2),if_t hb]
   split
   ·exact ih l b (by omega)
   ·rw [Option.bind_some]
    split
    ·rw [if_t (by simp only [List.length_singleton]; omega)]
     exact ih _ b (by simp; omega)
    ·exact ih l true (by omega)
theorem t85 (k:Nat) (hk:1048576 < k) (g:Graph) (h1:g.1.length≤5000) (h2:g.2.1.length≤8000) (h3:g.2.2.length≤2001):∃ z,f85 k g=some z∧Left g z:=by
 have lp:∀ (d m i:Nat) (y:Graph),g.2.1.length - i=d→d < m→i≤g.2.1.length→PR g 2001 y→∃ z,f85.l732 k g m (y,(i:Int))=some z∧Left g z:=by
  intro d
  induction d with
  | zero =>
    intro m i y h1 h2 h3 hy
    obtain ⟨m,rfl⟩:∃ m',m=m'+1:=⟨m - 1,by omega⟩
    rw [f85.l732,if_f (by rw [decide_eq_true_eq]; omega)]
    exact ⟨_,rfl,.inl hy⟩
  | succ d ih =>
    intro m i y h1' h2' h3' hy
    obtain ⟨m,rfl⟩:∃ m',m=m'+1:=⟨m - 1,by omega⟩
    have hb:(0:Int) ≤ (i:Int) ∧ (i:Int) < (g.2.1.length:Int):=⟨by omega,by omega⟩
    rw [f85.l732,if_t (decide_eq_true hb.2),if_t hb]
    exact back_mid k hk g g h2 i (by omega) y hy _ (fun y hy => ih m (i+1) y (by omega) (by omega) (by omega) hy) _ k 0 [] false rfl (by omega) (Nat.zero_le _) (by simp)
 unfold f85
 rw [spec47 k hk g (by omega) (by omega) (by omega),Option.bind_some]
 split
 ·exact ⟨_,rfl,.inr rfl⟩
 ·rw [t104 k g (by omega) (by omega) (by omega),Option.bind_some]
  exact lp _ k 0 g rfl (by omega) (by omega) ⟨rfl,rfl,h3⟩
structure Mod (y:Graph):Prop where
 p:y.1.length≤5000
 r:y.2.1.length≤8000
 b:y.2.2.length≤2002
 e:0 < y.2.1.length→0 < y.1.length
theorem Left.mod {g y:Graph} (hg:Mod g) (h:Left g y):Mod y:=by
 rcases h with h | h
 ·exact ⟨by rw [h.1]; exact hg.p,by rw [h.2.1]; exact hg.r,by have:=h.2.2; omega,by rw [h.1,h.2.1]; exact hg.e⟩
 ·subst h; exact ⟨by simp,by simp,by simp,fun h => by simp at h⟩
theorem Left.bans {g y:Graph} (h:Left g y):y.2.2.length≤2001:=by
 rcases h with h | h
 ·exact h.2.2
 ·subst h; simp
theorem GOk.mod {g:Graph} (hg:GOk g):Mod g:=⟨hg.n1,hg.n2,by have:=hg.n3; omega,fun h => by
 have:=(road_ends hg (r:=0) (roadIs_iff.2 ⟨by omega,by omega⟩)).1
 omega⟩
theorem t60 (k:Nat) (hk:1048576 < k) (c:Cu) (hc:CuOk c):∃ r,f60 k c=some r∧CuOk r.2∧Mod r.1∧r.1.2.2.length≤2001:=by
 obtain ⟨r1,a1,a2,a3,a4,a5⟩:=t82 k hk c hc
 obtain ⟨r2,b1,b2,b3⟩:=t54 k r1.2 2 a2
 obtain ⟨y,y1,y2⟩:=make_tot k hk r1.1 ⟨fun x hx => (a3 x hx).2,fun x hx => (a4 x hx).1.2,fun x hx => (by rw [a5] at hx; cases hx),fun x hx => (by have:=(a4 x hx).2; omega),fun x hx => (by rw [a5] at hx; cases hx)⟩ (fun x hx => by have:=(a4 x hx).1.1; omega) (IntKind.i64.wrap (1+r2.1))
 have hg:=gok y1
 have n1:=hg.n1
 have n2:=hg.n2
 have n3:=hg.n3
 obtain ⟨r4,c1,c2⟩:=t61 k r2.2 2 b2
 have j121:∀ (c:Cu) (z:Graph),CuOk c→Mod z→z.2.2.length≤2001→∃ r,f60.j121 k (c,z)=some r∧CuOk r.2∧Mod r.1∧r.1.2.2.length≤2001:=fun c z hc hz hb => by
  obtain ⟨r,u1,u2⟩:=t61 k c 3 hc
  unfold f60.j121
  simp only [u1,Option.bind_some]
  split
  ·obtain ⟨w,w1,w2⟩:=t85 k hk z hz.p hz.r hb
   rw [w1,Option.bind_some]
   exact ⟨_,rfl,u2,w2.mod hz,w2.bans⟩
  ·exact ⟨_,rfl,u2,hz,hb⟩
 unfold f60
 rw [a1,Option.bind_some,b1,Option.bind_some,y2,Option.bind_some,c1,Option.bind_some]
 split
 ·rename_i hcond
  have hr:0 < y.2.1.length:=by
   simp only [Bool.cond_eq_ite] at hcond
   split at hcond
   ·rw [decide_eq_true_eq] at hcond; omega
   ·cases hcond
  obtain ⟨r5,d1,d2,d3⟩:=t54 k r4.2 4 c2
  have hb5:=d3 (by omega)
  rw [d1,Option.bind_some]
  have lp:∀ (d m:Nat) (c:Cu) (l:List (List Int)) (n:Int),CuOk c→l.length+d≤10→d < m→n = (d:Int)→∃ r,f60.l186 k y (f60.j121 k) m (c,l,n)=some r∧CuOk r.2∧Mod r.1∧r.1.2.2.length≤2001:=by
   intro d
   induction d with
   | zero =>
     intro m c l n hc hl hm hn
     obtain ⟨m,rfl⟩:∃ m',m=m'+1:=⟨m - 1,by omega⟩
     obtain ⟨w,w1,w2⟩:=t84 k hk y hg l (by omega)
     rw [f60.l186,if_f (by rw [decide_eq_true_eq]; omega),w1,Option.bind_some]
     exact j121 c w hc (w2.mod hg.mod) w2.bans
   | succ d ih =>
     intro m c l n hc hl hm hn
     obtain ⟨m,rfl⟩:∃ m',m=m'+1:=⟨m - 1,by omega⟩
     obtain ⟨r6,e1,e2,e3⟩:=t54 k c (y.2.1.length:Int) hc
     have hb6:=e3 (by omega)
     obtain ⟨r7,g1,g2,_⟩:=t54 k r6.2 9 e2
     have hend:(0:Int) ≤ (y.2.1.getD (Int.toNat r6.1) dR).2.1 ∧ (y.2.1.getD (Int.toNat r6.1) dR).2.1 < (y.1.length:Int):=(road_ends hg (r:=r6.1) (roadIs_iff.2 hb6)).2
     rw [f60.l186,if_t (by rw [decide_eq_true_eq]; omega),e1,Option.bind_some,if_t hb6]
     rw [if_t hend,g1,Option.bind_some,if_t (by simp only [List.length_singleton]; omega)]
     exact ih m r7.2 _ _ g2 (by simp; omega) (by omega) (by rw [wrap_in (by omega) (by omega)]; omega)
  exact lp r5.1.toNat k r5.2 [] r5.1 d2 (by simp only [List.length_nil]; omega) (by omega) (by omega)
 ·exact j121 _ _ c2 hg.mod (by omega)
theorem t62 (k:Nat) (c:Cu) (g:Graph) (hc:CuOk c) (hg:Mod g) (hb:g.2.2.length≤2001):∃ r,f62 k c g=some r∧CuOk r.1∧Mod r.2:=by
 have n1:=hg.p
 have n2:=hg.r
 have sm:∀ (l:List Spot) (l2:List Road) (l3:List Ban),l.length=g.1.length→l2.length=g.2.1.length→l3.length≤2002→Mod (l,(l2,l3)):=fun l l2 l3 h1 h2 h3 =>
  ⟨by show l.length≤5000; omega,by show l2.length≤8000; omega,h3,by show 0 < l2.length→0 < l.length; rw [h1,h2]; exact hg.e⟩
 unfold f62
 by_cases h0:g.2.1.length=0
 ·rw [if_t (by rw [beq_iff_eq]; omega)]
  exact ⟨_,rfl,hc,hg⟩
 ·rw [if_f (by rw [beq_iff_eq]; omega)]
  obtain ⟨r1,a1,a2,a3⟩:=t54 k c (g.2.1.length:Int) hc
  have hb1:=a3 (by omega)
  obtain ⟨r2,b1,b2,b3⟩:=t54 k r1.2 6 a2
  obtain ⟨r3,c1,c2,c3⟩:=t54 k r2.2 3 b2
  have hb3:=c3 (by omega)
  obtain ⟨r4,d1,d2,d3⟩:=t54 k r2.2 4 b2
  obtain ⟨r5,e1,e2,e3⟩:=t54 k r4.2 4 d2
  have hpl:=hg.e (by omega)
  rw [a1,Option.bind_some,if_t hb1,b1,Option.bind_some]
  split
  ·rw [c1,Option.bind_some,if_t ⟨hb3.1,by simpa using hb3.2⟩]
   exact ⟨_,rfl,c2,sm _ _ _ rfl (by simp) (by omega)⟩
  ·split
   ·rw [c1,Option.bind_some,if_t ⟨hb3.1,by simpa using hb3.2⟩,Option.bind_some]
    exact ⟨_,rfl,c2,sm _ _ _ rfl (by simp) (by omega)⟩
   ·split
    ·rw [Option.bind_some]
     exact ⟨_,rfl,b2,sm _ _ _ rfl (by simp) (by omega)⟩
    ·split
     ·rw [d1,Option.bind_some,e1,Option.bind_some,if_t (by simp only [List.length_singleton]; omega)]
      exact ⟨_,rfl,e2,sm _ _ (g.2.2 ++ [(r4.1,r5.1)]) rfl rfl (by rw [List.length_append]; simp only [List.length_singleton]; omega)⟩
     ·split
      ·rw [if_t ⟨by omega,by omega⟩]
       exact ⟨_,rfl,b2,sm _ _ _ (by simp) rfl (Nat.le_succ_of_le hb)⟩
      ·split
       ·exact ⟨_,rfl,b2,sm _ _ _ rfl (by simp) (by omega)⟩
       ·exact ⟨_,rfl,b2,hg⟩
theorem t32 (k:Nat) (hk:1048576 < k) (c:Cu) (hc:CuOk c):∃ r,f32 k c=some r∧CuOk r.2∧Mod r.1:=by
 obtain ⟨r1,a1,a2,a3,a4⟩:=t60 k hk c hc
 obtain ⟨r2,b1,b2⟩:=t61 k r1.2 14 a2
 unfold f32
 rw [a1,Option.bind_some,b1,Option.bind_some]
 split
 ·obtain ⟨r3,c1,c2,c3⟩:=t62 k r2.2 r1.1 b2 a3 a4
  rw [c1,Option.bind_some]
  exact ⟨_,rfl,c2,c3⟩
 ·exact ⟨_,rfl,b2,a3⟩
theorem t33 (k:Nat) (c:Cu) (g:Graph) (hc:CuOk c):∃ r,f33 k c g=some r∧CuOk r.2:=by
 obtain ⟨r1,a1,a2⟩:=t61 k c 30 hc
 unfold f33
 rw [a1,Option.bind_some]
 split
 ·obtain ⟨r2,b1,b2,b3⟩:=t54 k r1.2 3 a2
  have hb:=b3 (by omega)
  rw [b1,Option.bind_some,if_t ⟨hb.1,by simpa using hb.2⟩]
  exact ⟨_,rfl,b2⟩
 ·obtain ⟨r2,b1,b2,b3⟩:=t54 k r1.2 (g.1.length:Int) a2
  rw [b1,Option.bind_some]
  exact ⟨_,rfl,b2⟩
end Go.Proofs.Ytdjadmdiehkfdaa
