/-
  MARKS. A mark function fills what a law's value owns with rising numbers; a held function looks whether they still stand there. No condition.
-/
import Derived.Test.YtgonbndbnmimhaaDoorLawB
set_option linter.unusedVariables false
set_option linter.unusedSimpArgs false
namespace Go.Vm
open Go
theorem gd_set_eq {α:Type} {d:α} {l:List α} {i:Nat} {a:α} (h:i < l.length):(l.set i a).getD i d=a:=by
 rw [List.getD_eq_getElem?_getD,List.getElem?_set_self h]; rfl
theorem gd_set_ne {α:Type} {d:α} {l:List α} {i j:Nat} {a:α} (h:i≠j):(l.set i a).getD j d=l.getD j d:=by
 rw [List.getD_eq_getElem?_getD,List.getElem?_set_ne h,← List.getD_eq_getElem?_getD]
theorem getD_mem' {α:Type} {d:α} {l:List α} {i:Nat} (h:i < l.length):l.getD i d ∈ l:=by
 rw [List.getD_eq_getElem?_getD,List.getElem?_eq_getElem h]; exact List.getElem_mem h
def Mk {α:Type} (f:α→Int→Option (Int × α)) (R:Int→α→Int→Prop) (w:Int) (x:α):Prop :=
 ∀ v:Int,0≤v→v+w≤4611686018427387904→∃ c y,f x v=some (c,y)∧R v y c∧v≤c∧c≤v+w
def Hd {α:Type} (h:α→Int→Option Int) (R:Int→α→Int→Prop):Prop :=
 ∀ (v:Int) (y:α) (c:Int),0≤v→v≤c→c≤4611686018427387904→R v y c→h y v=some c
def RowR {α:Type} (d:α) (R:Int→α→Int→Prop) (v:Int) (ys:List α) (c:Int):Prop :=
 ys.length≤1048576∧∃ cs:Nat→Int,cs 0=v∧cs ys.length=c∧∀ i,i < ys.length→R (cs i) (ys.getD i d) (cs (i+1))∧cs i≤cs (i+1)
theorem markGo {α:Type} {d:α} {x:List α} {L:Nat→List α × Int × Int→Option (Int × List α)} {R:Int→α→Int→Prop} {w:Int} (hw:0≤w)
 (hs:∀ a ∈ x,∀ v,0≤v→v+w≤4611686018427387904→∃ c b,R v b c∧v≤c∧c≤v+w ∧
  ∀ m i (xs:List α),i < xs.length→xs.length=x.length→xs.getD i d=a→L (m+1) (xs,v,(i:Int))=L m (xs.set i b,c,((i+1:Nat):Int)))
 (he:∀ m (xs:List α) v,L (m+1) (xs,v,(xs.length:Int))=some (v,xs)) :
 ∀ (j i m:Nat) (xs:List α) (v:Int),i+j=x.length→j < m→xs.length=x.length → (∀ p,i≤p→p < x.length→xs.getD p d=x.getD p d)→0≤v→v + (j:Int)*w≤4611686018427387904 →
   ∃ c ys,∃ cs:Nat→Int,L m (xs,v,(i:Int))=some (c,ys)∧ys.length=x.length ∧ (∀ p,p < i→ys.getD p d=xs.getD p d)∧cs i=v∧cs x.length=c ∧
     (∀ p,i≤p→p < x.length→R (cs p) (ys.getD p d) (cs (p+1))∧cs p≤cs (p+1))∧v≤c∧c≤v + (j:Int)*w
 | 0,i,m,xs,v,h1,h2,h3,h4,h5,h6 => by
   obtain ⟨m,rfl⟩:∃ q,m=q+1:=⟨m - 1,by omega⟩
   obtain rfl:i=x.length:=by omega
   rw [← h3,he]
   exact ⟨v,xs,fun _ => v,rfl,rfl,fun _ _ => rfl,rfl,rfl,fun p q1 q2 => by omega,Int.le_refl _,by omega⟩
 | j+1,i,m,xs,v,h1,h2,h3,h4,h5,h6 => by
   obtain ⟨m,rfl⟩:∃ q,m=q+1:=⟨m - 1,by omega⟩
   have hi:i < xs.length:=by omega
   have e1:(((j+1:Nat):Int))*w = (j:Int)*w+w:=by rw [show ((j+1:Nat):Int) = (j:Int)+1 by omega,Int.add_mul,Int.one_mul]
   have e2:0 ≤ (j:Int)*w:=Int.mul_nonneg (by omega) hw
   have hmem:xs.getD i d ∈ x:=by rw [h4 i (Nat.le_refl _) (by omega)]; exact getD_mem' (by omega)
   obtain ⟨c1,b,r1,r2,r3,r4⟩:=hs _ hmem v h5 (by omega)
   rw [r4 m i xs hi h3 rfl]
   obtain ⟨c,ys,cs,q1,q2,q3,q4,q5,q6,q7,q8⟩:=markGo hw hs he j (i+1) m (xs.set i b) c1 (by omega) (by omega) (by rw [List.length_set]; exact h3)
    (fun p p1 p2 => by rw [gd_set_ne (by omega)]; exact h4 p (by omega) p2) (by omega) (by omega)
   refine ⟨c,ys,fun p => if p=i then v else cs p,q1,q2,fun p hp => by rw [q3 p (by omega),gd_set_ne (by omega)],if_pos rfl,?_,fun p p1 p2 => ?_,by omega,by omega⟩
   ·dsimp only; rw [if_neg (by omega)]; exact q5
   ·dsimp only
    by_cases hp:p=i
    ·subst hp
     rw [if_pos rfl,if_neg (by omega),q4,q3 p (by omega),gd_set_eq hi]
     exact ⟨r1,r2⟩
    ·rw [if_neg hp,if_neg (by omega)]
     exact q6 p (by omega) p2
theorem markRow {α:Type} {d:α} {x:List α} (hx:x.length≤1048576) {L:Nat→List α × Int × Int→Option (Int × List α)} {R:Int→α→Int→Prop} {w:Int} (hw:0≤w)
 (hs:∀ a ∈ x,∀ v,0≤v→v+w≤4611686018427387904→∃ c b,R v b c∧v≤c∧c≤v+w ∧
  ∀ m i (xs:List α),i < xs.length→xs.length=x.length→xs.getD i d=a→L (m+1) (xs,v,(i:Int))=L m (xs.set i b,c,((i+1:Nat):Int)))
 (he:∀ m (xs:List α) v,L (m+1) (xs,v,(xs.length:Int))=some (v,xs)) {k:Nat} (hk:1048576 < k) {W:Int} (hW:1048576*w≤W):Mk (fun x v => L k (x,v,(0:Int))) (RowR d R) W x:=fun v h0 h1 => by
 have e:(x.length:Int)*w≤1048576*w:=Int.mul_le_mul_of_nonneg_right (by omega) hw
 obtain ⟨c,ys,cs,q1,q2,q3,q4,q5,q6,q7,q8⟩:=markGo hw hs he x.length 0 k x v (by omega) (by omega) rfl (fun _ _ _ => rfl) h0 (by omega)
 exact ⟨c,ys,q1,⟨by omega,cs,q4,by rw [q2]; exact q5,fun i hi => q6 i (by omega) (by omega)⟩,q7,by omega⟩
theorem mono_cs {cs:Nat→Int} {n:Nat} (h:∀ i,i < n→cs i≤cs (i+1)):∀ {d i:Nat},i+d≤n→cs i≤cs (i+d)
 | 0,i,_ => Int.le_refl _
 | d+1,i,hd => Int.le_trans (mono_cs h (by omega)) (h (i+d) (by omega))
theorem heldRow {α:Type} {d:α} {L:List α→Nat→Int × Int→Option Int} {R:Int→α→Int→Prop}
 (hs:∀ (ys:List α) m i v c,i < ys.length→ys.length≤1048576→0≤v→v≤c→c≤4611686018427387904→R v (ys.getD i d) c→L ys (m+1) (v,(i:Int))=L ys m (c,((i+1:Nat):Int)))
 (he:∀ (ys:List α) m v,L ys (m+1) (v,(ys.length:Int))=some v) {k:Nat} (hk:1048576 < k):Hd (fun y v => L y k (v,(0:Int))) (RowR d R):=fun v ys c h0 h1 h2 ⟨hl,cs,c0,cn,hc⟩ => by
 have go:∀ (j i m:Nat),i+j=ys.length→j < m→L ys m (cs i,(i:Int))=some (cs ys.length):=by
  intro j
  induction j with
  | zero =>
    intro i m a b
    obtain ⟨m,rfl⟩:∃ q,m=q+1:=⟨m - 1,by omega⟩
    obtain rfl:i=ys.length:=by omega
    exact he _ _ _
  | succ j ih =>
    intro i m a b
    obtain ⟨m,rfl⟩:∃ q,m=q+1:=⟨m - 1,by omega⟩
    have m1:=mono_cs (fun i hi => (hc i hi).2) (d:=i) (i:=0) (by omega)
    have m2:=mono_cs (fun i hi => (hc i hi).2) (d:=j) (i:=i+1) (by omega)
    rw [Nat.zero_add] at m1
    rw [show i+1+j=ys.length by omega] at m2
    rw [hs ys m i (cs i) (cs (i+1)) (by omega) hl (by omega) (hc i (by omega)).2 (by omega) (hc i (by omega)).1]
    exact ih (i+1) m (by omega) (by omega)
 have:=go ys.length 0 k (by omega) (by omega)
 rw [c0,cn] at this
 exact this
theorem Mk.run {α:Type} {f:α→Int→Option (Int × α)} {R:Int→α→Int→Prop} {w:Int} {x:α} (h:Mk f R w x) {v:Int} (h0:0≤v) (h1:v+w≤4611686018427387904):∃ c y,f x v=some (c,y)∧R v y c∧v≤c∧c≤v+w:=h v h0 h1
def Keys {α β:Type} (m:List (α × β)):Prop:=(m.map (·.1)).Nodup
theorem mem_put {α β:Type} {eq:α→α→Bool} {x y:α} {v:β}:∀ {m:List (α × β)},y ∈ (mput eq x v m).map (·.1)→y=x∨y ∈ m.map (·.1)
 | [],h => by simpa [mput] using h
 | e :: m,h => by
   rw [mput] at h
   by_cases he:eq x e.1=true
   ·rw [if_pos he] at h; simp only [List.map_cons,List.mem_cons] at h ⊢
    rcases h with h | h
    ·exact .inl h
    ·exact .inr (.inr h)
   ·rw [if_neg he] at h; simp only [List.map_cons,List.mem_cons] at h ⊢
    rcases h with h | h
    ·exact .inr (.inl h)
    ·rcases mem_put h with h | h
     ·exact .inl h
     ·exact .inr (.inr h)
theorem Keys.put {α β:Type} {eq:α→α→Bool} (h:∀ a b,eq a b=true↔a=b) {x:α} {v:β}:∀ {m:List (α × β)},Keys m→Keys (mput eq x v m)
 | [],_ => by simp [Keys,mput]
 | e :: m,hk => by
   unfold Keys at hk ⊢
   rw [List.map_cons,List.nodup_cons] at hk
   rw [mput]
   by_cases he:eq x e.1=true
   ·obtain rfl:=(h _ _).1 he
    rw [if_pos he,List.map_cons,List.nodup_cons]; exact hk
   ·rw [if_neg he,List.map_cons,List.nodup_cons]
    refine ⟨fun hm => ?_,Keys.put h hk.2⟩
    rcases mem_put hm with h1 | h1
    ·exact he ((h _ _).2 h1.symm)
    ·exact hk.1 h1
end Go.Vm
