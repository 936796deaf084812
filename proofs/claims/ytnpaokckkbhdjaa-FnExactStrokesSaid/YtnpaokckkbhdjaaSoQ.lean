/-
  Own texts of this project, joined. No condition.
-/
import Derived.Test.YtnpaokckkbhdjaaSoX
import Derived.Test.YtnpaokckkbhdjaaVmSo
import Derived.Laws.Externs
import Derived.WalkKit
import Derived.BigCall
import Derived.BigGuard
import Derived.Shelf.Abstract
import Derived.Test.YtnpaokckkbhdjaaVmSr
import Derived.Sort.LotA
import Derived.Sort.Lot0
section
set_option linter.unusedVariables false
set_option linter.unusedSimpArgs false
open Go Go.Vm Go.Proofs Go.Lib
namespace Go.Proofs.Ytnpaokckkbhdjaa.S
end Go.Proofs.Ytnpaokckkbhdjaa.S
end
section
set_option linter.unusedVariables false
set_option linter.unusedSimpArgs false
open Go Go.Vm Go.Proofs Go.Lib
namespace Go.Proofs.Ytnpaokckkbhdjaa.S
open Go.Sort (SWO pdq bitsLen)
theorem swp_self {X:Array Nat} {p:Nat} (hp:p < X.size):Go.Sort.swp X p p=X:=by
 apply Array.toList_inj.1
 rw [swp_list hp hp,List.set_set]
 have:X[p]! = X.toList[p]'(by simpa using hp):=by simp [hp]
 rw [this,List.set_getElem_self]
theorem lit2e:(Extern.find Try.f176).map (fun e => (e (#[.int .i64 0,.int .i64 0] ++ #[])).run Try.prog)=some (fun W => .ok (.tuple #[]) W):=by kernel_rfl
theorem lit2 (W:World):(callFunc 176 (#[.int .i64 0,.int .i64 0] ++ #[])).run Try.prog W=.ok (.value (.tuple #[])) W:=by
 have h:=lit2e
 cases he:Extern.find Try.f176 with
 | none => rw [he] at h; cases h
 | some e =>
   rw [he] at h
   simp only [Option.map_some,Option.some.injEq] at h
   rw [run_callFunc_extern Try.func176 (by kernel_rfl) (by kernel_rfl) (by kernel_rfl) he,h]
   rfl
theorem find1 : Try.prog.funcs.findIdx? (·.name == "internal/reflectlite" ++ ".Swapper$" ++ toString 1) = some 175 := by kernel_rfl
theorem find2 : Try.prog.funcs.findIdx? (·.name == "internal/reflectlite" ++ ".Swapper$" ++ toString 2) = some 176 := by kernel_rfl
theorem find9 : Try.prog.funcs.findIdx? (·.name == "internal/reflectlite" ++ ".Swapper$" ++ toString 9) = some 183 := by kernel_rfl
theorem lit9 (args:Array Value) (W:World):(callFunc 183 args).run Try.prog W = ((Extern.ReflectliteSwapper.swap false args).run Try.prog W).andThen fun v w' => .ok (.value v) w' :=
 run_callFunc_extern Try.func183 (by kernel_rfl) (by kernel_rfl) (by kernel_rfl) (by kernel_rfl) args W
end Go.Proofs.Ytnpaokckkbhdjaa.S
end
section
set_option linter.unusedVariables false
set_option linter.unusedSimpArgs false
open Go Go.Vm Go.Proofs Go.Lib
namespace Go.Proofs.Ytnpaokckkbhdjaa.S
theorem info_get {t:TypeId} {α:Type} {p:TypeInfo→α} {x:α} (h:(Try.prog.info? t).map p=some x):∃ i,Try.prog.info? t=some i∧p i=x:=by
 cases hi:Try.prog.info? t with
 | none => rw [hi] at h; cases h
 | some i => rw [hi] at h; exact ⟨i,rfl,by simpa using h⟩
def swK (p:Bool) (bytes ke:Nat):Nat:=if p && bytes == 8 then 3 else if p && (ke == 24) then 4 else if p then 9 else match bytes with | 8 => 5 | 4 => 6 | 2 => 7 | 1 => 8 | _ => 9
end Go.Proofs.Ytnpaokckkbhdjaa.S
end
section
set_option linter.unusedVariables false
set_option linter.unusedSimpArgs false
open Go Go.Vm Go.Proofs
namespace Go.Proofs.Ytnpaokckkbhdjaa.S
open Go.Sort (swp swp_get)
section
variable (fam:Fam) (k:Nat)
def swi (a b d p:Nat):Nat:=if a≤p∧p < a+d then p - a+b else if b≤p∧p < b+d then p - b+a else p
def SwR (a b d:Nat) (X Y:Array Nat):Prop:=Y.size=X.size∧∀ p,p < X.size→Y[p]! = X[swi a b d p]!
theorem swp_at (d:Array Nat) {i j:Nat} (hi:i < d.size) (hj:j < d.size) (p:Nat):(swp d i j)[p]! = d[if p=j then i else if p=i then j else p]! := by
 rw [swp_get d hi hj]
 split
 ·rfl
 ·split <;> rfl
theorem swR_step {a b d:Nat} {X Y:Array Nat} (h:SwR a b d X Y) (hab:a+d < b) (hb:b+d < X.size):SwR a b (d+1) X (swp Y (a+d) (b+d)):=by
 obtain ⟨hs,hg⟩:=h
 refine ⟨by rw [Go.Sort.size_swp,hs],fun p hp => ?_⟩
 rw [swp_at Y (by omega) (by omega),hg _ (by split <;> (try split) <;> omega)]
 congr 1
 unfold swi
 repeat' split
 all_goals omega
theorem l226_eq (a b n:Nat) (X:Array Nat) (hab:a+n≤b) (hb:b+n≤X.size) (hX:X.size < 2305843009213693952):∀ (r d m:Nat) (Y:Array Nat),d+r=n→SwR a b d X Y→r+1≤m→∃ R,f226.l1 k (n:Int) (a:Int) (b:Int) m (Y,(d:Int))=some R∧SwR a b n X R
 | 0,d,m,Y,hd,h,hm => by
   obtain ⟨m,rfl⟩:∃ q,m=q+1:=⟨m - 1,by omega⟩
   have:d=n:=by omega
   subst this
   exact ⟨Y,by rw [f226.l1,if_neg (by simp)],h⟩
 | r+1,d,m,Y,hd,h,hm => by
   obtain ⟨m,rfl⟩:∃ q,m=q+1:=⟨m - 1,by omega⟩
   have hs:=h.1
   rw [f226.l1,if_pos (by simp; omega),wr (n:=(a:Int) + (d:Int)) (m:=a+d) (by omega) (by omega),wr (n:=(b:Int) + (d:Int)) (m:=b+d) (by omega) (by omega),if_pos (inX_nat.2 ⟨by omega,by omega⟩),swp_nat,wr (n:=(d:Int)+1) (m:=d+1) (by omega) (by omega)]
   exact l226_eq a b n X hab hb hX r (d+1) m _ (by omega) (swR_step h (by omega) (by omega)) (by omega)
theorem f226_eq {a b n:Nat} {X:Array Nat} (hab:a+n≤b) (hb:b+n≤X.size) (hX:X.size < 2305843009213693952) (hk:X.size+1≤k):∃ R,f226 k fam X (a:Int) (b:Int) (n:Int)=some R∧SwR a b n X R:=by
 unfold f226
 exact l226_eq k a b n X hab hb hX n 0 k X (by omega) ⟨rfl,fun p hp => by unfold swi; rw [if_neg (by omega),if_neg (by omega)]⟩ (by omega)
def rti (a m b p:Nat):Nat:=if a≤p∧p < a + (b - m) then p + (m - a) else if a + (b - m)≤p∧p < b then p - (b - m) else p
def Rot (a m b:Nat) (X Y:Array Nat):Prop:=Y.size=X.size∧∀ p,p < X.size→Y[p]! = X[rti a m b p]!
theorem rti_lt {a m b p n:Nat} (ham:a≤m) (hmb:m≤b) (hb:b≤n) (hp:p < n):rti a m b p < n:=by
 unfold rti
 repeat' split
 all_goals omega
theorem l26_eq (m:Nat):∀ (t i j q:Nat) (X:Array Nat),i+j≤t→0 < i→0 < j→i≤m→m+j≤X.size→X.size < 2305843009213693952→X.size+1≤k→t+1≤q →
 ∃ R,f220.l26 k fam (m:Int) q (X,(i:Int),(j:Int))=some R∧Rot (m - i) m (m+j) X R:=by
 intro t
 induction t with
 | zero => intro i j q X h hi hj; omega
 | succ t ih =>
   intro i j q X h hi hj him hmj hX hk hq
   obtain ⟨q,rfl⟩:∃ r,q=r+1:=⟨q - 1,by omega⟩
   rw [f220.l26]
   rw [wr (n:=(m:Int) - (i:Int)) (m:=m - i) (by omega) (by omega)]
   by_cases hij:i=j
   ·subst hij
    rw [if_neg (by simp)]
    obtain ⟨R,h1,h2,h3⟩:=f226_eq fam k (a:=m - i) (b:=m) (n:=i) (X:=X) (by omega) (by omega) hX hk
    rw [h1,Option.bind_some]
    refine ⟨R,rfl,h2,fun p hp => ?_⟩
    rw [h3 p hp]
    congr 1
    unfold swi rti
    repeat' split
    all_goals omega
   ·rw [if_pos (by simp; omega)]
    by_cases hgt:i > j
    ·rw [if_pos (by simp; omega)]
     obtain ⟨Y,h1,h2,h3⟩:=f226_eq fam k (a:=m - i) (b:=m) (n:=j) (X:=X) (by omega) (by omega) hX hk
     rw [h1,Option.bind_some,wr (n:=(i:Int) - (j:Int)) (m:=i - j) (by omega) (by omega)]
     obtain ⟨R,r1,r2,r3⟩:=ih (i - j) j q Y (by omega) (by omega) hj (by omega) (by omega) (by omega) (by omega) (by omega)
     refine ⟨R,r1,by omega,fun p hp => ?_⟩
     rw [r3 p (by omega),h3 _ (rti_lt (by omega) (by omega) (by omega) hp)]
     congr 1
     unfold swi rti
     repeat' split
     all_goals omega
    ·rw [if_neg (by simp; omega)]
     rw [wr (n:=(m:Int) + (j:Int)) (m:=m+j) (by omega) (by omega),wr (n:=((m+j:Nat):Int) - (i:Int)) (m:=m+j - i) (by omega) (by omega)]
     obtain ⟨Y,h1,h2,h3⟩:=f226_eq fam k (a:=m - i) (b:=m+j - i) (n:=i) (X:=X) (by omega) (by omega) hX hk
     rw [h1,Option.bind_some,wr (n:=(j:Int) - (i:Int)) (m:=j - i) (by omega) (by omega)]
     obtain ⟨R,r1,r2,r3⟩:=ih i (j - i) q Y (by omega) hi (by omega) him (by omega) (by omega) (by omega) (by omega)
     refine ⟨R,r1,by omega,fun p hp => ?_⟩
     rw [r3 p (by omega),h3 _ (rti_lt (by omega) (by omega) (by omega) hp)]
     congr 1
     unfold swi rti
     repeat' split
     all_goals omega
theorem f220_eq {a m b:Nat} {X:Array Nat} (ham:a < m) (hmb:m < b) (hb:b≤X.size) (hX:X.size < 2305843009213693952) (hk:X.size+1≤k):∃ R,f220 k fam X (a:Int) (m:Int) (b:Int)=some R∧Rot a m b X R:=by
 unfold f220
 rw [wr (n:=(m:Int) - (a:Int)) (m:=m - a) (by omega) (by omega),wr (n:=(b:Int) - (m:Int)) (m:=b - m) (by omega) (by omega)]
 obtain ⟨R,h1,h2⟩:=l26_eq fam k m (b - a) (m - a) (b - m) k X (by omega) (by omega) (by omega) (by omega) (by omega) hX hk (by omega)
 have e1:m - (m - a)=a:=by omega
 have e2:m + (b - m)=b:=by omega
 rw [e1,e2] at h2
 exact ⟨R,h1,h2⟩
end
end Go.Proofs.Ytnpaokckkbhdjaa.S
end
section
set_option linter.unusedVariables false
set_option linter.unusedSimpArgs false
open Go Go.Vm Go.Proofs
namespace Go.Proofs.Ytnpaokckkbhdjaa.S
open Go.Sort (SWO PermIn permIn_all permIn_mono permIn_trans permIn_refl)
section
variable {lt:Nat→Nat→Bool}
def Lx (lt:Nat→Nat→Bool) (x y:Nat):Prop:=lt x y=true ∨ (lt y x=false∧x < y)
theorem Lx.trans (hS:SWO lt) {x y z:Nat} (h1:Lx lt x y) (h2:Lx lt y z):Lx lt x z:=by
 unfold Lx at *
 rcases h1 with h1 | ⟨h1,h1'⟩ <;> rcases h2 with h2 | ⟨h2,h2'⟩
 ·exact .inl (hS.trans _ _ _ h1 h2)
 ·cases hxz:lt x z with
  | true => exact .inl rfl
  | false => exact absurd h1 (by rw [hS.ntrans _ _ _ hxz h2]; simp)
 ·cases hxz:lt x z with
  | true => exact .inl rfl
  | false => exact absurd h2 (by rw [hS.ntrans _ _ _ h1 hxz]; simp)
 ·cases hxz:lt x z with
  | true => exact .inl rfl
  | false => exact .inr ⟨hS.ntrans _ _ _ h2 h1,by omega⟩
theorem Lx.asym (hS:SWO lt) {x y:Nat} (h1:Lx lt x y):¬ Lx lt y x:=fun h2 => by
 have h3:=h1.trans hS h2
 unfold Lx at h3
 rw [hS.irrefl] at h3
 rcases h3 with h3 | ⟨_,h3⟩
 ·cases h3
 ·omega
def Srt (lt:Nat→Nat→Bool) (a b:Nat) (X:Array Nat):Prop:=∀ p q,a≤p→p < q→q < b→Lx lt X[p]! X[q]!
def Ord (a m b:Nat) (X:Array Nat):Prop:=∀ p q,a≤p→p < m→m≤q→q < b→X[p]! < X[q]!
structure Parts (lt:Nat→Nat→Bool) (a s m e b:Nat) (X:Array Nat):Prop where
 le1:a≤s
 le2:s≤m
 le3:m≤e
 le4:e≤b
 sz:b≤X.size
 l:Srt lt a m X
 r:Srt lt m b X
 o:Ord a m b X
 c1:∀ p q,a≤p→p < s→e≤q→q < b→lt X[q]! X[p]! = false
 c2:∀ p q,s≤p→p < m→m≤q→q < e→lt X[q]! X[p]! = true
theorem rt1 {s m e p:Nat} (h:p < s):rti s m e p=p:=by
 unfold rti; rw [if_neg (by omega),if_neg (by omega)]
theorem rt2 {s m e p:Nat} (h1:s≤p) (h2:p < s + (e - m)):rti s m e p=p + (m - s):=by
 unfold rti; rw [if_pos ⟨h1,h2⟩]
theorem rt3 {s m e p:Nat} (h1:s + (e - m)≤p) (h2:p < e):rti s m e p=p - (e - m):=by
 unfold rti; rw [if_neg (by omega),if_pos ⟨h1,h2⟩]
theorem rt4 {s m e p:Nat} (hm:s≤m) (h0:m≤e) (h:e≤p):rti s m e p=p:=by
 unfold rti; rw [if_neg (by omega),if_neg (by omega)]
theorem Parts.sep {a s m e b:Nat} {X Y:Array Nat} (h:Parts lt a s m e b X) (hr:Rot s m e X Y):∀ p q,a≤p→p < s + (e - m)→s + (e - m)≤q→q < b→Lx lt Y[p]! Y[q]! := by
 obtain ⟨has,hsm,hme,heb,hsz,hl,hrr,ho,h1,h2⟩:=h
 intro p q hp1 hp2 hq1 hq2
 rw [hr.2 p (by omega),hr.2 q (by omega)]
 by_cases c1:p < s
 ·rw [rt1 c1]
  by_cases c2:q < e
  ·rw [rt3 hq1 c2]
   exact hl _ _ hp1 (by omega) (by omega)
  ·rw [rt4 hsm hme (by omega)]
   exact .inr ⟨h1 p q hp1 c1 (by omega) hq2,ho p q hp1 (by omega) (by omega) hq2⟩
 ·rw [rt2 (by omega) hp2]
  by_cases c2:q < e
  ·rw [rt3 hq1 c2]
   exact .inl (h2 _ _ (by omega) (by omega) (by omega) (by omega))
  ·rw [rt4 hsm hme (by omega)]
   exact hrr _ _ (by omega) (by omega) hq2
theorem Parts.left {a s m e b:Nat} {X Y:Array Nat} (h:Parts lt a s m e b X) (hr:Rot s m e X Y):Srt lt a s Y∧Srt lt s (s + (e - m)) Y∧Ord a s (s + (e - m)) Y:=by
 obtain ⟨has,hsm,hme,heb,hsz,hl,hrr,ho,h1,h2⟩:=h
 refine ⟨fun p q h1 h2 h3 => ?_,fun p q h1 h2 h3 => ?_,fun p q h1 h2 h3 h4 => ?_⟩
 ·rw [hr.2 p (by omega),hr.2 q (by omega),rt1 (by omega),rt1 h3]
  exact hl _ _ h1 h2 (by omega)
 ·rw [hr.2 p (by omega),hr.2 q (by omega),rt2 h1 (by omega),rt2 (by omega) h3]
  exact hrr _ _ (by omega) (by omega) (by omega)
 ·rw [hr.2 p (by omega),hr.2 q (by omega),rt1 h2,rt2 h3 h4]
  exact ho _ _ h1 (by omega) (by omega) (by omega)
theorem Parts.right {a s m e b:Nat} {X Y:Array Nat} (h:Parts lt a s m e b X) (hr:Rot s m e X Y):Srt lt (s + (e - m)) e Y∧Srt lt e b Y∧Ord (s + (e - m)) e b Y:=by
 obtain ⟨has,hsm,hme,heb,hsz,hl,hrr,ho,h1,h2⟩:=h
 refine ⟨fun p q h1 h2 h3 => ?_,fun p q h1 h2 h3 => ?_,fun p q h1 h2 h3 h4 => ?_⟩
 ·rw [hr.2 p (by omega),hr.2 q (by omega),rt3 h1 (by omega),rt3 (by omega) h3]
  exact hl _ _ (by omega) (by omega) (by omega)
 ·rw [hr.2 p (by omega),hr.2 q (by omega),rt4 hsm hme h1,rt4 hsm hme (by omega)]
  exact hrr _ _ (by omega) (by omega) (by omega)
 ·rw [hr.2 p (by omega),hr.2 q (by omega),rt3 h1 h2,rt4 hsm hme h3]
  exact ho _ _ (by omega) (by omega) (by omega) h4
theorem srt_join {a c b:Nat} {Y Z W:Array Nat} (hac:a≤c) (hcb:c≤b) (hb:b≤Y.size) (hsep:∀ p q,a≤p→p < c→c≤q→q < b→Lx lt Y[p]! Y[q]!) (h1:PermIn a c Y Z) (s1:Srt lt a c Z) (h2:PermIn c b Z W) (s2:Srt lt c b W):PermIn a b Y W∧Srt lt a b W:=by
 have hz:Z.size=Y.size:=h1.1
 have hw:W.size=Z.size:=h2.1
 refine ⟨permIn_trans _ _ _ a b (permIn_mono _ _ a c a b (Nat.le_refl _) hcb hb h1) (permIn_mono _ _ c b a b hac (Nat.le_refl _) (by omega) h2),fun p q hp hpq hq => ?_⟩
 have eL:∀ p,p < c→W[p]! = Z[p]! := fun p hp => h2.2.1 p (.inl hp)
 have eR:∀ p,c≤p→Z[p]! = Y[p]! := fun p hp => h1.2.1 p (.inr hp)
 by_cases c1:q < c
 ·rw [eL p (by omega),eL q c1]
  exact s1 p q hp hpq c1
 ·by_cases c2:c≤p
  ·exact s2 p q c2 hpq hq
  ·rw [eL p (by omega)]
   have k1:∀ q,c≤q→q < b→∀ p,a≤p→p < c→Lx lt Z[p]! Z[q]! := fun q hq1 hq2 p hp1 hp2 => by
    rw [eR q hq1]
    exact permIn_all Y Z a c (fun x => Lx lt x Y[q]!) (by omega) h1 (fun i hi hi' => hsep i q hi hi' hq1 hq2) p hp1 hp2
   exact permIn_all Z W c b (fun x => Lx lt Z[p]! x) (by omega) h2 (fun i hi hi' => k1 i hi hi' p hp (by omega)) q (by omega) hq
end
end Go.Proofs.Ytnpaokckkbhdjaa.S
end
section
set_option linter.unusedVariables false
set_option linter.unusedSimpArgs false
open Go Go.Vm Go.Proofs
namespace Go.Proofs.Ytnpaokckkbhdjaa.S
open Go.Sort (SWO swp)
section
variable (fam:Fam) (k:Nat)
theorem mid_eq {x y:Nat} (h:x+y < 4611686018427387904):IntKind.i64.wrap (Int.fdiv (IntKind.u64.wrap (IntKind.i64.wrap ((x:Int) + (y:Int)))) (2 ^ (min (Int.toNat (1:Int)) IntKind.u64.bits))) = (((x+y) / 2:Nat):Int):=by
 have e1:IntKind.i64.wrap ((x:Int) + (y:Int)) = ((x+y:Nat):Int):=wr (by omega) (by omega)
 have e2:IntKind.u64.wrap ((x+y:Nat):Int) = ((x+y:Nat):Int):=by rw [IntKind.wrap_u64]; omega
 have e3:=fdiv_nat (x+y) 1 (by omega)
 simp only [show ((1:Nat):Int) = (1:Int) from rfl,Nat.pow_one] at e3
 rw [e1,e2,e3]
 exact wr rfl (by omega)
theorem mono1 {lt:Nat→Nat→Bool} (hS:SWO lt) {x y z:Nat} (h:Lx lt x y) (h1:lt y z=true):lt x z=true:=by
 cases hx:lt x z with
 | true => rfl
 | false =>
   rcases h with h | ⟨h,_⟩
   ·rw [hS.trans _ _ _ h h1] at hx; cases hx
   ·rw [hS.ntrans _ _ _ h hx] at h1; cases h1
theorem mono2 {lt:Nat→Nat→Bool} (hS:SWO lt) {x y z:Nat} (h:Lx lt x y) (h1:lt z x=true):lt z y=true:=by
 cases hx:lt z y with
 | true => rfl
 | false =>
   rcases h with h | ⟨h,_⟩
   ·rw [hS.trans _ _ _ h1 h] at hx; cases hx
   ·rw [hS.ntrans _ _ _ hx h] at h1; cases h1
theorem l106_eq (i a:Nat) (X:Array Nat) (hX:X.size < 2305843009213693952) (hi:i≤X.size):∀ (d p m:Nat) (Y:Array Nat),i - 1 - p≤d→a≤p→p < i→Y.size=X.size → (∀ q,q < X.size→Y[q]! = X[rti a (a+1) (p+1) q]!)→d+1≤m →
 ∃ R,f200.l106 k (i:Int) m (Y,(p:Int))=some R∧Rot a (a+1) i X R:=by
 intro d
 induction d with
 | zero =>
   intro p m Y hd hap hpi hs hg hm
   obtain ⟨m,rfl⟩:∃ q,m=q+1:=⟨m - 1,by omega⟩
   have:i=p+1:=by omega
   subst this
   rw [f200.l106,wr (n:=((p+1:Nat):Int) - 1) (m:=p) (by omega) (by omega),if_neg (by simp)]
   exact ⟨Y,rfl,hs,hg⟩
 | succ d ih =>
   intro p m Y hd hap hpi hs hg hm
   obtain ⟨m,rfl⟩:∃ q,m=q+1:=⟨m - 1,by omega⟩
   rw [f200.l106,wr (n:=(i:Int) - 1) (m:=i - 1) (by omega) (by omega)]
   by_cases h:p < i - 1
   ·rw [if_pos (by simp; omega),wr (n:=(p:Int)+1) (m:=p+1) (by omega) (by omega),if_pos (inX_nat.2 ⟨by omega,by omega⟩),swp_nat]
    refine ih (p+1) m _ (by omega) (by omega) (by omega) (by rw [Go.Sort.size_swp,hs]) (fun q hq => ?_) (by omega)
    rw [swp_at Y (by omega) (by omega),hg _ (by split <;> (try split) <;> omega)]
    congr 1
    unfold rti
    repeat' split
    all_goals omega
   ·have:i=p+1:=by omega
    subst this
    rw [if_neg (by simp)]
    exact ⟨Y,rfl,hs,hg⟩
theorem l226b_eq (i mm:Nat) (X:Array Nat) (hX:X.size < 2305843009213693952) (hm:mm < X.size):∀ (d p m:Nat) (Y:Array Nat),p - i≤d→i≤p→p≤mm→Y.size=X.size → (∀ q,q < X.size→Y[q]! = X[rti p mm (mm+1) q]!)→d+1≤m →
 ∃ R,f200.l226 k (i:Int) m (Y,(p:Int))=some R∧Rot i mm (mm+1) X R:=by
 intro d
 induction d with
 | zero =>
   intro p m Y hd hip hpm hs hg hm'
   obtain ⟨m,rfl⟩:∃ q,m=q+1:=⟨m - 1,by omega⟩
   have:p=i:=by omega
   subst this
   rw [f200.l226,if_neg (by simp)]
   exact ⟨Y,rfl,hs,hg⟩
 | succ d ih =>
   intro p m Y hd hip hpm hs hg hm'
   obtain ⟨m,rfl⟩:∃ q,m=q+1:=⟨m - 1,by omega⟩
   rw [f200.l226]
   by_cases h:i < p
   ·rw [if_pos (by simp; omega),wr (n:=(p:Int) - 1) (m:=p - 1) (by omega) (by omega),if_pos (inX_nat.2 ⟨by omega,by omega⟩),swp_nat]
    refine ih (p - 1) m _ (by omega) (by omega) (by omega) (by rw [Go.Sort.size_swp,hs]) (fun q hq => ?_) (by omega)
    rw [swp_at Y (by omega) (by omega),hg _ (by split <;> (try split) <;> omega)]
    congr 1
    unfold rti
    repeat' split
    all_goals omega
   ·have:p=i:=by omega
    subst this
    rw [if_neg (by simp)]
    exact ⟨Y,rfl,hs,hg⟩
theorem l76_eq (hS:SWO fam.lt) {a b m0:Nat} {X:Array Nat} (ha:a < m0) (hmb:m0≤b) (hb:b≤X.size) (hX:X.size < 2305843009213693952) (hr:Srt fam.lt m0 b X):∀ (d i j m:Nat),j - i≤d→m0≤i→i≤j→j≤b → (∀ q,m0≤q→q < i→fam.lt X[q]! X[a]! = true) → (∀ q,j≤q→q < b→fam.lt X[q]! X[a]! = false)→d+1≤m →
 ∃ s,m0≤s∧s≤b ∧ (∀ q,m0≤q→q < s→fam.lt X[q]! X[a]! = true) ∧ (∀ q,s≤q→q < b→fam.lt X[q]! X[a]! = false)∧f200.l76 k X (a:Int) fam m ((i:Int),(j:Int))=f200.l106 k (s:Int) k (X,(a:Int)):=by
 intro d
 induction d with
 | zero =>
   intro i j m hd hi hij hj h1 h2 hm
   obtain ⟨m,rfl⟩:∃ q,m=q+1:=⟨m - 1,by omega⟩
   have:i=j:=by omega
   subst this
   exact ⟨i,hi,hj,h1,h2,by rw [f200.l76,if_neg (by simp)]⟩
 | succ d ih =>
   intro i j m hd hi hij hj h1 h2 hm
   obtain ⟨m,rfl⟩:∃ q,m=q+1:=⟨m - 1,by omega⟩
   by_cases hlt:i < j
   ·rw [f200.l76,if_pos (by simp; omega),if_pos (by decide),mid_eq (by omega),if_pos (inX_nat.2 ⟨by omega,by omega⟩),less_nat]
    by_cases hh:fam.lt X[(i+j) / 2]! X[a]! = true
    ·rw [if_pos hh,wr (n:=(((i+j) / 2:Nat):Int)+1) (m:=(i+j) / 2+1) (by omega) (by omega)]
     refine ih ((i+j) / 2+1) j m (by omega) (by omega) (by omega) hj (fun q q1 q2 => ?_) h2 (by omega)
     by_cases e:q = (i+j) / 2
     ·rw [e]; exact hh
     ·exact mono1 hS (hr q ((i+j) / 2) q1 (by omega) (by omega)) hh
    ·rw [if_neg hh]
     refine ih i ((i+j) / 2) m (by omega) hi (by omega) (by omega) h1 (fun q q1 q2 => ?_) (by omega)
     by_cases e:q = (i+j) / 2
     ·rw [e]; simpa using hh
     ·cases hx:fam.lt X[q]! X[a]! with
      | false => rfl
      | true => exact absurd (mono1 hS (hr ((i+j) / 2) q (by omega) (by omega) q2) hx) hh
   ·have:i=j:=by omega
    subst this
    exact ⟨i,hi,hj,h1,h2,by rw [f200.l76,if_neg (by simp)]⟩
end
end Go.Proofs.Ytnpaokckkbhdjaa.S
end
section
set_option linter.unusedVariables false
set_option linter.unusedSimpArgs false
open Go Go.Vm Go.Proofs
namespace Go.Proofs.Ytnpaokckkbhdjaa.S
open Go.Sort (SWO swp PermIn permIn_trans permIn_mono permIn_refl extract_toList)
section
variable (fam:Fam) (k:Nat)
theorem rot_perm {s m e:Nat} {X Y:Array Nat} (h:Rot s m e X Y) (h1:s≤m) (h2:m≤e) (h3:e≤X.size):PermIn s e X Y:=by
 refine ⟨h.1,fun i hi => ?_,?_⟩
 ·by_cases hlt:i < X.size
  ·rw [h.2 i hlt]
   rcases hi with hi | hi
   ·rw [rt1 hi]
   ·rw [rt4 h1 h2 hi]
  ·have hy:¬ i < Y.size:=by rw [h.1]; exact hlt
   rw [getElem!_neg X i hlt,getElem!_neg Y i hy]
 ·rw [extract_toList Y s e (by rw [h.1]; exact h3),extract_toList X s e h3]
  have e1:(List.range' s (e - s)).map (fun i => Y[i]!) = (List.range' m (e - m)).map (fun i => X[i]!) ++ (List.range' s (m - s)).map (fun i => X[i]!):=by
   apply List.ext_getElem
   ·simp; omega
   ·intro i q1 q2
    simp only [List.length_map,List.length_range'] at q1
    rw [List.getElem_append]
    simp only [List.getElem_map,List.getElem_range',List.length_map,List.length_range',Nat.one_mul]
    rw [h.2 (s+i) (by omega)]
    split
    ·rw [rt2 (by omega) (by omega)]; congr 1; omega
    ·rw [rt3 (by omega) (by omega)]; congr 1; omega
  have e2:(List.range' s (e - s)).map (fun i => X[i]!) = (List.range' s (m - s)).map (fun i => X[i]!) ++ (List.range' m (e - m)).map (fun i => X[i]!):=by
   have:List.range' s (e - s)=List.range' s (m - s) ++ List.range' m (e - m):=by
    have:=List.range'_append_1 (s:=s) (m:=m - s) (n:=e - m)
    rw [show s + (m - s)=m by omega,show m - s + (e - m)=e - s by omega] at this
    exact this.symm
   rw [this,List.map_append]
  rw [e1,e2]
  exact List.perm_append_comm
theorem l196_eq (hS:SWO fam.lt) {a m0:Nat} {X:Array Nat} (hb:m0 < X.size) (hX:X.size < 2305843009213693952) (hr:Srt fam.lt a m0 X):∀ (d i j m:Nat),j - i≤d→a≤i→i≤j→j≤m0 → (∀ q,a≤q→q < i→fam.lt X[m0]! X[q]! = false) → (∀ q,j≤q→q < m0→fam.lt X[m0]! X[q]! = true)→d+1≤m →
 ∃ s,a≤s∧s≤m0 ∧ (∀ q,a≤q→q < s→fam.lt X[m0]! X[q]! = false) ∧ (∀ q,s≤q→q < m0→fam.lt X[m0]! X[q]! = true)∧f200.l196 k X (m0:Int) fam m ((i:Int),(j:Int))=f200.l226 k (s:Int) k (X,(m0:Int)):=by
 intro d
 induction d with
 | zero =>
   intro i j m hd hi hij hj h1 h2 hm
   obtain ⟨m,rfl⟩:∃ q,m=q+1:=⟨m - 1,by omega⟩
   have:i=j:=by omega
   subst this
   exact ⟨i,hi,hj,h1,h2,by rw [f200.l196,if_neg (by simp)]⟩
 | succ d ih =>
   intro i j m hd hi hij hj h1 h2 hm
   obtain ⟨m,rfl⟩:∃ q,m=q+1:=⟨m - 1,by omega⟩
   by_cases hlt:i < j
   ·rw [f200.l196,if_pos (by simp; omega),if_pos (by decide),mid_eq (by omega),if_pos (inX_nat.2 ⟨by omega,by omega⟩),less_nat]
    by_cases hh:fam.lt X[m0]! X[(i+j) / 2]! = true
    ·rw [if_neg (by rw [hh]; simp)]
     refine ih i ((i+j) / 2) m (by omega) hi (by omega) (by omega) h1 (fun q q1 q2 => ?_) (by omega)
     by_cases e:q = (i+j) / 2
     ·rw [e]; exact hh
     ·exact mono2 hS (hr ((i+j) / 2) q (by omega) (by omega) q2) hh
    ·have hf:fam.lt X[m0]! X[(i+j) / 2]! = false:=by simpa using hh
     rw [if_pos (by rw [hf]; rfl),wr (n:=(((i+j) / 2:Nat):Int)+1) (m:=(i+j) / 2+1) (by omega) (by omega)]
     refine ih ((i+j) / 2+1) j m (by omega) (by omega) (by omega) hj (fun q q1 q2 => ?_) h2 (by omega)
     by_cases e:q = (i+j) / 2
     ·rw [e]; exact hf
     ·cases hx:fam.lt X[m0]! X[q]! with
      | false => rfl
      | true => exact absurd (mono2 hS (hr q ((i+j) / 2) q1 (by omega) (by omega)) hx) hh
   ·have:i=j:=by omega
    subst this
    exact ⟨i,hi,hj,h1,h2,by rw [f200.l196,if_neg (by simp)]⟩
def aft (k:Nat) (X:Array Nat) (a b m:Nat) (fam:Fam) (self:Fam→Array Nat→Int→Int→Int→Option (Array Nat)) (s:Nat):Option (Array Nat) :=
 if s < m∧m < (a+b) / 2+m - s then (f220 k fam X (s:Int) (m:Int) (((a+b) / 2+m - s:Nat):Int)).bind fun r => f200.j277 k (a:Int) (s:Int) (b:Int) self fam (m:Int) r
 else f200.j277 k (a:Int) (s:Int) (b:Int) self fam (m:Int) X
theorem l259_eq (hS:SWO fam.lt) {a b m0 s0 r0:Nat} {X:Array Nat} (self:Fam→Array Nat→Int→Int→Int→Option (Array Nat)) (hs0:a≤s0) (hr0:r0≤m0) (hn1:m0 ≤ (a+b) / 2+m0 - r0) (hn2:(a+b) / 2+m0 - s0≤b) (hb:b≤X.size) (hX:X.size < 2305843009213693952) (hl:Srt fam.lt a m0 X) (hr:Srt fam.lt m0 b X) (hr1:r0 ≤ (a+b) / 2) :
 ∀ (d i j m:Nat),j - i≤d→s0≤i→i≤j→j≤r0 → (∀ c,s0≤c→c < i→fam.lt X[(a+b) / 2+m0 - 1 - c]! X[c]! = false) → (∀ c,j≤c→c < r0→fam.lt X[(a+b) / 2+m0 - 1 - c]! X[c]! = true)→d+1≤m →
 ∃ s,s0≤s∧s≤r0 ∧ (∀ c,s0≤c→c < s→fam.lt X[(a+b) / 2+m0 - 1 - c]! X[c]! = false) ∧ (∀ c,s≤c→c < r0→fam.lt X[(a+b) / 2+m0 - 1 - c]! X[c]! = true)∧f200.l259 k X (a:Int) (b:Int) (m0:Int) fam self m ((i:Int),(j:Int))=aft k X a b m0 fam self s:=by
 have fin:∀ (i m:Nat),s0≤i→i≤r0→f200.l259 k X (a:Int) (b:Int) (m0:Int) fam self (m+1) ((i:Int),(i:Int))=aft k X a b m0 fam self i:=by
  intro i m hi hj
  rw [f200.l259,if_neg (by simp),mid_eq (by omega),wr (n:=(((a+b) / 2:Nat):Int) + (m0:Int)) (m:=(a+b) / 2+m0) (by omega) (by omega),wr (n:=(((a+b) / 2+m0:Nat):Int) - (i:Int)) (m:=(a+b) / 2+m0 - i) (by omega) (by omega)]
  unfold aft
  by_cases hc:i < m0∧m0 < (a+b) / 2+m0 - i
  ·rw [if_pos hc]
   have d1:decide ((i:Int) < (m0:Int))=true:=by simp; omega
   have d2:decide ((m0:Int) < (((a+b) / 2+m0 - i:Nat):Int))=true:=by simp only [decide_eq_true_eq]; omega
   rw [d1,d2]
   rfl
  ·rw [if_neg hc]
   have:(bif decide ((i:Int) < (m0:Int)) then decide ((m0:Int) < (((a+b) / 2+m0 - i:Nat):Int)) else false)=false:=by
    by_cases c1:i < m0
    ·have d2:decide ((m0:Int) < (((a+b) / 2+m0 - i:Nat):Int))=false:=by simp only [decide_eq_false_iff_not]; omega
     rw [d2]; cases decide ((i:Int) < (m0:Int)) <;> rfl
    ·have d1:decide ((i:Int) < (m0:Int))=false:=by simp; omega
     rw [d1]; rfl
   rw [this]
   rfl
 intro d
 induction d with
 | zero =>
   intro i j m hd hi hij hj h1 h2 hm
   obtain ⟨m,rfl⟩:∃ q,m=q+1:=⟨m - 1,by omega⟩
   have:i=j:=by omega
   subst this
   exact ⟨i,hi,hj,h1,h2,fin i m hi hj⟩
 | succ d ih =>
   intro i j m hd hi hij hj h1 h2 hm
   obtain ⟨m,rfl⟩:∃ q,m=q+1:=⟨m - 1,by omega⟩
   by_cases hlt:i < j
   ·have mono:∀ c c',s0≤c→c < c'→c' < r0→fam.lt X[(a+b) / 2+m0 - 1 - c]! X[c]! = true→fam.lt X[(a+b) / 2+m0 - 1 - c']! X[c']! = true:=by
     intro c c' q1 q2 q3 q4
     have g1:Lx fam.lt X[(a+b) / 2+m0 - 1 - c']! X[(a+b) / 2+m0 - 1 - c]! := hr _ _ (by omega) (by omega) (by omega)
     have g2:Lx fam.lt X[c]! X[c']! := hl _ _ (by omega) q2 (by omega)
     exact mono2 hS g2 (mono1 hS g1 q4)
    rw [f200.l259,if_pos (by simp; omega),if_pos (by decide),mid_eq (by omega),mid_eq (x:=i) (y:=j) (by omega),wr (n:=(((a+b) / 2:Nat):Int) + (m0:Int)) (m:=(a+b) / 2+m0) (by omega) (by omega),wr (n:=(((a+b) / 2+m0:Nat):Int) - 1) (m:=(a+b) / 2+m0 - 1) (by omega) (by omega),
     wr (n:=(((a+b) / 2+m0 - 1:Nat):Int) - (((i+j) / 2:Nat):Int)) (m:=(a+b) / 2+m0 - 1 - (i+j) / 2) (by omega) (by omega),if_pos (inX_nat.2 ⟨by omega,by omega⟩),less_nat]
    by_cases hh:fam.lt X[(a+b) / 2+m0 - 1 - (i+j) / 2]! X[(i+j) / 2]! = true
    ·rw [if_neg (by rw [hh]; simp)]
     refine ih i ((i+j) / 2) m (by omega) hi (by omega) (by omega) h1 (fun q q1 q2 => ?_) (by omega)
     by_cases e:q = (i+j) / 2
     ·rw [e]; exact hh
     ·exact mono _ q (by omega) (by omega) q2 hh
    ·have hf:fam.lt X[(a+b) / 2+m0 - 1 - (i+j) / 2]! X[(i+j) / 2]! = false:=by simpa using hh
     rw [if_pos (by rw [hf]; rfl),wr (n:=(((i+j) / 2:Nat):Int)+1) (m:=(i+j) / 2+1) (by omega) (by omega)]
     refine ih ((i+j) / 2+1) j m (by omega) (by omega) (by omega) hj (fun q q1 q2 => ?_) h2 (by omega)
     by_cases e:q = (i+j) / 2
     ·rw [e]; exact hf
     ·cases hx:fam.lt X[(a+b) / 2+m0 - 1 - q]! X[q]! with
      | false => rfl
      | true => exact absurd (mono q _ q1 (by omega) (by omega) hx) hh
   ·have:i=j:=by omega
    subst this
    exact ⟨i,hi,hj,h1,h2,fin i m hi hj⟩
end
end Go.Proofs.Ytnpaokckkbhdjaa.S
end
section
set_option linter.unusedVariables false
set_option linter.unusedSimpArgs false
open Go Go.Vm Go.Proofs
namespace Go.Proofs.Ytnpaokckkbhdjaa.S
open Go.Sort (SWO swp PermIn permIn_trans permIn_mono permIn_refl)
section
variable (fam:Fam)
theorem rot_id {s m e:Nat} {X:Array Nat} (h:¬ (s < m∧m < e)) (h1:s≤m) (h2:m≤e):Rot s m e X X:=by
 refine ⟨rfl,fun q hq => ?_⟩
 have:rti s m e q=q:=by
  unfold rti
  by_cases c1:s≤q∧q < s + (e - m)
  ·rw [if_pos c1]; omega
  ·rw [if_neg c1]
   by_cases c2:s + (e - m)≤q∧q < e
   ·rw [if_pos c2]; omega
   ·rw [if_neg c2]
 rw [this]
theorem one_left {lt:Nat→Nat→Bool} {a s b:Nat} {X Y:Array Nat} (hs:a+1≤s) (hsb:s≤b) (hb:b≤X.size) (hr:Srt lt (a+1) b X) (ho:Ord a (a+1) b X) (h1:∀ q,a+1≤q→q < s→lt X[q]! X[a]! = true) (h2:∀ q,s≤q→q < b→lt X[q]! X[a]! = false) (h:Rot a (a+1) s X Y):Srt lt a b Y:=by
 intro p q hp hpq hq
 rw [h.2 p (by omega),h.2 q (by omega)]
 by_cases c1:p < a + (s - (a+1))
 ·rw [rt2 hp c1]
  by_cases c2:q < a + (s - (a+1))
  ·rw [rt2 (by omega) c2]; exact hr _ _ (by omega) (by omega) (by omega)
  ·by_cases c3:q < s
   ·rw [rt3 (by omega) c3,show q - (s - (a+1))=a by omega]
    exact .inl (h1 _ (by omega) (by omega))
   ·rw [rt4 (by omega) (by omega) (by omega)]; exact hr _ _ (by omega) (by omega) (by omega)
 ·rw [rt4 (p:=q) (by omega) (by omega) (by omega)]
  by_cases c3:p < s
  ·rw [rt3 (by omega) c3,show p - (s - (a+1))=a by omega]
   exact .inr ⟨h2 _ (by omega) hq,ho _ _ (by omega) (by omega) (by omega) hq⟩
  ·rw [rt4 (by omega) (by omega) (by omega)]; exact hr _ _ (by omega) (by omega) (by omega)
theorem one_right {lt:Nat→Nat→Bool} {a s m:Nat} {X Y:Array Nat} (hs:a≤s) (hsb:s≤m) (hb:m+1≤X.size) (hl:Srt lt a m X) (ho:Ord a m (m+1) X) (h1:∀ q,a≤q→q < s→lt X[m]! X[q]! = false) (h2:∀ q,s≤q→q < m→lt X[m]! X[q]! = true) (h:Rot s m (m+1) X Y):Srt lt a (m+1) Y:=by
 intro p q hp hpq hq
 rw [h.2 p (by omega),h.2 q (by omega)]
 by_cases c1:p < s
 ·rw [rt1 c1]
  by_cases c2:q < s
  ·rw [rt1 c2]; exact hl _ _ hp hpq (by omega)
  ·by_cases c3:q < s + (m+1 - m)
   ·rw [rt2 (by omega) c3,show q + (m - s)=m by omega]
    exact .inr ⟨h1 _ hp c1,ho _ _ hp (by omega) (by omega) (by omega)⟩
   ·rw [rt3 (by omega) hq]; exact hl _ _ hp (by omega) (by omega)
 ·rw [rt3 (p:=q) (by omega) hq]
  by_cases c3:p < s + (m+1 - m)
  ·rw [rt2 (by omega) c3,show p + (m - s)=m by omega]
   exact .inl (h2 _ (by omega) (by omega))
  ·rw [rt3 (by omega) (by omega)]; exact hl _ _ (by omega) (by omega) (by omega)
theorem parts_of {lt:Nat→Nat→Bool} (hS:SWO lt) {a m b s s0 r0:Nat} {X:Array Nat} (ham:a≤m) (hmb:m≤b) (hb:b≤X.size) (hl:Srt lt a m X) (hr:Srt lt m b X) (ho:Ord a m b X)
 (h0:a≤s0) (hs:s0≤s) (hsr:s≤r0) (hr0:r0≤m) (hr1:r0 ≤ (a+b) / 2) (hn:(a+b) / 2+m - s0≤b)
 (w1:s0=a ∨ (a+b) / 2+m - s0=b) (w2:r0=m∨r0 = (a+b) / 2)
 (h1:∀ c,s0≤c→c < s→lt X[(a+b) / 2+m - 1 - c]! X[c]! = false) (h2:∀ c,s≤c→c < r0→lt X[(a+b) / 2+m - 1 - c]! X[c]! = true):Parts lt a s m ((a+b) / 2+m - s) b X:=by
 refine ⟨by omega,by omega,by omega,by omega,hb,hl,hr,ho,fun p q p1 p2 p3 p4 => ?_,fun p q p1 p2 p3 p4 => ?_⟩
 ·have k1:=h1 (s - 1) (by omega) (by omega)
  rw [show (a+b) / 2+m - 1 - (s - 1) = (a+b) / 2+m - s by omega] at k1
  cases hx:lt X[q]! X[p]! with
  | false => rfl
  | true =>
    have g1:lt X[(a+b) / 2+m - s]! X[p]! = true:=by
     by_cases e:q = (a+b) / 2+m - s
     ·rw [← e]; exact hx
     ·exact mono1 hS (hr _ _ (by omega) (by omega) p4) hx
    have g2:lt X[(a+b) / 2+m - s]! X[s - 1]! = true:=by
     by_cases e:p=s - 1
     ·rw [← e]; exact g1
     ·exact mono2 hS (hl _ _ p1 (by omega) (by omega)) g1
    rw [k1] at g2; cases g2
 ·have k1:=h2 s (by omega) (by omega)
  have g1:lt X[q]! X[s]! = true:=by
   by_cases e:q = (a+b) / 2+m - 1 - s
   ·rw [e]; exact k1
   ·exact mono1 hS (hr _ _ (by omega) (by omega) (by omega)) k1
  by_cases e:p=s
  ·rw [e]; exact g1
  ·exact mono2 hS (hl _ _ (by omega) (by omega) (by omega)) g1
theorem f200_ok (hS:SWO fam.lt):∀ (d a m b:Nat) (X:Array Nat) (k:Nat),b - a≤d→a < m→m < b→b≤X.size→X.size < 2305843009213693952→Srt fam.lt a m X→Srt fam.lt m b X→Ord a m b X→X.size+2+d≤k →
 ∃ R,f200 k fam X (a:Int) (m:Int) (b:Int)=some R∧PermIn a b X R∧Srt fam.lt a b R:=by
 intro d
 induction d with
 | zero => intro a m b X k hd ham hmb; omega
 | succ d ih =>
   intro a m b X k hd ham hmb hb hX hl hr ho hk
   obtain ⟨k,rfl⟩:∃ q,k=q+1:=⟨k - 1,by omega⟩
   rw [f200,wr (n:=(m:Int) - (a:Int)) (m:=m - a) (by omega) (by omega),wr (n:=(b:Int) - (m:Int)) (m:=b - m) (by omega) (by omega)]
   by_cases c1:m - a=1
   ·have hm:m=a+1:=by omega
    subst hm
    rw [if_pos (by simp)]
    obtain ⟨s,s1,s2,s3,s4,s5⟩:=l76_eq fam k hS (a:=a) (m0:=a+1) (by omega) (by omega) hb hX hr (b - (a+1)) (a+1) b k (by omega) (by omega) (by omega) (by omega) (fun q q1 q2 => by omega) (fun q q1 q2 => by omega) (by omega)
    rw [s5]
    obtain ⟨R,r1,r2⟩:=l106_eq k s a X hX (by omega) (s - 1 - a) a k X (by omega) (by omega) (by omega) rfl (fun q hq => (rot_id (s:=a) (m:=a+1) (e:=a+1) (X:=X) (by omega) (by omega) (by omega)).2 q hq) (by omega)
    refine ⟨R,r1,?_,one_left s1 s2 hb hr ho s3 s4 r2⟩
    exact permIn_mono _ _ a s a b (by omega) s2 hb (rot_perm r2 (by omega) s1 (by omega))
   ·rw [if_neg (by simp only [beq_iff_eq]; omega)]
    by_cases c2:b - m=1
    ·have hm:b=m+1:=by omega
     subst hm
     rw [if_pos (by simp)]
     obtain ⟨s,s1,s2,s3,s4,s5⟩:=l196_eq fam k hS (a:=a) (m0:=m) (by omega) hX hl (m - a) a m k (by omega) (by omega) (by omega) (by omega) (fun q q1 q2 => by omega) (fun q q1 q2 => by omega) (by omega)
     rw [s5]
     obtain ⟨R,r1,r2⟩:=l226b_eq k s m X hX (by omega) (m - s) m k X (by omega) (by omega) (by omega) rfl (fun q hq => (rot_id (s:=m) (m:=m) (e:=m+1) (X:=X) (by omega) (by omega) (by omega)).2 q hq) (by omega)
     refine ⟨R,r1,?_,one_right s1 s2 hb hl ho s3 s4 r2⟩
     exact permIn_mono _ _ s (m+1) a (m+1) s1 (by omega) hb (rot_perm r2 s2 (by omega) hb)
    ·rw [if_neg (by simp only [beq_iff_eq]; omega),if_pos (by decide),mid_eq (by omega)]
     have key:∃ s0 r0:Nat,a≤s0∧s0≤r0∧r0≤m∧r0 ≤ (a+b) / 2 ∧ (a+b) / 2+m - s0≤b ∧ (s0=a ∨ (a+b) / 2+m - s0=b) ∧ (r0=m∨r0 = (a+b) / 2) ∧
      (if (decide ((m:Int) > (((a+b) / 2:Nat):Int))) then (f200.j243 k X (a:Int) (b:Int) (m:Int) fam (f200 k) ((IntKind.i64.wrap ((IntKind.i64.wrap ((((a+b) / 2:Nat):Int) + (m:Int))) - (b:Int))),(((a+b) / 2:Nat):Int))) else (f200.j243 k X (a:Int) (b:Int) (m:Int) fam (f200 k) ((a:Int),(m:Int))))=f200.l259 k X (a:Int) (b:Int) (m:Int) fam (f200 k) k ((s0:Int),(r0:Int)):=by
      by_cases c3:(a+b) / 2 < m
      ·refine ⟨(a+b) / 2+m - b,(a+b) / 2,by omega,by omega,by omega,by omega,by omega,.inr (by omega),.inr rfl,?_⟩
       rw [if_pos (by simp only [decide_eq_true_eq]; omega),wr (n:=(((a+b) / 2:Nat):Int) + (m:Int)) (m:=(a+b) / 2+m) (by omega) (by omega),wr (n:=(((a+b) / 2+m:Nat):Int) - (b:Int)) (m:=(a+b) / 2+m - b) (by omega) (by omega),f200.j243]
      ·refine ⟨a,m,by omega,by omega,by omega,by omega,by omega,.inl rfl,.inl rfl,?_⟩
       rw [if_neg (by simp only [decide_eq_true_eq]; omega),f200.j243]
     obtain ⟨s0,r0,g1,g2,g3,g4,g5,g6,g7,g8⟩:=key
     rw [g8]
     obtain ⟨s,s1,s2,s3,s4,s5⟩:=l259_eq fam k hS (a:=a) (b:=b) (m0:=m) (s0:=s0) (r0:=r0) (X:=X) (f200 k) g1 g3 (by omega) g5 hb hX hl hr g4 (r0 - s0) s0 r0 k (by omega) (by omega) g2 (by omega) (fun c q1 q2 => by omega) (fun c q1 q2 => by omega) (by omega)
     rw [s5]
     have hp:=parts_of hS (by omega) (by omega) hb hl hr ho g1 s1 s2 g3 g4 g5 g6 g7 s3 s4
     have hroto:∃ Y,aft k X a b m fam (f200 k) s=f200.j277 k (a:Int) (s:Int) (b:Int) (f200 k) fam (m:Int) Y∧Rot s m ((a+b) / 2+m - s) X Y:=by
      unfold aft
      by_cases c4:s < m∧m < (a+b) / 2+m - s
      ·rw [if_pos c4]
       obtain ⟨R,r1,r2⟩:=f220_eq fam k c4.1 c4.2 (by omega) hX (by omega)
       exact ⟨R,by rw [r1]; rfl,r2⟩
      ·rw [if_neg c4]
       exact ⟨X,rfl,rot_id c4 (by omega) (by omega)⟩
     obtain ⟨Y,y1,y2⟩:=hroto
     rw [y1]
     have hc:s + ((a+b) / 2+m - s - m) = (a+b) / 2:=by omega
     have hsep:=hp.sep y2
     have hle:=hp.left y2
     have hri:=hp.right y2
     rw [hc] at hsep hle hri
     have hy:Y.size=X.size:=y2.1
     have hperm:=permIn_mono _ _ s ((a+b) / 2+m - s) a b (by omega) (by omega) hb (rot_perm y2 (by omega) (by omega) (by omega))
     have hz:∃ Z,f200.j277 k (a:Int) (s:Int) (b:Int) (f200 k) fam (m:Int) Y=f200.j281 k (a:Int) (b:Int) (m:Int) (s:Int) (f200 k) fam Z∧PermIn a ((a+b) / 2) Y Z∧Srt fam.lt a ((a+b) / 2) Z:=by
      rw [f200.j277,mid_eq (by omega)]
      by_cases c5:a < s∧s < (a+b) / 2
      ·obtain ⟨R,r1,r2,r3⟩:=ih a s ((a+b) / 2) Y k (by omega) c5.1 c5.2 (by omega) (by omega) hle.1 hle.2.1 hle.2.2 (by omega)
       refine ⟨R,?_,r2,r3⟩
       have d1:decide ((a:Int) < (s:Int))=true:=by simp; omega
       have d2:decide ((s:Int) < (((a+b) / 2:Nat):Int))=true:=by simp only [decide_eq_true_eq]; omega
       rw [d1,d2,cond_true,if_pos rfl,r1]
       rfl
      ·refine ⟨Y,?_,permIn_refl _ _ _,?_⟩
       ·have:(bif decide ((a:Int) < (s:Int)) then decide ((s:Int) < (((a+b) / 2:Nat):Int)) else false)=false:=by
         by_cases c6:a < s
         ·have d2:decide ((s:Int) < (((a+b) / 2:Nat):Int))=false:=by simp only [decide_eq_false_iff_not]; omega
          rw [d2]; cases decide ((a:Int) < (s:Int)) <;> rfl
         ·have d1:decide ((a:Int) < (s:Int))=false:=by simp; omega
          rw [d1]; rfl
        rw [this]
        rfl
       ·by_cases c6:a < s
        ·rw [show (a+b) / 2=s by omega]; exact hle.1
        ·have:s=a:=by omega
         rw [this] at hle; exact hle.2.1
     obtain ⟨Z,z1,z2,z3⟩:=hz
     rw [z1]
     have hzs:Z.size=Y.size:=z2.1
     have eZ:∀ p,(a+b) / 2≤p→Z[p]! = Y[p]! := fun p hp => z2.2.1 p (.inr hp)
     have hri':Srt fam.lt ((a+b) / 2) ((a+b) / 2+m - s) Z∧Srt fam.lt ((a+b) / 2+m - s) b Z∧Ord ((a+b) / 2) ((a+b) / 2+m - s) b Z:=by
      refine ⟨fun p q h1 h2 h3 => ?_,fun p q h1 h2 h3 => ?_,fun p q h1 h2 h3 h4 => ?_⟩
      ·rw [eZ p h1,eZ q (by omega)]; exact hri.1 p q h1 h2 h3
      ·rw [eZ p (by omega),eZ q (by omega)]; exact hri.2.1 p q h1 h2 h3
      ·rw [eZ p h1,eZ q (by omega)]; exact hri.2.2 p q h1 h2 h3 h4
     have hw:∃ W,f200.j281 k (a:Int) (b:Int) (m:Int) (s:Int) (f200 k) fam Z=some W∧PermIn ((a+b) / 2) b Z W∧Srt fam.lt ((a+b) / 2) b W:=by
      rw [f200.j281,mid_eq (by omega),wr (n:=(((a+b) / 2:Nat):Int) + (m:Int)) (m:=(a+b) / 2+m) (by omega) (by omega),wr (n:=(((a+b) / 2+m:Nat):Int) - (s:Int)) (m:=(a+b) / 2+m - s) (by omega) (by omega)]
      by_cases c5:(a+b) / 2 < (a+b) / 2+m - s ∧ (a+b) / 2+m - s < b
      ·obtain ⟨R,r1,r2,r3⟩:=ih ((a+b) / 2) ((a+b) / 2+m - s) b Z k (by omega) c5.1 c5.2 (by omega) (by omega) hri'.1 hri'.2.1 hri'.2.2 (by omega)
       refine ⟨R,?_,r2,r3⟩
       have d1:decide ((((a+b) / 2:Nat):Int) < (((a+b) / 2+m - s:Nat):Int))=true:=by simp only [decide_eq_true_eq]; omega
       have d2:decide ((((a+b) / 2+m - s:Nat):Int) < (b:Int))=true:=by simp only [decide_eq_true_eq]; omega
       rw [d1,d2,cond_true,Option.bind_some,if_pos rfl,r1]
       rfl
      ·refine ⟨Z,?_,permIn_refl _ _ _,?_⟩
       ·have:(bif decide ((((a+b) / 2:Nat):Int) < (((a+b) / 2+m - s:Nat):Int)) then decide ((((a+b) / 2+m - s:Nat):Int) < (b:Int)) else false)=false:=by
         by_cases c6:(a+b) / 2 < (a+b) / 2+m - s
         ·have d2:decide ((((a+b) / 2+m - s:Nat):Int) < (b:Int))=false:=by simp only [decide_eq_false_iff_not]; omega
          rw [d2]; cases decide ((((a+b) / 2:Nat):Int) < (((a+b) / 2+m - s:Nat):Int)) <;> rfl
         ·have d1:decide ((((a+b) / 2:Nat):Int) < (((a+b) / 2+m - s:Nat):Int))=false:=by simp only [decide_eq_false_iff_not]; omega
          rw [d1]; rfl
        rw [this]
        rfl
       ·by_cases c6:(a+b) / 2 < (a+b) / 2+m - s
        ·have e:(a+b) / 2+m - s=b:=by omega
         rw [e] at hri'; exact hri'.1
        ·rw [show (a+b) / 2+m - s = (a+b) / 2 by omega] at hri'; exact hri'.2.1
     obtain ⟨W,w1,w2,w3⟩:=hw
     have hj:=srt_join (by omega) (by omega) (by omega) hsep z2 z3 w2 w3
     exact ⟨W,w1,permIn_trans _ _ _ a b hperm hj.1,hj.2⟩
end
end Go.Proofs.Ytnpaokckkbhdjaa.S
end
section
set_option linter.unusedVariables false
set_option linter.unusedSimpArgs false
open Go Go.Vm Go.Proofs
namespace Go.Proofs.Ytnpaokckkbhdjaa.S
open Go.Sort (SWO swp PermIn permIn_trans permIn_mono permIn_refl permIn_all swp_permIn insInner insOuter insertionSort insertionSort_holds insInner_spec SortedIn extract_toList)
section
variable {lt:Nat→Nat→Bool}
def lxb (lt:Nat→Nat→Bool) (x y:Nat):Bool:=lt x y || (!lt y x && decide (x < y))
theorem lxb_iff {x y:Nat}:lxb lt x y=true↔Lx lt x y:=by
 unfold lxb Lx
 simp
theorem Lx.tot {x y:Nat} (h:x≠y):Lx lt x y∨Lx lt y x:=by
 unfold Lx
 cases hxy:lt x y with
 | true => exact .inl (.inl rfl)
 | false =>
   cases hyx:lt y x with
   | true => exact .inr (.inl rfl)
   | false =>
     by_cases h1:x < y
     ·exact .inl (.inr ⟨rfl,h1⟩)
     ·exact .inr (.inr ⟨rfl,by omega⟩)
theorem lxb_swo (hS:SWO lt):SWO (lxb lt):=by
 refine ⟨fun x => ?_,fun x y z h1 h2 => ?_,fun x y z h1 h2 => ?_⟩
 ·unfold lxb; rw [hS.irrefl]; simp
 ·rw [lxb_iff] at h1 h2 ⊢; exact h1.trans hS h2
 ·have g1:¬ Lx lt x y:=fun h => by rw [lxb_iff.2 h] at h1; cases h1
  have g2:¬ Lx lt y z:=fun h => by rw [lxb_iff.2 h] at h2; cases h2
  cases hx:lxb lt x z with
  | false => rfl
  | true =>
    rw [lxb_iff] at hx
    by_cases e:x=y
    ·subst e; exact absurd hx g2
    ·rcases Lx.tot (lt:=lt) e with h | h
     ·exact absurd h g1
     ·exact absurd (h.trans hS hx) g2
theorem insInner_lx {a:Nat}:∀ (j:Nat) (d:Array Nat),j < d.size → (∀ p,a≤p→p < j→d[p]! < d[j]!)→insInner lt a j d=insInner (lxb lt) a j d:=by
 intro j
 induction j with
 | zero => intro d _ _; rw [insInner,insInner]
 | succ j ih =>
   intro d hj hp
   rw [insInner,insInner]
   by_cases haj:a≤j
   ·have e:lxb lt d[j+1]! d[j]! = lt d[j+1]! d[j]! := by
     have:=hp j haj (by omega)
     unfold lxb
     rw [show decide (d[j+1]! < d[j]!)=false by simp only [decide_eq_false_iff_not]; omega]
     simp
    rw [e]
    split
    ·refine ih _ (by rw [Go.Sort.swp_size]; omega) (fun p h1 h2 => ?_)
     rw [Go.Sort.swp_get d hj (by omega),Go.Sort.swp_get d hj (by omega),if_neg (by omega),if_neg (by omega),if_pos rfl]
     exact hp p h1 (by omega)
    ·rfl
   ·rw [show decide (j+1 > a)=false by simp; omega]
    rfl
theorem insOuter_lx (hS:SWO lt) {a b:Nat}:∀ (n i:Nat) (d:Array Nat),b - i=n→a < i→b≤d.size→SortedIn (lxb lt) a i d → (∀ p q,a≤p→p < q→i≤q→q < b→d[p]! < d[q]!)→insOuter lt a b i d=insOuter (lxb lt) a b i d:=by
 intro n
 induction n with
 | zero => intro i d hn hai hb hs ho; rw [insOuter.eq_1 lt,insOuter.eq_1 (lxb lt),if_neg (by omega),if_neg (by omega)]
 | succ n ih =>
   intro i d hn hai hb hs ho
   rw [insOuter.eq_1 lt,insOuter.eq_1 (lxb lt),if_pos (by omega),if_pos (by omega),insInner_lx i d (by omega) (fun p h1 h2 => ho p i h1 h2 (Nat.le_refl _) (by omega))]
   obtain ⟨p1,p2⟩:=insInner_spec (lxb_swo hS) swp_permIn permIn_refl permIn_trans a (i+1) i (by omega) i d (by omega) (Nat.le_refl _) (by omega) ⟨fun p q hap hpq hqi _ hq => hs p q hap hpq (by omega),fun q h1 h2 => by omega⟩
   refine ih (i+1) _ (by omega) (by omega) (by rw [p1.1]; exact hb) p2 (fun p q h1 h2 h3 h4 => ?_)
   rw [p1.2.1 q (.inr (by omega))]
   by_cases c:p < i+1
   ·exact permIn_all d _ a (i+1) (fun x => x < d[q]!) (by omega) p1 (fun k k1 k2 => ho k q k1 (by omega) (by omega) h4) p h1 c
   ·rw [p1.2.1 p (.inr (by omega))]
    exact ho p q h1 h2 (by omega) h4
theorem perm_ne {a b:Nat} {X R:Array Nat} (hb:b≤X.size) (h:PermIn a b X R) (ho:∀ p q,a≤p→p < q→q < b→X[p]! < X[q]!):∀ p q,a≤p→p < q→q < b→R[p]! ≠ R[q]! := by
 have h1:(X.extract a b).toList.Nodup:=by
  rw [extract_toList X a b hb]
  refine List.pairwise_iff_getElem.2 (fun i j hi hj hij => ?_)
  simp only [List.length_map,List.length_range'] at hi hj
  simp only [List.getElem_map,List.getElem_range',Nat.one_mul]
  have:=ho (a+i) (a+j) (by omega) (by omega) (by omega)
  omega
 have h2:=h.2.2.nodup_iff.2 h1
 rw [extract_toList R a b (by rw [h.1]; exact hb)] at h2
 intro p q q1 q2 q3
 have:=List.pairwise_iff_getElem.1 h2 (p - a) (q - a) (by simp; omega) (by simp; omega) (by omega)
 simp only [List.getElem_map,List.getElem_range',Nat.one_mul] at this
 rwa [show a + (p - a)=p by omega,show a + (q - a)=q by omega] at this
theorem ins_srt (hS:SWO lt) {a b:Nat} {X:Array Nat} (hab:a≤b) (hb:b≤X.size) (ho:∀ p q,a≤p→p < q→q < b→X[p]! < X[q]!):PermIn a b X (insertionSort lt X a b)∧Srt lt a b (insertionSort lt X a b):=by
 have e:insertionSort lt X a b=insertionSort (lxb lt) X a b:=by
  unfold insertionSort
  exact insOuter_lx hS _ (a+1) X rfl (by omega) hb (fun i j h1 h2 h3 => by omega) (fun p q h1 h2 h3 h4 => ho p q h1 h2 h4)
 rw [e]
 obtain ⟨p1,p2⟩:=insertionSort_holds (lxb_swo hS) X a b hab hb
 refine ⟨p1,fun p q h1 h2 h3 => ?_⟩
 have hne:=perm_ne hb p1 ho p q h1 h2 h3
 have hs:=p2 p q h1 h2 h3
 rcases Lx.tot (lt:=lt) hne with h | h
 ·exact h
 ·rw [lxb_iff.2 h] at hs; cases hs
end
end Go.Proofs.Ytnpaokckkbhdjaa.S
end
section
set_option linter.unusedVariables false
set_option linter.unusedSimpArgs false
open Go Go.Vm Go.Proofs
namespace Go.Proofs.Ytnpaokckkbhdjaa.S
open Go.Sort (SWO swp PermIn permIn_trans permIn_mono permIn_refl permIn_all insertionSort)
section
variable (fam:Fam)
def Crs (v n:Nat) (X:Array Nat):Prop:=∀ i p q,p < i*v→i*v≤q→q < n→X[p]! < X[q]!
theorem Crs.perm {v n a b:Nat} {X R:Array Nat} (h:Crs v n X) (hn:n≤X.size) (hb:b≤n) (hp:PermIn a b X R) (hc:∀ i,i*v≤a∨b≤i*v):Crs v n R:=by
 intro i p q h1 h2 h3
 have k1:∀ q,i*v≤q→q < n→X[p]! < R[q]! := by
  intro q q1 q2
  by_cases c:a≤q∧q < b
  ·have hia:i*v≤a:=by rcases hc i with h | h <;> omega
   exact permIn_all X R a b (fun x => X[p]! < x) (by omega) hp (fun k k1 k2 => h i p k h1 (by omega) (by omega)) q c.1 c.2
  ·rw [hp.2.1 q (by omega)]; exact h i p q h1 q1 q2
 by_cases c:a≤p∧p < b
 ·have hib:b≤i*v:=by rcases hc i with h | h <;> omega
  refine permIn_all X R a b (fun x => x < R[q]!) (by omega) hp (fun k k1' k2 => ?_) p c.1 c.2
  rw [hp.2.1 q (by omega)]
  exact h i k q (by omega) h2 h3
 ·rw [hp.2.1 p (by omega)]; exact k1 q h2 h3
theorem Srt.keep {lt:Nat→Nat→Bool} {a b c d:Nat} {X R:Array Nat} (h:Srt lt c d X) (hp:PermIn a b X R) (hc:d≤a∨b≤c):Srt lt c d R:=by
 intro p q h1 h2 h3
 rw [hp.2.1 p (by omega),hp.2.1 q (by omega)]
 exact h p q h1 h2 h3
theorem Srt.cut {lt:Nat→Nat→Bool} {a b c:Nat} {X:Array Nat} (h:Srt lt a b X) (hc:c≤b):Srt lt a c X:=fun p q h1 h2 h3 => h p q h1 h2 (by omega)
theorem l20_ok (hS:SWO fam.lt) {n:Nat} {X:Array Nat} (k:Nat) (hn:n=X.size) (hX:X.size < 2305843009213693952) (hk:X.size+1≤k):∀ (d i m:Nat) (Y:Array Nat),n - 20*i≤d→i*20≤n→PermIn 0 n X Y→Crs 20 n Y → (∀ p q,i*20≤p→p < q→q < n→Y[p]! < Y[q]!) → (∀ j,j < i→Srt fam.lt (j*20) (j*20+20) Y)→d+1≤m →
 ∃ R,f158.l20 k (n:Int) fam m (Y,((i*20:Nat):Int),((i*20+20:Nat):Int))=f158.l40 k (n:Int) fam k (R,20)∧PermIn 0 n X R∧Crs 20 n R ∧ (∀ j,j*20 < n→Srt fam.lt (j*20) (min (j*20+20) n) R):=by
 intro d
 induction d with
 | zero =>
   intro i m Y hd hi hp hc ha hs hm
   obtain ⟨m,rfl⟩:∃ q,m=q+1:=⟨m - 1,by omega⟩
   have hys:Y.size=X.size:=hp.1
   obtain ⟨p1,p2⟩:=ins_srt hS (a:=i*20) (b:=n) (X:=Y) hi (by omega) ha
   refine ⟨insertionSort fam.lt Y (i*20) n,?_,permIn_trans _ _ _ 0 n hp (permIn_mono _ _ (i*20) n 0 n (Nat.zero_le _) (Nat.le_refl _) (by omega) p1),hc.perm (by omega) (Nat.le_refl _) p1 (fun j => by omega),fun j hj => ?_⟩
   ·rw [f158.l20,if_neg (by simp only [decide_eq_true_eq]; omega),f186_eq fam k hi (by omega) (by omega) (by omega)]
    rfl
   ·exact ((hs j (by omega)).keep p1 (.inl (by omega))).cut (by omega)
 | succ d ih =>
   intro i m Y hd hi hp hc ha hs hm
   obtain ⟨m,rfl⟩:∃ q,m=q+1:=⟨m - 1,by omega⟩
   have hys:Y.size=X.size:=hp.1
   by_cases hlt:i*20+20≤n
   ·obtain ⟨p1,p2⟩:=ins_srt hS (a:=i*20) (b:=i*20+20) (X:=Y) (by omega) (by omega) (fun p q h1 h2 h3 => ha p q h1 h2 (by omega))
    rw [f158.l20,if_pos (by simp only [decide_eq_true_eq]; omega),f186_eq fam k (by omega) (by omega) (by omega) (by omega),Option.bind_some,wr (n:=((i*20+20:Nat):Int)+20) (m:=i*20+20+20) (by omega) (by omega)]
    have:=ih (i+1) m (insertionSort fam.lt Y (i*20) (i*20+20)) (by omega) (by omega) (permIn_trans _ _ _ 0 n hp (permIn_mono _ _ (i*20) (i*20+20) 0 n (Nat.zero_le _) hlt (by omega) p1)) (hc.perm (by omega) hlt p1 (fun j => by omega)) (fun p q h1 h2 h3 => by
     rw [p1.2.1 p (.inr (by omega)),p1.2.1 q (.inr (by omega))]
     exact ha p q (by omega) h2 h3) (fun j hj => by
     by_cases e:j=i
     ·subst e; exact p2
     ·exact (hs j (by omega)).keep p1 (.inl (by omega))) (by omega)
    rw [show (i+1)*20=i*20+20 by omega] at this
    exact this
   ·obtain ⟨p1,p2⟩:=ins_srt hS (a:=i*20) (b:=n) (X:=Y) hi (by omega) ha
    refine ⟨insertionSort fam.lt Y (i*20) n,?_,permIn_trans _ _ _ 0 n hp (permIn_mono _ _ (i*20) n 0 n (Nat.zero_le _) (Nat.le_refl _) (by omega) p1),hc.perm (by omega) (Nat.le_refl _) p1 (fun j => by omega),fun j hj => ?_⟩
    ·rw [f158.l20,if_neg (by simp only [decide_eq_true_eq]; omega),f186_eq fam k hi (by omega) (by omega) (by omega)]
     rfl
    ·by_cases e:j < i
     ·exact ((hs j e).keep p1 (.inl (by omega))).cut (by omega)
     ·have:j=i:=by omega
      subst this
      rw [show min (j*20+20) n=n by omega]
      exact p2
def Cr (c n:Nat) (X:Array Nat):Prop:=∀ p q,p < c→c≤q→q < n→X[p]! < X[q]!
theorem Cr.perm {c n a b:Nat} {X R:Array Nat} (h:Cr c n X) (hn:n≤X.size) (hb:b≤n) (hp:PermIn a b X R) (hc:c≤a∨b≤c):Cr c n R:=by
 intro p q h1 h2 h3
 have k1:∀ q,c≤q→q < n→X[p]! < R[q]! := by
  intro q q1 q2
  by_cases d:a≤q∧q < b
  ·exact permIn_all X R a b (fun x => X[p]! < x) (by omega) hp (fun k k1 k2 => h p k h1 (by omega) (by omega)) q d.1 d.2
  ·rw [hp.2.1 q (by omega)]; exact h p q h1 q1 q2
 by_cases d:a≤p∧p < b
 ·refine permIn_all X R a b (fun x => x < R[q]!) (by omega) hp (fun k k1' k2 => ?_) p d.1 d.2
  rw [hp.2.1 q (by omega)]
  exact h k q (by omega) h2 h3
 ·rw [hp.2.1 p (by omega)]; exact k1 q h2 h3
theorem l156_ok (hS:SWO fam.lt) {n v:Nat} {X:Array Nat} (k:Nat) (hn:n=X.size) (hv:0 < v) (hvn:v < n) (hX:X.size < 2305843009213693952) (hk:2*X.size+4≤k) (q40:((Array Nat) × Int)→Option (Array Nat)) :
 ∀ (d i m:Nat) (Y:Array Nat),n - i * (2*v)≤d→i * (2*v)≤n→PermIn 0 n X Y → (∀ j,Cr (j * (2*v)) n Y) → (∀ j,i * (2*v)≤j*v→Cr (j*v) n Y) → (∀ j,j < i→Srt fam.lt (j * (2*v)) (j * (2*v)+2*v) Y) → (∀ j,i * (2*v)≤j*v→j*v < n→Srt fam.lt (j*v) (min (j*v+v) n) Y)→d+1≤m →
 ∃ R,f158.l156 k (n:Int) fam (v:Int) q40 m (Y,((i * (2*v):Nat):Int),((i * (2*v)+2*v:Nat):Int))=q40 (R,((2*v:Nat):Int))∧PermIn 0 n X R ∧ (∀ j,Cr (j * (2*v)) n R) ∧ (∀ j,j * (2*v) < n→Srt fam.lt (j * (2*v)) (min (j * (2*v)+2*v) n) R):=by
 intro d
 induction d with
 | zero =>
   intro i m Y hd hi hp hc hc' hs hs' hm
   obtain ⟨m,rfl⟩:∃ q,m=q+1:=⟨m - 1,by omega⟩
   have hys:Y.size=X.size:=hp.1
   refine ⟨Y,?_,hp,hc,fun j hj => ?_⟩
   ·rw [f158.l156,if_neg (by simp only [decide_eq_true_eq]; omega),wr (n:=((i * (2*v):Nat):Int) + (v:Int)) (m:=i * (2*v)+v) (by omega) (by omega),if_neg (by simp only [decide_eq_true_eq]; omega),f158.j178,wr (n:=(v:Int)*2) (m:=2*v) (by omega) (by omega)]
   ·have:j < i:=by
     apply Nat.lt_of_not_le; intro hle
     have:=Nat.mul_le_mul_right (2*v) hle
     omega
    exact (hs j this).cut (by omega)
 | succ d ih =>
   intro i m Y hd hi hp hc hc' hs hs' hm
   obtain ⟨m,rfl⟩:∃ q,m=q+1:=⟨m - 1,by omega⟩
   have hys:Y.size=X.size:=hp.1
   have e1:(2*i+1)*v=i * (2*v)+v:=by rw [Nat.add_mul,Nat.one_mul,Nat.mul_comm 2 i,Nat.mul_assoc]
   have e2:(2*i)*v=i * (2*v):=by rw [Nat.mul_comm 2 i,Nat.mul_assoc]
   have e3:(i+1) * (2*v)=i * (2*v)+2*v:=by rw [Nat.add_mul,Nat.one_mul]
   have lo:∀ j,j < i→j * (2*v)+2*v≤i * (2*v):=fun j hj => by
    have:=Nat.mul_le_mul_right (2*v) (show j+1≤i from hj)
    rw [Nat.add_mul,Nat.one_mul] at this
    exact this
   have sep:∀ j,j * (2*v)≤i * (2*v)∨i * (2*v)+2*v≤j * (2*v):=fun j => by
    rcases Nat.lt_or_ge i j with h | h
    ·right
     have:=Nat.mul_le_mul_right (2*v) (show i+1≤j from h)
     omega
    ·left; exact Nat.mul_le_mul_right (2*v) h
   by_cases hlt:i * (2*v)+2*v≤n
   ·have g1:=hs' (2*i) (by omega) (by omega)
    have g2:=hs' (2*i+1) (by omega) (by omega)
    have g3:=hc' (2*i+1) (by omega)
    rw [e2] at g1
    rw [e1] at g2 g3
    obtain ⟨R,r1,r2,r3⟩:=f200_ok fam hS (2*v) (i * (2*v)) (i * (2*v)+v) (i * (2*v)+2*v) Y k (by omega) (by omega) (by omega) (by omega) (by omega) (g1.cut (by omega)) (g2.cut (by omega)) (fun p q h1 h2 h3 h4 => g3 p q h2 h3 (by omega)) (by omega)
    rw [f158.l156,if_pos (by simp only [decide_eq_true_eq]; omega),wr (n:=((i * (2*v):Nat):Int) + (v:Int)) (m:=i * (2*v)+v) (by omega) (by omega),r1,Option.bind_some,wr (n:=(2:Int) * (v:Int)) (m:=2*v) (by omega) (by omega),wr (n:=((i * (2*v)+2*v:Nat):Int) + ((2*v:Nat):Int)) (m:=i * (2*v)+2*v+2*v) (by omega) (by omega)]
    have:=ih (i+1) m R (by omega) (by omega) (permIn_trans _ _ _ 0 n hp (permIn_mono _ _ _ _ 0 n (Nat.zero_le _) hlt (by omega) r2)) (fun j => (hc j).perm (by omega) hlt r2 (sep j)) (fun j hj => (hc' j (by omega)).perm (by omega) hlt r2 (.inr (by omega))) (fun j hj => by
     by_cases e:j=i
     ·subst e; exact r3
     ·have:=lo j (by omega)
      exact (hs j (by omega)).keep r2 (.inl this)) (fun j h1 h2 => (hs' j (by omega) h2).keep r2 (.inr (by omega))) (by omega)
    rw [e3] at this
    exact this
   ·rw [f158.l156,if_neg (by simp only [decide_eq_true_eq]; omega),wr (n:=((i * (2*v):Nat):Int) + (v:Int)) (m:=i * (2*v)+v) (by omega) (by omega)]
    by_cases hlt2:i * (2*v)+v < n
    ·have g1:=hs' (2*i) (by omega) (by omega)
     have g2:=hs' (2*i+1) (by omega) (by omega)
     have g3:=hc' (2*i+1) (by omega)
     rw [e2] at g1
     rw [e1] at g2 g3
     obtain ⟨R,r1,r2,r3⟩:=f200_ok fam hS (n - i * (2*v)) (i * (2*v)) (i * (2*v)+v) n Y k (by omega) (by omega) (by omega) (by omega) (by omega) (g1.cut (by omega)) (g2.cut (by omega)) (fun p q h1 h2 h3 h4 => g3 p q h2 h3 (by omega)) (by omega)
     rw [if_pos (by simp only [decide_eq_true_eq]; omega),r1,Option.bind_some,f158.j178,wr (n:=(v:Int)*2) (m:=2*v) (by omega) (by omega)]
     refine ⟨R,rfl,permIn_trans _ _ _ 0 n hp (permIn_mono _ _ _ _ 0 n (Nat.zero_le _) (Nat.le_refl _) (by omega) r2),fun j => (hc j).perm (by omega) (Nat.le_refl _) r2 (by have:=sep j; omega),fun j hj => ?_⟩
     by_cases e:j < i
     ·have:=lo j e
      exact ((hs j e).keep r2 (.inl this)).cut (by omega)
     ·have:j=i:=by
       apply Nat.le_antisymm _ (by omega)
       apply Nat.le_of_not_lt; intro h
       have:=Nat.mul_le_mul_right (2*v) (show i+1≤j from h)
       omega
      subst this
      exact r3.cut (by omega)
    ·rw [if_neg (by simp only [decide_eq_true_eq]; omega),f158.j178,wr (n:=(v:Int)*2) (m:=2*v) (by omega) (by omega)]
     refine ⟨Y,rfl,hp,hc,fun j hj => ?_⟩
     by_cases e:j < i
     ·exact (hs j e).cut (by omega)
     ·have:j=i:=by
       apply Nat.le_antisymm _ (by omega)
       apply Nat.le_of_not_lt; intro h
       have:=Nat.mul_le_mul_right (2*v) (show i+1≤j from h)
       omega
      subst this
      have g1:=hs' (2*j) (by omega) (by omega)
      rw [e2] at g1
      exact g1.cut (by omega)
theorem l40_ok (hS:SWO fam.lt) {n:Nat} {X:Array Nat} (k:Nat) (hn:n=X.size) (hX:X.size < 2305843009213693952) (hk:2*X.size+4≤k) :
 ∀ (d v m:Nat) (Y:Array Nat),n - v≤d→0 < v→PermIn 0 n X Y → (∀ j,Cr (j*v) n Y) → (∀ j,j*v < n→Srt fam.lt (j*v) (min (j*v+v) n) Y)→d+1≤m →
 ∃ R,f158.l40 k (n:Int) fam m (Y,(v:Int))=some R∧PermIn 0 n X R∧Srt fam.lt 0 n R:=by
 intro d
 induction d with
 | zero =>
   intro v m Y hd hv hp hc hs hm
   obtain ⟨m,rfl⟩:∃ q,m=q+1:=⟨m - 1,by omega⟩
   refine ⟨Y,by rw [f158.l40,if_neg (by simp only [decide_eq_true_eq]; omega)],hp,fun p q h1 h2 h3 => ?_⟩
   have:=hs 0 (by omega)
   exact this p q (by omega) h2 (by omega)
 | succ d ih =>
   intro v m Y hd hv hp hc hs hm
   obtain ⟨m,rfl⟩:∃ q,m=q+1:=⟨m - 1,by omega⟩
   by_cases hlt:v < n
   ·rw [f158.l40,if_pos (by simp only [decide_eq_true_eq]; omega),wr (n:=(2:Int) * (v:Int)) (m:=2*v) (by omega) (by omega)]
    have hc2:∀ j,Cr (j * (2*v)) n Y:=fun j => by
     have:=hc (j*2)
     rwa [Nat.mul_assoc] at this
    obtain ⟨R,r1,r2,r3,r4⟩:=l156_ok fam hS k hn hv hlt hX hk (f158.l40 k (n:Int) fam m) n 0 k Y (by omega) (by omega) hp hc2 (fun j _ => hc j) (fun j hj => by omega) (fun j _ hj => hs j hj) (by omega)
    rw [Nat.zero_mul,Nat.zero_add] at r1
    obtain ⟨S,s1,s2,s3⟩:=ih (2*v) m R (by omega) (by omega) r2 r3 r4 (by omega)
    exact ⟨S,by rw [← s1]; exact r1,s2,s3⟩
   ·refine ⟨Y,by rw [f158.l40,if_neg (by simp only [decide_eq_true_eq]; omega)],hp,fun p q h1 h2 h3 => ?_⟩
    have:=hs 0 (by omega)
    exact this p q (by omega) h2 (by omega)
theorem f158_ok (hS:SWO fam.lt) {n:Nat} {X:Array Nat} (k:Nat) (hn:n=X.size) (hX:X.size < 2305843009213693952) (hk:2*X.size+4≤k) (ho:∀ p q,p < q→q < n→X[p]! < X[q]!) :
 ∃ R,f158 k fam X (n:Int)=some R∧PermIn 0 n X R∧Srt fam.lt 0 n R:=by
 unfold f158
 obtain ⟨R,r1,r2,r3,r4⟩:=l20_ok fam hS k hn (by omega) (by omega) n 0 k X (by omega) (by omega) (permIn_refl _ _ _) (fun i p q h1 h2 h3 => ho p q (by omega) h3) (fun p q h1 h2 h3 => ho p q h2 h3) (fun j hj => by omega) (by omega)
 obtain ⟨S,s1,s2,s3⟩:=l40_ok fam hS k hn hX hk n 20 k R (by omega) (by omega) r2 (fun j p q h1 h2 h3 => r3 j p q h1 h2 h3) r4 (by omega)
 exact ⟨S,by rw [← s1]; exact r1,s2,s3⟩
end
end Go.Proofs.Ytnpaokckkbhdjaa.S
end
section
set_option linter.unusedVariables false
set_option linter.unusedSimpArgs false
open Go Go.Vm Go.Proofs Go.Lib
namespace Go.Proofs.Ytnpaokckkbhdjaa.S
set_option maxHeartbeats 4000000 in
set_option maxRecDepth 100000 in
theorem slice96_of {t e:TypeId} {i ie:TypeInfo} (hi:Try.prog.info? t=some i) (hd:i.desc=.slice e) (hpk:Try.prog.packed t=false) (hie:Try.prog.info? e=some ie) {ke:Nat} (hke:∀ w,(Extern.Rtype.kind e).run Try.prog w=.ok ke w)
 (p : Option Addr) (n c : Nat) (hn : n < 2305843009213693952) (f : Nat) (hf : Try.prog.funcs.findIdx? (·.name == "internal/reflectlite" ++ ".Swapper$" ++ toString (swapperK n ie ke)) = some f) (lf : Fn) (la lb : Array Value) (w : World) (R : World → Prop)
 (hp:∀ w2,Grow (fun _ => False) w w2→Calls Try.prog 158 #[.agg #[.func lf la lb,.func (.func f) #[] (if swapperK n ie ke≤2 then #[] else #[.slice p n c,typeHandle Try.prog e])],.int .i64 (n:Int)] w2 fun e w' => e=.returned (.tuple #[])∧R w') :
 Calls Try.prog 96 #[.iface t (.slice p n c),.func lf la lb] w fun e w' => e=.returned (.tuple #[])∧R w':=by
 have hv:=run_valueOf_slice (P:=Try.prog) t e i hi hd p n c w
 have hs:=fun w => run_swapper_slice (P:=Try.prog) t e i ie hi hd hie ke hke p n c f hf w
 have hl:=fun a w ha => run_valueLen_slice (P:=Try.prog) t e i hi hd hpk a p n c w ha
 have e158:∀ args w,(callFunc 158 args).run Try.prog w=.ok (.enter 158 args) w:=enters_of Try.func158 (by kernel_rfl) rfl
 generalize (if swapperK n ie ke≤2 then (#[]:Array Value) else #[.slice p n c,typeHandle Try.prog e])=B at hs hp
 have hg:Try.prog.globals.size=0:=by kernel_rfl
 simp only [typeHandle,hg] at hv hl
 have wr:IntKind.u64.wrap (n:Int)=n:=by rw [IntKind.wrap_u64]; omega
 go_enter Try.func96,Try.ntmps96
 go_wp2
 rw [run_callFunc_extern Try.func138 (by kernel_rfl) (by kernel_rfl) (by kernel_rfl) (e:=fun args => Extern.ReflectliteValue.unpack (args.getD 0 (.tuple #[]))) (by kernel_rfl),
  show Sem.run Try.prog ((fun args:Array Value => Extern.ReflectliteValue.unpack (args.getD 0 (.tuple #[]))) #[.iface t (.slice p n c)]) w=_ from hv]
 simp only [Result.andThen]
 rw [Oper.upon_value]
 go_wp2
 rw [run_callFunc_extern Try.func139 (by kernel_rfl) (by kernel_rfl) (by kernel_rfl) (e := Extern.ReflectliteSwapper.swapper "internal/reflectlite" (Extern.ReflectliteValue.valueError "Swapper")) (by kernel_rfl), hs]
 simp only [Result.andThen]
 rw [Oper.upon_value]
 go_wp2
 rw [run_callFunc_extern Try.func140 (by kernel_rfl) (by kernel_rfl) (by kernel_rfl) (e := Extern.ReflectliteValue.method (Extern.ReflectliteValue.valueError "reflectlite.Value.Len" 0) Extern.ReflectliteValue.len) (by kernel_rfl),
  hl _ _ (by simp)]
 simp only [Result.andThen]
 rw [Oper.upon_value]
 go_wp2_with (go_at_fn 158; refine (hp _ ((Grow.alloc w _).step (Grow.alloc _ _) (fun _ h => h.elim))).mono ?_; rintro e w' ⟨rfl,hR⟩)
 go_end0
 exact ⟨rfl,hR⟩
end Go.Proofs.Ytnpaokckkbhdjaa.S
end
section
set_option linter.unusedVariables false
set_option linter.unusedSimpArgs false
open Go Go.Vm Go.Proofs Go.Lib
namespace Go.Proofs.Ytnpaokckkbhdjaa.S
open Go.Sort (SWO PermIn SortedIn sorted_unique_holds)
def stbR (lt:Nat→Nat→Bool) (n:Nat):Array Nat:=((List.range n).mergeSort (fun x y => !lxb lt y x)).toArray
theorem f158_stb (fam:Fam) (hS:SWO fam.lt) (n k:Nat) (hn:n < 2305843009213693952) (hk:2*n+4≤k):f158 k fam (Array.range n) (n:Int)=some (stbR fam.lt n):=by
 have hs:(Array.range n).size=n:=Array.size_range
 obtain ⟨R,r1,r2,r3⟩:=f158_ok fam hS (n:=n) (X:=Array.range n) k hs.symm (by omega) (by omega) (fun p q h1 h2 => by
  rw [getElem!_pos _ p (by omega),getElem!_pos _ q (by omega),Array.getElem_range,Array.getElem_range]; exact h1)
 rw [r1]
 have h:=sorted_unique_holds (lt:=lxb fam.lt) (lxb_swo hS) (fun x y h1 h2 => by
  by_cases e:x=y
  ·exact e
  ·rcases Lx.tot (lt:=fam.lt) e with h | h
   ·rw [lxb_iff.2 h] at h1; cases h1
   ·rw [lxb_iff.2 h] at h2; cases h2) (Array.range n) R (by rw [hs]; exact r2) (by
  rw [hs]
  intro i j h1 h2 h3
  cases hx:lxb fam.lt R[j]! R[i]! with
  | false => rfl
  | true => exact absurd (lxb_iff.1 hx) ((r3 i j h1 h2 h3).asym hS))
 unfold stbR
 rw [← Array.toList_range (n:=n),← h]
theorem slice96 {t e te:TypeId} {i ie:TypeInfo} (hi:Try.prog.info? t=some i) (hd:i.desc=.slice e) (hpk:Try.prog.packed t=false) (hie:Try.prog.info? e=some ie) {ke:Nat} (hke:∀ w,(Extern.Rtype.kind e).run Try.prog w=.ok ke w)
 {w1:World} {B:Option Nat} {A:Option Addr} {n cp sz:Nat} {c:Nat→List Value} {rest:List Value} {lt:Nat→Nat→Bool} (hn:n < 2305843009213693952) (hB:∀ b,B=some b→A=some ⟨b,0,none⟩∧b < w1.heap.size∧w1.heap[b]?=some (.cells (rowC c (Array.range n) ++ rest).toArray te (0,0)))
 (hnil:B=none→n=0) (hsz:ie.size=sz) (hc:∀ q,(c q).length=sz) (h1:∀ q,∀ v ∈ c q,v.oneCell'=true) (hk:(∀ w,(Go.isAgg e).run Try.prog w=.ok true w) ∨ (sz=1∧∀ w,(Go.isAgg e).run Try.prog w=.ok false w)) (hlt:SWO lt)
 {g:Nat} {lb:Array Value} (hless:∀ X i j,inX X i j→GLess Try.prog (.func (.func g) #[] lb) (soFam w1 B te c rest n lt) X i j (lessF (soFam w1 B te c rest n lt) X i j))
 (hsw : 2 ≤ n → ∃ f gS, Try.prog.funcs.findIdx? (·.name == "internal/reflectlite" ++ ".Swapper$" ++ toString (swapperK n ie ke)) = some f ∧ ∀ args W, (callFunc f args).run Try.prog W = ((Extern.ReflectliteSwapper.swap gS args).run Try.prog W).andThen fun v w' => .ok (.value v) w') :
 Calls Try.prog 96 #[.iface t (.slice A n cp),.func (.func g) #[] lb] w1 fun e w' => e=.returned (.tuple #[])∧∃ f',(soFam w1 B te c rest n lt).J (stbR lt n) w' f'∧Grow (fun i => i < w1.heap.size) w1 w':=by
 have key : ∃ f, Try.prog.funcs.findIdx? (·.name == "internal/reflectlite" ++ ".Swapper$" ++ toString (swapperK n ie ke)) = some f ∧
  ∀ X i j,inX X i j→GSwap Try.prog (.func (.func f) #[] (if swapperK n ie ke≤2 then #[] else #[.slice A n cp,typeHandle Try.prog e])) (soFam w1 B te c rest n lt) X i j (swpF X i j):=by
  rcases Nat.lt_or_ge n 2 with h2 | h2
  ·rcases Nat.eq_zero_or_pos n with h0 | h0
   ·subst h0
    have e1:swapperK 0 ie ke=1:=rfl
    rw [e1]
    refine ⟨175,find1,fun X i j hX => ⟨175,_,rfl,?_⟩⟩
    rintro w f ⟨_,hp,_⟩
    have:=perm_size hp
    obtain ⟨⟨_,_⟩,_⟩:=hX
    omega
   ·have h0:n=1:=by omega
    subst h0
    have e1:swapperK 1 ie ke=2:=rfl
    rw [e1]
    refine ⟨176,find2,fun X i j hX => ⟨176,_,rfl,?_⟩⟩
    rintro w f hJ
    have hs:=perm_size hJ.2.1
    obtain ⟨⟨i0,i1⟩,i2,i3⟩:=hX
    obtain rfl:i=0:=by omega
    obtain rfl:j=0:=by omega
    refine ⟨w,f,?_,?_,fun _ => .inl,Grow.refl _ _⟩
    ·exact lit2 w
    ·have:swpF X 0 0=X:=swp_self (X:=X) (p:=0) (by omega)
     rw [this]; exact hJ
  ·obtain ⟨f,gS,hf,hx⟩:=hsw h2
   refine ⟨f,hf,fun X i j hX => ?_⟩
   have hgt:¬ swapperK n ie ke≤2:=by
    have a1:(n == 0)=false:=by simp; omega
    have a2:(n == 1)=false:=by simp; omega
    unfold swapperK
    simp only [a1,a2,Bool.false_eq_true,if_false]
    repeat' split
    all_goals omega
   rw [if_neg hgt]
   cases B with
   | none => have:=hnil rfl; omega
   | some b =>
     obtain ⟨rfl,_,_⟩:=hB b rfl
     exact so_swap hx hie hsz hc h1 hk hX
 obtain ⟨f,hf,hswap⟩:=key
 have fo:FamOk Try.prog (.func (.func g) #[] lb) (.func (.func f) #[] (if swapperK n ie ke≤2 then #[] else #[.slice A n cp,typeHandle Try.prog e])) (soFam w1 B te c rest n lt):=⟨hless,hswap⟩
 refine slice96_of hi hd hpk hie hke A n cp hn f hf (.func g) #[] lb w1 _ ?_
 intro w2 hg2
 have hX0:(Array.range n).size=n:=Array.size_range
 have hJ:(soFam w1 B te c rest n lt).J (Array.range n) w2 (fun i => i < w1.heap.size):=by
  refine ⟨fun i => Iff.rfl,by simp,fun i hi _ => hg2.block i hi id,fun b hb => ?_⟩
  obtain ⟨_,q2,q3⟩:=hB b hb
  exact ⟨q2,by rw [hg2.block b q2 id]; exact q3⟩
 have hm:=c158 (n+n+30) (soFam w1 B te c rest n lt) (Array.range n) (n:Int) fo _ (f158_stb (soFam w1 B te c rest n lt) hlt n (n+n+30) hn (by omega))
 have hargs:VReps (fun _ => False) w2 [⟨sh1,((.func (.func g) #[] lb,(soFam w1 B te c rest n lt,Array.range n)),.func (.func f) #[] (if swapperK n ie ke≤2 then #[] else #[.slice A n cp,typeHandle Try.prog e]))⟩,⟨.int .i64,(n:Int)⟩]
  [.agg #[.func (.func g) #[] lb,.func (.func f) #[] (if swapperK n ie ke≤2 then #[] else #[.slice A n cp,typeHandle Try.prog e])],.int .i64 (n:Int)] (fun i => i < w1.heap.size):=by
  refine vreps_head (data_mk (x:=((.func (.func g) #[] lb,(soFam w1 B te c rest n lt,Array.range n)),.func (.func f) #[] (if swapperK n ie ke≤2 then #[] else #[.slice A n cp,typeHandle Try.prog e]))) rfl rfl hJ) ?_
  exact vreps_cons ⟨_,⟨rfl,fun _ => id⟩,rfl⟩ ⟨rfl,fun _ => id⟩
 have hcall:=hm.2 (fun _ => False) w2 _ (fun i => i < w1.heap.size) (fun i hi => hi.elim) hargs (fun i _ => id)
 refine hcall.mono ?_
 rintro e1 w' ⟨vs,Fr,f1,Zn,rfl,hzn,hvs,hfr,hfs,hf1,hgr⟩
 obtain ⟨rfl,_⟩:=hvs
 refine ⟨rfl,?_⟩
 obtain ⟨v,vs',g1,g2,hcons,_,_,hv1,_⟩:=hfs
 obtain ⟨_,_,_,hJ'⟩:=data_rep hv1
 have hg3:Grow (fun i => i < w1.heap.size) w1 w2:=⟨hg2.os,hg2.tape,hg2.output,hg2.size,fun i hi _ => hg2.block i hi id⟩
 refine ⟨g1,?_,hg3.step hgr (fun i hi => .inl hi)⟩
 simp only [List.cons.injEq] at hcons
 exact hJ'
theorem sc96 {t e:TypeId} {sz:Nat} {p:Bool} {bytes ke K f:Nat} {gS:Bool} (hi:(Try.prog.info? t).map (fun i => i.desc)=some (.slice e)) (hpk:Try.prog.packed t=false) (hie:(Try.prog.info? e).map (fun i => (i.size,i.hasPointers,i.bytes))=some (sz,p,bytes))
 (hke:∀ w,(Extern.Rtype.kind e).run Try.prog w=.ok ke w) (hk:(∀ w,(Go.isAgg e).run Try.prog w=.ok true w) ∨ (sz=1∧∀ w,(Go.isAgg e).run Try.prog w=.ok false w))
 (hK:swK p bytes ke=K)
 (hf : Try.prog.funcs.findIdx? (·.name == "internal/reflectlite" ++ ".Swapper$" ++ toString K) = some f) (hx : ∀ args W, (callFunc f args).run Try.prog W = ((Extern.ReflectliteSwapper.swap gS args).run Try.prog W).andThen fun v w' => .ok (.value v) w') :
 SortC Try.prog 96 t e sz stbR:=by
 obtain ⟨i,hi1,hi2⟩:=info_get hi
 obtain ⟨ie,he1,he2⟩:=info_get hie
 simp only [Prod.mk.injEq] at he2
 obtain ⟨q1,q2,q3⟩:=he2
 intro w1 B A n cp c rest lt g lb hn hB hnil hc h1 hlt hless
 refine slice96 hi1 hi2 hpk he1 hke hn hB hnil q1 hc h1 hk hlt hless (fun h2 => ⟨f,gS,?_,hx⟩)
 have a1:(n == 0)=false:=by simp; omega
 have a2:(n == 1)=false:=by simp; omega
 have:swapperK n ie ke=K:=by
  unfold swapperK
  simp only [a1,a2,Bool.false_eq_true,if_false]
  rw [q2,q3]
  exact hK
 rw [this]
 exact hf
end Go.Proofs.Ytnpaokckkbhdjaa.S
end
section
set_option linter.unusedVariables false
set_option linter.unusedSimpArgs false
open Go Go.Vm Go.Proofs Go.Lib
namespace Go.Proofs.Ytnpaokckkbhdjaa.S
open Go.Sort (SWO PermIn SortedIn)
theorem sc96_86:SortC Try.prog 96 86 158 5 stbR:=sc96 (gS:=false) (p:=true) (bytes:=64) (ke:=25) (by kernel_rfl) (by kernel_rfl) (by kernel_rfl) (fun w => by kernel_rfl) (.inl fun w => by kernel_rfl) (K:=9) (by kernel_rfl) find9 lit9
theorem stbR_ok {lt:Nat→Nat→Bool} (hS:SWO lt) (n:Nat):(stbR lt n).toList.Perm (List.range n) ∧ (stbR lt n).toList.Pairwise (Lx lt):=by
 unfold stbR
 have hp:((List.range n).mergeSort (fun x y => !lxb lt y x)).Perm (List.range n):=List.mergeSort_perm _ _
 refine ⟨hp,?_⟩
 have h1:((List.range n).mergeSort (fun x y => !lxb lt y x)).Pairwise (fun x y => (!lxb lt y x)=true):=by
  refine List.pairwise_mergeSort (le:=fun x y => !lxb lt y x) (fun a b c h1 h2 => ?_) (fun a b => ?_) _
  ·have:=(lxb_swo hS).ntrans c b a (by simpa using h2) (by simpa using h1)
   simpa using this
  ·cases h1:lxb lt b a with
   | false => rfl
   | true =>
     have:lxb lt a b=false:=by
      cases h2:lxb lt a b with
      | false => rfl
      | true => exact absurd (lxb_iff.1 h1) ((lxb_iff.1 h2).asym hS)
     simp [this]
 have h2:((List.range n).mergeSort (fun x y => !lxb lt y x)).Nodup:=hp.nodup_iff.2 List.nodup_range
 refine (h1.and h2).imp fun {x y} ⟨q1,q2⟩ => ?_
 rcases Lx.tot (lt:=lt) q2 with h | h
 ·exact h
 ·rw [lxb_iff.2 h] at q1; cases q1
theorem lx_uniq {lt:Nat→Nat→Bool} (hS:SWO lt):∀ {l l':List Nat},l.Perm l'→l.Pairwise (Lx lt)→l'.Pairwise (Lx lt)→l=l'
 | [],l',h,_,_ => (List.nil_perm.1 h).symm
 | x :: l,[],h,_,_ => absurd h.length_eq (by simp)
 | x :: l,y :: l',h,h1,h2 => by
   have hx:x ∈ y :: l':=h.subset (by simp)
   have hy:y ∈ x :: l:=h.symm.subset (by simp)
   have e:x=y:=by
    rcases List.mem_cons.1 hx with e | hx
    ·exact e
    rcases List.mem_cons.1 hy with e | hy
    ·exact e.symm
    exact absurd ((List.pairwise_cons.1 h1).1 y hy) (((List.pairwise_cons.1 h2).1 x hx).asym hS)
   subst e
   rw [lx_uniq hS h.cons_inv (List.pairwise_cons.1 h1).2 (List.pairwise_cons.1 h2).2]
def insAt (P:Nat→Bool):Nat→Nat
 | 0 => 0
 | n+1 => if P n then n+1 else insAt P n
theorem insAt_ok (P:Nat→Bool):∀ n,insAt P n≤n ∧ (∀ q,insAt P n≤q→q < n→P q=false) ∧ (0 < insAt P n→P (insAt P n - 1)=true)
 | 0 => ⟨Nat.le_refl _,fun q h1 h2 => by omega,fun h => by simp [insAt] at h⟩
 | n+1 => by
   obtain ⟨h1,h2,h3⟩:=insAt_ok P n
   unfold insAt
   cases hP:P n with
   | true => simp only [if_true]; exact ⟨Nat.le_refl _,fun q q1 q2 => by omega,fun _ => by simpa using hP⟩
   | false =>
     simp only [Bool.false_eq_true,if_false]
     refine ⟨by omega,fun q q1 q2 => ?_,h3⟩
     rcases Nat.lt_or_ge q n with h | h
     ·exact h2 q q1 h
     ·have:q=n:=by omega
      subst this; exact hP
def insL {α:Type} (d:α) (L:α→α→Bool) (l:List α) (x:α):List α:=l.take (insAt (fun q => !L x (l.getD q d)) l.length) ++ x :: l.drop (insAt (fun q => !L x (l.getD q d)) l.length)
theorem stb_ins {lt:Nat→Nat→Bool} (hS:SWO lt) {is:List Nat} {i a:Nat} (ha:a≤is.length) (hp:is.Perm (List.range i)) (hw:is.Pairwise (Lx lt)) (h1:∀ q,a≤q→q < is.length→lt i (is.getD q 0)=true) (h2:0 < a→lt i (is.getD (a - 1) 0)=false) :
 (is.take a ++ i :: is.drop a).Perm (List.range (i+1)) ∧ (is.take a ++ i :: is.drop a).Pairwise (Lx lt):=by
 constructor
 ·refine List.perm_middle.trans ?_
  rw [List.take_append_drop,List.range_succ]
  exact (hp.cons i).trans (List.perm_append_singleton i _).symm
 ·rw [List.pairwise_iff_getElem] at hw
  have hm:∀ p (h:p < is.length),is[p] < i:=fun p h => by simpa using hp.subset (List.getElem_mem h)
  have low:∀ p (h:p < is.length),p < a→Lx lt is[p] i:=fun p h hpa => by
   have ha':a - 1 < is.length:=by omega
   have h3:=h2 (by omega)
   rw [List.getD_eq_getElem?_getD,List.getElem?_eq_getElem ha'] at h3
   have h4:Lx lt is[a - 1] i:=by
    unfold Lx
    cases hq:lt is[a - 1] i with
    | true => exact .inl rfl
    | false => exact .inr ⟨by simpa using h3,hm _ ha'⟩
   rcases Nat.lt_or_ge p (a - 1) with h | h
   ·exact (hw p (a - 1) _ _ h).trans hS h4
   ·have:p=a - 1:=by omega
    subst this; exact h4
  rw [List.pairwise_append,List.pairwise_cons]
  refine ⟨List.Pairwise.sublist (List.take_sublist _ _) (List.pairwise_iff_getElem.2 hw),⟨fun y hy => ?_,List.Pairwise.sublist (List.drop_sublist _ _) (List.pairwise_iff_getElem.2 hw)⟩,fun x hx y hy => ?_⟩
  ·obtain ⟨q,hq,rfl⟩:=List.getElem_of_mem hy
   rw [List.length_drop] at hq
   rw [List.getElem_drop]
   have:=h1 (a+q) (by omega) (by omega)
   rw [List.getD_eq_getElem?_getD,List.getElem?_eq_getElem (by omega)] at this
   exact .inl this
  ·obtain ⟨p,hp',rfl⟩:=List.getElem_of_mem hx
   rw [List.length_take] at hp'
   rw [List.getElem_take]
   have hl:=low p (by omega) (by omega)
   rcases List.mem_cons.1 hy with rfl | hy
   ·exact hl
   ·obtain ⟨q,hq,rfl⟩:=List.getElem_of_mem hy
    rw [List.length_drop] at hq
    rw [List.getElem_drop]
    exact hw p (a+q) _ _ (by omega)
theorem stb_fold {α:Type} {d:α} {L:α→α→Bool} (hL:SWO L) (xs:List α):∀ i,i≤xs.length→∃ is:List Nat,is.Perm (List.range i)∧is.Pairwise (Lx fun p q => L (xs.getD p d) (xs.getD q d)) ∧ (xs.take i).foldl (insL d L) []=is.map (fun q => xs.getD q d)
 | 0,_ => ⟨[],by simp,List.Pairwise.nil,by simp⟩
 | i+1,hi => by
   have hlt:SWO (fun p q => L (xs.getD p d) (xs.getD q d)):=⟨fun x => hL.irrefl _,fun x y z => hL.trans _ _ _,fun x y z => hL.ntrans _ _ _⟩
   obtain ⟨is,h1,h2,h3⟩:=stb_fold hL xs i (by omega)
   have hx:xs.take (i+1)=xs.take i ++ [xs.getD i d]:=by
    rw [List.take_add_one,List.getElem?_eq_getElem (by omega),List.getD_eq_getElem?_getD,List.getElem?_eq_getElem (by omega)]; rfl
   rw [hx,List.foldl_append,h3]
   simp only [List.foldl_cons,List.foldl_nil]
   have hg:∀ q,q < is.length → (is.map (fun q => xs.getD q d)).getD q d=xs.getD (is.getD q 0) d:=fun q hq => by
    rw [List.getD_eq_getElem?_getD,List.getD_eq_getElem?_getD (l:=is),List.getElem?_map,List.getElem?_eq_getElem hq]; rfl
   obtain ⟨a1,a2,a3⟩:=insAt_ok (fun q => !L (xs.getD i d) ((is.map (fun q => xs.getD q d)).getD q d)) (is.map (fun q => xs.getD q d)).length
   unfold insL
   generalize insAt (fun q => !L (xs.getD i d) ((is.map (fun q => xs.getD q d)).getD q d)) (is.map (fun q => xs.getD q d)).length=a at a1 a2 a3
   simp only [List.length_map] at a1 a2
   obtain ⟨b1,b2⟩:=stb_ins hlt (a:=a) a1 h1 h2 (fun q q1 q2 => by have:=a2 q q1 q2; rw [hg q q2] at this; simpa using this) (fun h => by have:=a3 h; rw [hg _ (by omega)] at this; simpa using this)
   refine ⟨_,b1,b2,?_⟩
   rw [List.map_append,List.map_cons,List.map_take,List.map_drop]
theorem sortR_stb {α:Type} {d:α} {L:α→α→Bool} (hL:SWO L) (xs:List α):sortR stbR d L xs=xs.foldl (insL d L) []:=by
 have hlt:SWO (fun p q => L (xs.getD p d) (xs.getD q d)):=⟨fun x => hL.irrefl _,fun x y z => hL.trans _ _ _,fun x y z => hL.ntrans _ _ _⟩
 obtain ⟨is,h1,h2,h3⟩:=stb_fold (d:=d) hL xs xs.length (Nat.le_refl _)
 rw [List.take_length] at h3
 rw [h3]
 obtain ⟨q1,q2⟩:=stbR_ok hlt xs.length
 unfold sortR getX
 rw [lx_uniq hlt (q1.trans h1.symm) q2 h2]
end Go.Proofs.Ytnpaokckkbhdjaa.S
end
