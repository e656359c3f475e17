/-
  Statements, programs, Check; the law's tree answers true.
-/
import Derived.Test.YtmocfnfnhgognaaGreatMA
import Derived.Test.YtmocfnfnhgognaaGreatMF
namespace Go.Proofs.YtmocfnfnhgognaaGreat
namespace X
section
open Go B Go.Proofs
variable {hand:Zd3}
mutual
def Tree.num:Tree→Nat
 | .mk _ _ _ _ _ l=>1+ZfK l
def ZfK:List Tree→Nat
 | []=>0
 | t::l=>t.num+ZfK l
end
theorem Zy9 (t:Tree):1≤t.num:=by cases t;rw [Tree.num];omega
theorem ZfJ:∀ {l:List Tree} {t:Tree},t∈l→t.num≤ZfK l
 | u::l,t,h=>by
  rw [ZfK]
  rcases List.mem_cons.1 h with e | h
  · rw [e];omega
  · have:=ZfJ h;omega
theorem ZlH:∀ l:List Tree,l.length≤ZfK l
 | []=>by simp
 | t::l=>by rw [ZfK,List.length_cons];have:=Zy9 t;have:=ZlH l;omega
theorem ZlI:∀ l m:List Tree,ZfK (l++m)=ZfK l+ZfK m
 | [],m=>by rw [Kd,ZfK,Nat.zero_add]
 | t::l,m=>by rw [Kc,ZfK,ZfK,ZlI l m];omega
theorem ZgO {α:Type} {l:List α} {i:Nat} {a:α} (h:l[i]?=some a):l.take (i+1)=l.take i++[a]:=by
 rw [List.take_add_one,h];rfl
theorem ZjC {l:List Tree} {i:Nat} {t:Tree} (h:l[i]?=some t):ZfK (l.take (i+1))=ZfK (l.take i)+t.num:=by
 rw [ZgO h,ZlI,ZfK,ZfK,Nat.add_zero]
theorem ZoC (l:List Tree) (i:Nat):ZfK (l.take i)≤ZfK l:=by
 have:=ZlI (l.take i) (l.drop i)
 rw [List.take_append_drop] at this;omega
theorem ZAr {a b c:Nat} (h:a+b=c) (hc:c<9223372036854775808):ZeI theTabs .add 3 (.v (.int .i64 (a:Int))) (.v (.int .i64 (b:Int)))=some (.v (.int .i64 (c:Int))):=ZCA (by rw [wrap_i64]<;>omega)
theorem ZAA {a b c:Nat} (h:c+b=a) (hc:a<9223372036854775808):ZeI theTabs .sub 3 (.v (.int .i64 (a:Int))) (.v (.int .i64 (b:Int)))=some (.v (.int .i64 (c:Int))):=ZuZ (by rw [wrap_i64]<;>omega)
theorem leN (a b:Nat):decide ((a:Int)≤(b:Int))=decide (a≤b):=decide_eq_decide.2 (by omega)
theorem ZCS (a b:Nat):(if ((b:Nat):Int)<((a:Nat):Int) then ((b:Nat):Int) else ((a:Nat):Int))=((min a b:Nat):Int):=by
 split<;>omega
theorem t20 (K:Nat) (hK:K<1125899906842624):∀ t:Tree,t.fits→ML prg hand 20 (t.cells++[.v (.int .i64 (K:Int))])=some (0,[.v (.int .i64 ((min t.num (K+1):Nat):Int))]):=by
 apply Tree.ind
 intro k a s n p l ih hf
 rw [Tree.fits] at hf
 have h:=Zar 25 p (l.map Tree.d)
 have aK:=ZAr (a:=K) (b:=1) rfl (by omega)
 rw [show ((1:Nat):Int)=1 from rfl] at aK
 have key:∃ o,ZbJ (fun v=>Zad theTabs (ML prg hand) Zoa ([.v (.int .u8 k),.v (.int .i64 a),.v (.string s),.v (.int .u64 n),Zav 25 p (l.map Tree.d),.v (.int .i64 (K:Int))]++v)) [.v (.int .i64 1),.v (.int .i64 0)]=some o∧o=.fin 0 [.v (.int .i64 ((min (1+ZfK l) (K+1):Nat):Int))]:=by
  refine ZjL (I:=fun i v=>∃ S:Nat,v=[.v (.int .i64 (S:Int)),.v (.int .i64 (i:Int))]∧i≤l.length∧S≤2*(K+1)∧min S (K+1)=min (1+ZfK (l.take i)) (K+1)) l.length ⟨1,rfl,Nat.zero_le _,by omega,by rw [List.take_zero,ZfK]⟩ (fun i v hI=>?_)
  obtain ⟨S,rfl,h1,h3,h4⟩:=hI
  unfold Zoa
  by_cases hi:i<l.length
  · obtain ⟨u,hu⟩:∃ f,l[i]?=some f:=⟨_,List.getElem?_eq_getElem hi⟩
    have hmem:=List.mem_of_getElem? hu
    by_cases hS:S≤K
    · have e1:decide ((S:Int)≤(K:Int))=true:=by rw [leN];simp [hS]
      have r1:=ih u hmem (Za8 hf.2.2 hmem)
      have hn:=ZjC hu
      cases u with
      | mk k' a' s' n' p' m' =>
      rw [Tree.c] at r1
      simp only [Kc,Kd] at r1
      generalize Tree.num (.mk k' a' s' n' p' m')=N at r1 hn
      have a1:=ZAr (a:=S) (b:=min N (K+1)) rfl (by omega)
      refine .inl ⟨_,?_,⟨S+min N (K+1),rfl,hi,by omega,by omega⟩,hi⟩
      simp only [Zad,dv,ixD,Ka,Kb,Kc,Kd,Ke,Kf,Kg,if_true,Kh,brB,cond_true,Kk,Zbl h,ltY hi,ZxJ,e1,ZbP h hi,ldN h hu,r1,a1,Ziu (Nat.lt_trans hi hf.2.1)]
    · have e1:decide ((S:Int)≤(K:Int))=false:=by rw [leN];simp;omega
      have hn:=ZoC l i
      refine .inr ⟨_,?_,rfl⟩
      simp only [Zad,dv,ixD,Ka,Kb,Kc,Kd,Ke,Kf,Kg,if_true,if_false,Kj,Kh,Ki,brB,Kk,Zbl h,ltY hi,ZxJ,e1,aK,ZAI,ZCS]
      rw [show min (1+ZfK l) (K+1)=min S (K+1) by omega]
  · obtain rfl:i=l.length:=by omega
    rw [List.take_length] at h4
    refine .inr ⟨_,?_,rfl⟩
    by_cases hS:S≤K
    · have e1:decide ((S:Int)≤(K:Int))=true:=by rw [leN];simp [hS]
      simp only [Zad,dv,ixD,Ka,Kb,Kc,Kd,Ke,Kf,Kg,if_true,if_false,Kj,Kh,Ki,brB,Kk,Zbl h,ltN,ZxJ,e1,aK,ZAI,ZCS,h4]
    · have e1:decide ((S:Int)≤(K:Int))=false:=by rw [leN];simp;omega
      simp only [Zad,dv,ixD,Ka,Kb,Kc,Kd,Ke,Kf,Kg,if_false,Kj,Kh,Ki,brB,Kk,Zbl h,ltN,ZxJ,e1,aK,ZAI,ZCS,h4]
 obtain ⟨o,k1,rfl⟩:=key
 rw [Zah ZGm,Tree.num,Tree.c]
 unfold ZFg
 rw [ZhL]
 exact congrArg Zdd k1
theorem t47:∀ t:Tree,t.fits→ML prg hand 47 t.cells=some (0,[.v (.int .i64 ((min t.num 65537:Nat):Int))]):=by
 apply Tree.ind
 intro k a s n p l ih hf
 rw [Tree.fits] at hf
 have h:=Zar 25 p (l.map Tree.d)
 have mn:∀ S:Nat,(if (65537:Int)<(S:Int) then (65537:Int) else (S:Int))=((min S 65537:Nat):Int):=fun S=>ZCS S 65537
 have key:∃ o,ZbJ (fun v=>Zad theTabs (ML prg hand) Zn7 ([.v (.int .u8 k),.v (.int .i64 a),.v (.string s),.v (.int .u64 n),Zav 25 p (l.map Tree.d)]++v)) [.v (.int .i64 1),.v (.int .i64 0)]=some o∧o=.fin 0 [.v (.int .i64 ((min (1+ZfK l) 65537:Nat):Int))]:=by
  refine ZjL (I:=fun i v=>∃ S:Nat,v=[.v (.int .i64 (S:Int)),.v (.int .i64 (i:Int))]∧i≤l.length∧S≤200000∧min S 65537=min (1+ZfK (l.take i)) 65537) l.length ⟨1,rfl,Nat.zero_le _,by omega,by rw [List.take_zero,ZfK]⟩ (fun i v hI=>?_)
  obtain ⟨S,rfl,h1,h3,h4⟩:=hI
  unfold Zn7
  by_cases hi:i<l.length
  · obtain ⟨u,hu⟩:∃ f,l[i]?=some f:=⟨_,List.getElem?_eq_getElem hi⟩
    have hmem:=List.mem_of_getElem? hu
    by_cases hS:S≤65536
    · have e1:decide ((S:Int)≤65536)=true:=decide_eq_true (by omega)
      have r1:=ih u hmem (Za8 hf.2.2 hmem)
      have hn:=ZjC hu
      cases u with
      | mk k' a' s' n' p' m' =>
      rw [Tree.c] at r1
      generalize Tree.num (.mk k' a' s' n' p' m')=N at r1 hn
      have a1:=ZAr (a:=S) (b:=min N 65537) rfl (by omega)
      refine .inl ⟨_,?_,⟨S+min N 65537,rfl,hi,by omega,by omega⟩,hi⟩
      simp only [Zad,dv,ixD,Ka,Kb,Kc,Kd,Ke,Kf,Kg,if_true,Kh,brB,cond_true,Kk,Zbl h,ltY hi,ZxJ,e1,ZbP h hi,ldN h hu,r1,a1,Ziu (Nat.lt_trans hi hf.2.1)]
    · have e1:decide ((S:Int)≤65536)=false:=decide_eq_false (by omega)
      have hn:=ZoC l i
      refine .inr ⟨_,?_,rfl⟩
      simp only [Zad,dv,ixD,Ka,Kb,Kc,Kd,Ke,Kf,Kg,if_true,if_false,Kj,Kh,Ki,brB,Kk,Zbl h,ltY hi,ZxJ,e1,ZAI,mn]
      rw [show min (1+ZfK l) 65537=min S 65537 by omega]
  · obtain rfl:i=l.length:=by omega
    rw [List.take_length] at h4
    refine .inr ⟨_,?_,rfl⟩
    by_cases hS:S≤65536
    · have e1:decide ((S:Int)≤65536)=true:=decide_eq_true (by omega)
      simp only [Zad,dv,ixD,Ka,Kb,Kc,Kd,Ke,Kf,Kg,if_true,if_false,Kj,Kh,Ki,brB,Kk,Zbl h,ltN,ZxJ,e1,ZAI,mn,h4]
    · have e1:decide ((S:Int)≤65536)=false:=decide_eq_false (by omega)
      simp only [Zad,dv,ixD,Ka,Kb,Kc,Kd,Ke,Kf,Kg,if_false,Kj,Kh,Ki,brB,Kk,Zbl h,ltN,ZxJ,e1,ZAI,mn,h4]
 obtain ⟨o,k1,rfl⟩:=key
 rw [Zah ZFr,Tree.num,Tree.c]
 unfold ZDe
 rw [ZhL]
 exact congrArg Zdd k1
theorem t37:∀ t:Tree,t.fits→∀ K:Nat,K<1125899906842624→ML prg hand 37 (t.cells++[.v (.int .i64 (K:Int))])=some (0,[.v (.int .i64 ((min t.num (K+1):Nat):Int))]):=by
 apply Tree.ind
 intro k a s n p l ih hf K hK
 rw [Tree.fits] at hf
 have h:=Zar 25 p (l.map Tree.d)
 have key:∃ o,ZbJ (fun v=>Zad theTabs (ML prg hand) Zn9 (.v (.int .u8 k)::.v (.int .i64 a)::.v (.string s)::.v (.int .u64 n)::Zav 25 p (l.map Tree.d)::.v (.int .i64 (K:Int))::.v (.int .i64 (l.length:Int))::v)) [.v (.int .i64 1),.v (.int .i64 0)]=some o∧o=.fin 0 [.v (.int .i64 ((min (1+ZfK l) (K+1):Nat):Int))]:=by
  refine ZjL (I:=fun i v=>∃ S:Nat,v=[.v (.int .i64 (S:Int)),.v (.int .i64 (i:Int))]∧i≤l.length∧S=min (1+ZfK (l.take i)) (K+1)) l.length ⟨1,rfl,Nat.zero_le _,by rw [List.take_zero,ZfK];omega⟩ (fun i v hI=>?_)
  obtain ⟨S,rfl,h1,h4⟩:=hI
  unfold Zn9
  by_cases hi:i<l.length
  · obtain ⟨u,hu⟩:∃ f,l[i]?=some f:=⟨_,List.getElem?_eq_getElem hi⟩
    have hmem:=List.mem_of_getElem? hu
    by_cases hS:S≤K
    · have e1:decide ((S:Int) > (K:Int))=false:=decide_eq_false (by omega)
      have s1:=ZAA (a:=K) (b:=S) (c:=K-S) (by omega) (by omega)
      have r1:=ih u hmem (Za8 hf.2.2 hmem) (K-S) (by omega)
      have hn:=ZjC hu
      cases u with
      | mk k' a' s' n' p' m' =>
      rw [Tree.c] at r1
      simp only [Kc,Kd] at r1
      generalize Tree.num (.mk k' a' s' n' p' m')=N at r1 hn
      have a1:=ZAr (a:=S) (b:=min N (K-S+1)) rfl (by omega)
      refine .inl ⟨_,?_,⟨S+min N (K-S+1),rfl,hi,by omega⟩,hi⟩
      simp only [Zad,dv,ixD,Ka,Kb,Kc,Kd,Ke,Kf,Kg,if_true,if_false,Kj,Kh,Ki,brB,cond_true,Kk,ltY hi,ZrD,e1,ZbP h hi,ldN h hu,s1,r1,a1,Ziu (Nat.lt_trans hi hf.2.1)]
    · have e1:decide ((S:Int) > (K:Int))=true:=decide_eq_true (by omega)
      have hn:=ZoC l i
      cases u with
      | mk k' a' s' n' p' m' =>
      refine .inr ⟨_,?_,rfl⟩
      simp only [Zad,dv,ixD,Ka,Kb,Kc,Kd,Ke,Kf,Kg,if_true,Kh,Ki,brB,cond_true,Kk,ltY hi,ZrD,e1,ZbP h hi,ldN h hu]
      rw [show min (1+ZfK l) (K+1)=S by omega]
  · obtain rfl:i=l.length:=by omega
    rw [List.take_length] at h4
    refine .inr ⟨_,?_,rfl⟩
    simp only [Zad,dv,ixD,Ka,Kb,Kc,Kd,Ke,Kf,Kg,if_false,Kj,Kh,Ki,brB,Kk,ltN]
    rw [h4]
 obtain ⟨o,k1,rfl⟩:=key
 rw [Zah ZGk,Tree.num,Tree.c]
 unfold ZFe
 simp only [Zad,dv,Ka,Kb,Kc,Kd,Kf,Kg,Kh,Zbl h]
 exact congrArg Zdd k1
def Zdb:D:=.ag [.v (.int .u8 177),.v (.int .i64 0),.v (.string (str [])),.v (.int .u64 0),.v (.slice none 0 0)]
mutual
def Zbp:Tree→Tree
 | .mk k a s n _ l=>.mk k a s n (some [Zdb,Zdb]) (ZtW l)
def ZtW:List Tree→List Tree
 | []=>[]
 | t::l=>Zbp t::ZtW l
end
theorem Zg0:∀ l,ZtW l=l.map Zbp
 | []=>by rw [ZtW];rfl
 | t::l=>by rw [ZtW,Zg0 l];rfl
theorem Zgo (k a:Int) (s:ByteArray) (n:Int) (p:Option (List D)) (l:List Tree):(Zbp (.mk k a s n p l)).cells=[.v (.int .u8 k),.v (.int .i64 a),.v (.string s),.v (.int .u64 n),.sl 25 ((l.map Zbp).map Tree.d) [Zdb,Zdb]]:=by
 rw [Zbp,Tree.c,Zg0];rfl
theorem Zzv (k a:Int) (s:ByteArray) (n:Int) (p:Option (List D)) (l:List Tree):(Zbp (.mk k a s n p l)).d=.ag [.v (.int .u8 k),.v (.int .i64 a),.v (.string s),.v (.int .u64 n),.sl 25 ((l.map Zbp).map Tree.d) [Zdb,Zdb]]:=by
 unfold Tree.d;rw [Zgo];rfl
theorem ZrP (l:List D):Zf0 true l=.ag l:=rfl
theorem Zlz (e:Nat) (l:List D) {m:List D} (h:m≠[]):D.sl e (l++m) []=Zu9 e (l++m):=(Ztq (by cases m;exact absurd rfl h;simp)).symm
theorem Zzq {e:Nat} (l:List D) {m:List D} {n:Nat} (hn:n=l.length) (h:m≠[]):Zkv e (.sl e (l++m) []) none (some (.v (.int .i64 (n:Int))))=some (.sl e l m):=by
 subst hn
 rw [ZEf (by simp),List.append_nil,List.take_left,List.drop_left]
theorem ZBO {e:Nat} (l x:List D) {n:Nat} (h:n=(l++x).length):Zkv e (.sl e l x) none (some (.v (.int .i64 (n:Int))))=some (.sl e (l++x) []):=by
 subst h
 rw [ZEf (Nat.le_refl _),List.take_length,List.drop_length]
theorem ZFj:szE 23 25 64:=by unfold szE;kernel_rfl
theorem t6:∀ t:Tree,t.fits→t.num≤1000000→ML prg hand 6 t.cells=some (0,(Zbp t).cells):=by
 apply Tree.ind
 intro k a s n p l ih hf hs
 rw [Tree.fits] at hf
 rw [Tree.num] at hs
 have hln:=ZlH l
 have h:=Zar 25 p (l.map Tree.d)
 rw [Zah sg6,Zgo]
 unfold tr6
 rw [Tree.c,ZhL]
 have key:=ZeC (f:=fun v=>Zad theTabs (ML prg hand) Zpj ([.v (.int .u8 k),.v (.int .i64 a),.v (.string s),.v (.int .u64 n),Zav 25 p (l.map Tree.d)]++v)) (o:=.fin 0 [.v (.int .u8 k),.v (.int .i64 a),.v (.string s),.v (.int .u64 n),.sl 25 ((l.map Zbp).map Tree.d) [Zdb,Zdb]]) l.length (fun i=>[.v (.int .i64 (i:Int)),Zu9 25 (((l.take i).map Zbp).map Tree.d)]) (fun i hi=>?_) ?_
 · exact congrArg Zdd key
 · obtain ⟨u,hu⟩:∃ f,l[i]?=some f:=⟨_,List.getElem?_eq_getElem hi⟩
   have hmem:=List.mem_of_getElem? hu
   have i1:=ih u hmem (Za8 hf.2.2 hmem) (by have:=ZfJ hmem;omega)
   have hlen:(((l.take i).map Zbp).map Tree.d).length≤1000000:=by simp;omega
   rw [ZgO hu,List.map_append,List.map_append,←Zlz _ _ (by simp)]
   cases u with
   | mk k' a' s' n' p' m' =>
   have e4:=Zu2 ZFj (l:=((l.take i).map Zbp).map Tree.d) (m:=[.ag [.v (.int .u8 k'),.v (.int .i64 a'),.v (.string s'),.v (.int .u64 n'),.sl 25 ((m'.map Zbp).map Tree.d) [Zdb,Zdb]]]) (x:=[]) (by simp) (by simp only [List.length_cons,List.length_nil];omega) (by simp only [List.length_cons,List.length_nil];omega)
   rw [Tree.c,Zgo] at i1
   unfold Zpj
   simp only [Zad,dv,ixD,Ka,Kb,Kc,Kd,Ke,Kf,Kg,if_true,Kh,brB,cond_true,Kk,Zbl h,ltY hi,ZbP h hi,ldN h hu,i1,ZrP,e4,Ziu (show i<140737488355328 by omega),Zzv]
 · have hll:(((l.take l.length).map Zbp).map Tree.d).length≤1000000:=by simp;omega
   have key2:=ZeC (f:=fun v=>Zad theTabs (ML prg hand) Zpi (.v (.int .u8 k)::.v (.int .i64 a)::.v (.string s)::.v (.int .u64 n)::Zav 25 p (l.map Tree.d)::.v (.int .i64 (l.length:Int))::Zu9 25 (((l.take l.length).map Zbp).map Tree.d)::.v (.int .i64 (l.length:Int))::.v (.bool false)::v)) (o:=.fin 0 [.v (.int .u8 k),.v (.int .i64 a),.v (.string s),.v (.int .u64 n),.sl 25 ((l.map Zbp).map Tree.d) [Zdb,Zdb]]) 2 (fun i=>[.v (.int .i64 (i:Int)),Zu9 25 (((l.take l.length).map Zbp).map Tree.d++List.replicate i Zdb)]) (fun i hi=>?_) ?_
   · rw [show List.replicate 0 Zdb=[] from rfl,List.append_nil] at key2
     unfold Zpj
     simp only [Zad,dv,ixD,Ka,Kb,Kc,Kd,Ke,Kf,Kg,if_false,Kj,Kh,brB,Kk,Zbl h,ltN]
     rw [show ((0:Nat):Int)=0 from rfl] at key2
     rw [key2];rfl
   · have e2:decide ((i:Int)<2)=true:=by simp;omega
     have e4:=Zu2 ZFj (l:=((l.take l.length).map Zbp).map Tree.d++List.replicate i Zdb) (m:=[Zdb]) (x:=[]) (by simp) (by simp only [List.length_append,List.length_cons,List.length_nil,List.length_replicate];omega) (by simp only [List.length_append,List.length_cons,List.length_nil,List.length_replicate];omega)
     have e5:Zu9 25 (((l.take l.length).map Zbp).map Tree.d++List.replicate (i+1) Zdb)=.sl 25 (((l.take l.length).map Zbp).map Tree.d++List.replicate i Zdb++[Zdb]) []:=by rw [List.replicate_succ',←Ke];exact (Zlz _ _ (by simp)).symm
     rw [e5]
     unfold Zdb at e4 ⊢
     unfold Zpi
     simp only [Zad,dv,Ka,Kb,Kc,Kd,Ke,Kf,Kg,if_true,Kh,Ki,brB,Zlg,e2,ZrP,e4,Ziu (show i<140737488355328 by omega)]
   · have e2:decide (((2:Nat):Int)<2)=false:=by decide
     have e5:Zu9 25 (((l.take l.length).map Zbp).map Tree.d++List.replicate 2 Zdb)=.sl 25 (((l.take l.length).map Zbp).map Tree.d++[Zdb,Zdb]) []:=(Zlz _ _ (by simp)).symm
     rw [e5]
     unfold Zpi
     simp only [Zad,dv,Ka,Kb,Kc,Kd,Kf,Kg,if_false,Kj,Kh,Ki,brB,Zlg,e2,Zbl h,Option.map_none]
     rw [Zzq _ (by simp) (by simp),List.take_length]
     rfl
theorem ZGO {i k:Nat} {w:Int} (hw:w=((k:Nat):Int)) (h:i+k<9223372036854775808):ZeI theTabs .add 3 (.v (.int .i64 (i:Int))) (.v (.int .i64 w))=some (.v (.int .i64 ((i+k:Nat):Int))):=by subst hw;exact ZAr rfl h
theorem ZCw (a b:Int):ZeI theTabs .neq 22 (.v (.int .u64 a)) (.v (.int .u64 b))=some (.v (.bool (!decide (a=b)))):=by kernel_rfl
theorem t9:∀ t:Tree,t.fits→t.num≤1000000→ML prg hand 9 ((Zbp t).cells++t.cells)=some (0,[.v (.bool true)]):=by
 apply Tree.ind
 intro k a s n p l ih hf hs
 rw [Tree.fits] at hf
 rw [Tree.num] at hs
 have hln:=ZlH l
 have h:=KG.sl (e:=25) ((l.map Zbp).map Tree.d) [Zdb,Zdb]
 have h':=Zar 25 p (l.map Tree.d)
 have e0:((l.map Zbp).length:Int)=(l.length:Int):=by rw [List.length_map]
 have es:Zax s s=true:=by rw [ZbE];simp
 rw [Zah sg9,Zgo,Tree.c]
 unfold tr9
 simp only [Zad,dv,Ka,Kb,Kc,Kd,Kf,Kg,if_false,Kj,Kh,ZhR,ZgB,Zww,brB,Zbl h,Zbl h',e0,es,ZCw,Kl,Bool.not_true]
 have key:=ZeC (f:=fun v=>Zad theTabs (ML prg hand) Zph (.v (.int .u8 k)::.v (.int .i64 a)::.v (.string s)::.v (.int .u64 n)::.sl 25 ((l.map Zbp).map Tree.d) [Zdb,Zdb]::.v (.int .u8 k)::.v (.int .i64 a)::.v (.string s)::.v (.int .u64 n)::Zav 25 p (l.map Tree.d)::.v (.bool false)::.v (.bool false)::.v (.bool false)::.v (.bool false)::.v (.int .i64 (l.length:Int))::.v (.int .i64 (l.length:Int))::.v (.bool false)::v)) (o:=.fin 0 [.v (.bool true)]) l.length (fun i=>[.v (.int .i64 (i:Int))]) (fun i hi=>?_) ?_
 · exact congrArg Zdd key
 · obtain ⟨u,hu⟩:∃ f,l[i]?=some f:=⟨_,List.getElem?_eq_getElem hi⟩
   have hmem:=List.mem_of_getElem? hu
   have i1:=ih u hmem (Za8 hf.2.2 hmem) (by have:=ZfJ hmem;omega)
   cases u with
   | mk k' a' s' n' p' m' =>
   have g2:ldD 25 (.sl 25 ((l.map Zbp).map Tree.d) [Zdb,Zdb]) i 0 [true,true,true,true,false]=some [.v (.int .u8 k'),.v (.int .i64 a'),.v (.string s'),.v (.int .u64 n'),.sl 25 ((m'.map Zbp).map Tree.d) [Zdb,Zdb]] :=
    mld h (show (l.map Zbp)[i]?=some (Zbp (.mk k' a' s' n' p' m')) by rw [List.getElem?_map,hu];rfl) (by unfold Tree.d D.cells;dsimp only;rw [Zgo];rfl) rfl
   rw [Zgo,Tree.c] at i1
   simp only [Kc,Kd] at i1
   unfold Zph
   simp only [Zad,dv,ixD,Ka,Kb,Kc,Kd,Ke,Kf,Kg,if_true,if_false,Kj,Kh,Ki,ZcM,brB,cond_true,Kk,Zbl h',ltY hi,ZbP h' hi,ZbP h (show i<(l.map Zbp).length by rw [List.length_map];exact hi),ldN h' hu,g2,i1,Bool.not_true,Ziu (show i<140737488355328 by omega)]
 · have a2:ZeI theTabs .add 3 (.v (.int .i64 (l.length:Int))) (.v (.int .i64 2))=some (.v (.int .i64 ((l.length+2:Nat):Int))):=ZGO (k:=2) rfl (by omega)
   have e1:=ZBO (e:=25) ((l.map Zbp).map Tree.d) [Zdb,Zdb] (n:=l.length+2) (by simp)
   have hk:=KG.sl (e:=25) ((l.map Zbp).map Tree.d++[Zdb,Zdb]) []
   have hkl:((l.map Zbp).map Tree.d++[Zdb,Zdb]).length=l.length+2:=by simp
   have key2:ZbJ (fun v=>Zad theTabs (ML prg hand) Zpg ([.v (.int .u8 k),.v (.int .i64 a),.v (.string s),.v (.int .u64 n),.sl 25 ((l.map Zbp).map Tree.d) [Zdb,Zdb],.v (.int .u8 k),.v (.int .i64 a),.v (.string s),.v (.int .u64 n),Zav 25 p (l.map Tree.d),.v (.bool false),.v (.bool false),.v (.bool false),.v (.bool false),.v (.int .i64 (l.length:Int)),.v (.int .i64 (l.length:Int)),.v (.bool false),.v (.int .i64 (l.length:Int)),.v (.int .i64 (l.length:Int)),.v (.bool false),.v (.int .i64 (l.length:Int)),.v (.int .i64 ((l.length+2:Nat):Int)),.sl 25 ((l.map Zbp).map Tree.d++[Zdb,Zdb]) [],.v (.int .i64 (l.length:Int))]++v)) [.v (.int .i64 (l.length:Int))]=some (.fin 0 [.v (.bool true)]):=by
    have hm:∀ i,i<2→((l.map Zbp).map Tree.d++[Zdb,Zdb])[l.length+i]?=some Zdb:=fun i hi=>by
     rw [List.getElem?_append_right (by simp)]
     match i,hi with
     | 0,_=>simp
     | 1,_=>simp
    refine ZeC (f:=_) 2 (fun i=>[.v (.int .i64 ((l.length+i:Nat):Int))]) (fun i hi=>?_) ?_
    · have b1:=ZFH hk (i:=l.length+i) (by rw [hkl];omega)
      have g1:ldD 25 (.sl 25 ((l.map Zbp).map Tree.d++[Zdb,Zdb]) []) (l.length+i) 0 [true]=some [.v (.int .u8 177)]:=ldG hk (hm i hi) rfl rfl
      have g2:ldD 25 (.sl 25 ((l.map Zbp).map Tree.d++[Zdb,Zdb]) []) (l.length+i) 4 [false]=some [.v (.slice none 0 0)]:=ldG hk (hm i hi) rfl rfl
      have z:ZcN false (.v (.slice none 0 0))=some (.v (.int .i64 0)):=rfl
      unfold Zpg
      simp only [Zad,dv,ixD,Ka,Kb,Kc,Kd,Ke,Kf,Kg,if_true,if_false,Kj,Kh,Ki,ZhR,ZgB,brB,cond_true,Kk,ZEh hk,hkl,ltY (show l.length+i<l.length+2 by omega),b1,g1,g2,z,Kl,Bool.not_true,Ziu (show l.length+i<140737488355328 by omega)]
      rfl
    · unfold Zpg
      simp only [Zad,dv,ixD,Ka,Kb,Kc,Kd,Ke,Kf,Kg,if_false,Kj,Kh,Ki,brB,Kk,ZEh hk,hkl,ltN]
   unfold Zph
   simp only [Zad,dv,ixD,Ka,Kb,Kc,Kd,Ke,Kf,Kg,if_false,Kj,Kh,Ki,brB,Kk,Zbl h',ltN,a2,Option.map_none,e1]
   simp only [Kc,Kd] at key2
   rw [key2];rfl
noncomputable def exT (hand:Zd3) (i j:Nat):List Tree→Bool
 | []=>false
 | x::r=>tv hand i x&&r.all (tv hand j)
theorem f39 {l:List Tree} (k a:Int) (s:ByteArray) (n:Int) (p:Option (List D)) (hf:(Tree.mk k a s n p l).fits) (i39:∀ t,t∈l→Ok hand 39 t) :
    ML prg hand 39 (Tree.mk k a s n p l).cells=some (0,[.v (.bool (exF k s n l.length (l.all (tv hand 39)) (exT hand 40 39 l)))]):=by
 rw [Tree.fits] at hf
 cases l with
 | nil=>exact ZGC k a s n p hf.1 hf.2.1 i39
 | cons x r=>exact ZGD k a s n p x r hf.1 hf.2.1 i39 (bTy x (Za8 hf.2.2 (by simp))).1
theorem f89 {l:List Tree} (k a:Int) (s:ByteArray) (n:Int) (p:Option (List D)) (hf:(Tree.mk k a s n p l).fits) (i39:∀ t,t∈l→Ok hand 4802 t) :
    ML prg hand 89 (Tree.mk k a s n p l).cells=some (0,[.v (.bool (exF k s n l.length (l.all (tv hand 4802)) (exT hand 4801 4802 l)))]):=by
 rw [Tree.fits] at hf
 cases l with
 | nil=>exact ZGA k a s n p hf.1 hf.2.1 i39
 | cons x r=>exact ZGB k a s n p x r hf.1 hf.2.1 i39 (bTy x (Za8 hf.2.2 (by simp))).2.1
theorem ZEB {l:List Tree} (k a:Int) (s:ByteArray) (n:Int) (p:Option (List D)) (hf:(Tree.mk k a s n p l).fits) (i39:∀ t,t∈l→Ok hand 4802 t) :
    ML prg hand 4802 (Tree.mk k a s n p l).cells=some (0,[.v (.bool (exF k s n l.length (l.all (tv hand 4802)) (exT hand 4801 4802 l)))]):=by
 have h:=f89 (hand:=hand) k a s n p hf i39
 have hlen:=Zbl (Zar 25 p (l.map Tree.d))
 rw [Tree.c] at h ⊢
 rw [Zah Zxj]
 unfold Zsg
 simp only [Zad,dv,Ka,Kb,Kc,Kd,Kf,Kg,Kh,hlen,h];rfl
theorem bEx:∀ t:Tree,t.fits→Both hand 39 4802 t:=by
 apply Tree.ind
 intro k a s n p l ih hf
 have hf':=hf
 rw [Tree.fits] at hf'
 have hb:∀ u,u∈l→Both hand 39 4802 u:=fun u hu=>ih u hu (Za8 hf'.2.2 hu)
 refine ZbO (f39 k a s n p hf fun u hu=>(hb u hu).1) (ZEB k a s n p hf fun u hu=>(hb u hu).2.1) ?_
 rw [Zc5 fun u hu=>(hb u hu).2.2]
 congr 1
 cases l with
 | nil=>rfl
 | cons x r =>
  show (tv hand 40 x&&r.all (tv hand 39))=(tv hand 4801 x&&r.all (tv hand 4802))
  rw [(bTy (hand:=hand) x (Za8 hf'.2.2 (by simp))).2.2,Zc5 fun u hu=>(hb u (List.mem_cons_of_mem _ hu)).2.2]
theorem ZFO {l:List Tree} (k a:Int) (s:ByteArray) (n:Int) (p:Option (List D)) (hf:(Tree.mk k a s n p l).fits):tv hand 39 (Tree.mk k a s n p l)=exF k s n l.length (l.all (tv hand 39)) (exT hand 40 39 l) :=
 ZqB (f39 k a s n p hf fun u hu=>(bEx u (by rw [Tree.fits] at hf;exact Za8 hf.2.2 hu)).1)
theorem Zgq {f:List D→Option Out} {v v':List D} (h:f v=some (.again v')):ZbJ f v=ZbJ f v':=by rw [ZbF,h]
theorem Zea {f:List D→Option Out} {v:List D} {o:Out} (h:f v=some (.done o)):ZbJ f v=some o:=by rw [ZbF,h]
def Tree.k:Tree→Int
 | .mk k _ _ _ _ _=>k
def chP:Tree→Bool→Bool
 | .mk k _ _ _ _ l,b=>if k=48∨k=49 then chL l b else if k=44 then true else if k=45 then b else false
where chL:List Tree→Bool→Bool
 | [],_=>false
 | x::_,b=>chP x b
theorem ZoT {k a:Int} {s:ByteArray} {n:Int} {p:Option (List D)} {l:List Tree} (hf:(Tree.mk k a s n p l).fits) (h:tv hand 39 (Tree.mk k a s n p l)=true) (hk:k=48∨k=49):∃ x r,l=x::r∧tv hand 39 x=true:=by
 rw [ZFO k a s n p hf] at h
 cases l with
 | nil=>rcases hk with rfl | rfl<;>simp [exF] at h
 | cons x r=>exact ⟨x,r,rfl,by rcases hk with rfl | rfl<;>simp [exF] at h<;>simp [h]⟩
theorem ZDw:∀ u:Tree,u.fits→tv hand 39 u=true→∀ (q:Int) (z1 z2 z3 z4 z5 z6:D),
    ZbJ (fun v=>Zad theTabs (ML prg hand) ZfB (.v (.int .u8 q)::z1::z2::z3::z4::z5::z6::v)) u.cells=some (.fin 0 [.v (.bool (chP u (!decide (q=45))))]):=by
 apply Tree.ind
 intro k a s n p l ih hf he q z1 z2 z3 z4 z5 z6
 have h:=Zar 25 p (l.map Tree.d)
 rw [Tree.c]
 by_cases hk:k=48∨k=49
 · obtain ⟨x,r,rfl,hx⟩:=ZoT hf he hk
   have hf':=hf
   rw [Tree.fits] at hf'
   have i1:=ih x (by simp) (Za8 hf'.2.2 (by simp)) hx q z1 z2 z3 z4 z5 z6
   have b0:Zcp 25 (Zav 25 p ((x::r).map Tree.d)) (.v (.int .i64 0))=true:=ZbP h (i:=0) (by simp)
   rw [chP,if_pos hk,chP.chL]
   cases x with
   | mk k0 a0 s0 n0 p0 m0 =>
   have g0:=ldN (i:=0) h rfl
   rw [Tree.c] at i1
   generalize Zav 25 p ((Tree.mk k0 a0 s0 n0 p0 m0::r).map Tree.d)=d at *
   refine (Zgq ?_).trans i1
   show Zad theTabs (ML prg hand) ZfB _=_
   unfold ZfB
   simp only [Zad,dv,ixD,Ka,Kb,Kc,Kd,Kf,Kg,Kh,ZaR,ZhR,brB,cond_true,b0,g0]
   rcases hk with rfl | rfl
   · simp only [Int.reduceEq,Kl,decide_false,Kj,if_true,if_false]
   · simp only [Int.reduceEq,Kl,decide_false,Kj,if_true,if_false]
 · have h8:¬k=48:=fun e=>hk (.inl e)
   have h9:¬k=49:=fun e=>hk (.inr e)
   rw [chP,if_neg hk]
   refine Zea ?_
   show Zad theTabs (ML prg hand) ZfB _=_
   unfold ZfB
   simp only [Zad,dv,ixD,Ka,Kb,Kc,Kd,Kf,Kg,if_false,Kj,Kh,ZaR,ZhR,brB,decide_eq_false h8,decide_eq_false h9]
   by_cases h4:k=44
   · simp only [h4,Kl,if_true];rfl
   · by_cases h5:k=45
     · subst h5;rfl
     · simp only [decide_eq_false h4,decide_eq_false h5,if_neg h4,if_neg h5];rfl
theorem ZF8:∀ u:Tree,u.fits→tv hand 39 u=true→∀ (m:Nat),m+u.num<9223372036854775808→∀ (z0 z1 z2 z3 z4 z5 z6:D),0<m →
    ZbJ (fun v=>Zad theTabs (ML prg hand) Zdr (z0::z1::z2::z3::z4::z5::z6::v)) (.v (.int .i64 (m:Int))::u.cells)=some (.fin 0 [.v (.bool (chP u true))]):=by
 apply Tree.ind
 intro k a s n p l ih hf he m hm z0 z1 z2 z3 z4 z5 z6 hp
 have h:=Zar 25 p (l.map Tree.d)
 rw [Tree.num] at hm
 rw [Tree.c]
 by_cases hk:k=48∨k=49
 · obtain ⟨x,r,rfl,hx⟩:=ZoT hf he hk
   have hf':=hf
   rw [Tree.fits] at hf'
   have hn:=ZfJ (l:=x::r) (t:=x) (by simp)
   have i1:=ih x (by simp) (Za8 hf'.2.2 (by simp)) hx (m+1) (by omega) z0 z1 z2 z3 z4 z5 z6 (by omega)
   have b0:Zcp 25 (Zav 25 p ((x::r).map Tree.d)) (.v (.int .i64 0))=true:=ZbP h (i:=0) (by simp)
   have a1:=ZAr (a:=m) (b:=1) rfl (by omega)
   rw [show ((1:Nat):Int)=1 from rfl] at a1
   rw [chP,if_pos hk,chP.chL]
   cases x with
   | mk k0 a0 s0 n0 p0 m0 =>
   have g0:=ldN (i:=0) h rfl
   rw [Tree.c] at i1
   generalize Zav 25 p ((Tree.mk k0 a0 s0 n0 p0 m0::r).map Tree.d)=d at *
   refine (Zgq ?_).trans i1
   show Zad theTabs (ML prg hand) Zdr _=_
   unfold Zdr
   simp only [Zad,dv,ixD,Ka,Kb,Kc,Kd,Kf,Kg,Kh,Ki,ZaR,brB,cond_true,b0,g0,a1]
   rcases hk with rfl | rfl
   · simp only [Int.reduceEq,Kl,decide_false,Kj,if_true,if_false]
   · simp only [Int.reduceEq,Kl,decide_false,Kj,if_true,if_false]
 · have h8:¬k=48:=fun e=>hk (.inl e)
   have h9:¬k=49:=fun e=>hk (.inr e)
   have hg:decide ((m:Int) > 0)=true:=decide_eq_true (by omega)
   rw [chP,if_neg hk]
   refine Zea ?_
   show Zad theTabs (ML prg hand) Zdr _=_
   unfold Zdr
   simp only [Zad,dv,ixD,Ka,Kb,Kc,Kd,Kf,Kg,if_false,Kj,Kh,Ki,ZaR,brB,ZrD,hg,decide_eq_false h8,decide_eq_false h9]
   by_cases h4:k=44
   · simp only [h4,Kl,if_true]
   · by_cases h5:k=45
     · subst h5;rfl
     · simp only [decide_eq_false h4,decide_eq_false h5,if_neg h4,if_neg h5];rfl
theorem ZBb {k a:Int} {s:ByteArray} {n:Int} {p:Option (List D)} {l:List Tree} (hf:(Tree.mk k a s n p l).fits) (he:tv hand 39 (Tree.mk k a s n p l)=true) (hm:(Tree.mk k a s n p l).num≤1000000) (z0 z1 z2 z3 z4 z5 z6:D) :
    ZbJ (fun v=>Zad theTabs (ML prg hand) Zdr (z0::z1::z2::z3::z4::z5::z6::v)) (.v (.int .i64 0)::(Tree.mk k a s n p l).cells)=some (.fin 0 [.v (.bool (chP (Tree.mk k a s n p l) (!decide (k=45))))]):=by
 have h:=Zar 25 p (l.map Tree.d)
 rw [Tree.num] at hm
 rw [Tree.c]
 by_cases hk:k=48∨k=49
 · obtain ⟨x,r,rfl,hx⟩:=ZoT hf he hk
   have hf':=hf
   rw [Tree.fits] at hf'
   have hn:=ZfJ (l:=x::r) (t:=x) (by simp)
   have i1:=ZF8 (hand:=hand) x (Za8 hf'.2.2 (by simp)) hx 1 (by omega) z0 z1 z2 z3 z4 z5 z6 (by omega)
   have b0:Zcp 25 (Zav 25 p ((x::r).map Tree.d)) (.v (.int .i64 0))=true:=ZbP h (i:=0) (by simp)
   have a1:=ZAr (a:=0) (b:=1) (c:=1) rfl (by omega)
   rw [show ((1:Nat):Int)=1 from rfl,show ((0:Nat):Int)=0 from rfl] at a1
   have h5:¬k=45:=by rcases hk with rfl | rfl<;>decide
   rw [chP,if_pos hk,chP.chL,decide_eq_false h5]
   cases x with
   | mk k0 a0 s0 n0 p0 m0 =>
   have g0:=ldN (i:=0) h rfl
   rw [Tree.c] at i1
   generalize Zav 25 p ((Tree.mk k0 a0 s0 n0 p0 m0::r).map Tree.d)=d at *
   refine (Zgq ?_).trans i1
   show Zad theTabs (ML prg hand) Zdr _=_
   unfold Zdr
   simp only [Zad,dv,ixD,Ka,Kb,Kc,Kd,Kf,Kg,Kh,Ki,ZaR,brB,cond_true,b0,g0,a1]
   rcases hk with rfl | rfl
   · simp only [Int.reduceEq,Kl,decide_false,Kj,if_true,if_false];rfl
   · simp only [Int.reduceEq,Kl,decide_false,Kj,if_true,if_false];rfl
 · have h8:¬k=48:=fun e=>hk (.inl e)
   have h9:¬k=49:=fun e=>hk (.inr e)
   have hg:decide ((0:Int) > 0)=false:=rfl
   rw [chP,if_neg hk]
   refine Zea ?_
   show Zad theTabs (ML prg hand) Zdr _=_
   unfold Zdr
   simp only [Zad,dv,ixD,Ka,Kb,Kc,Kd,Kf,Kg,if_false,Kj,Kh,Ki,ZaR,brB,ZrD,hg,decide_eq_false h8,decide_eq_false h9]
   by_cases h4:k=44
   · simp only [h4,Kl,if_true]
   · by_cases h5:k=45
     · subst h5;rfl
     · simp only [decide_eq_false h4,decide_eq_false h5,if_neg h4,if_neg h5];rfl
theorem ZEP:∀ t:Tree,t.fits→t.num≤1000000→Both hand 119 4819 t:=by
 intro t hf hm
 obtain ⟨e1,e2,e3⟩:=bEx (hand:=hand) t hf
 obtain ⟨k,a,s,n,p,l⟩:=t
 have c1:=e1.c
 have c2:=e2.c
 have hlen:=Zbl (Zar 25 p (l.map Tree.d))
 refine ZbO (b:=tv hand 39 (.mk k a s n p l)&&chP (.mk k a s n p l) (!decide (k=45))) (c:=tv hand 39 (.mk k a s n p l)&&chP (.mk k a s n p l) (!decide (k=45))) ?_ ?_ rfl
 · rw [Zah ZDE,Tree.c]
   unfold ZAX
   cases he:tv hand 39 (.mk k a s n p l) with
   | false=>rw [he] at c1;simp only [Zad,dv,Ka,Kb,Kc,Kd,Ke,Kf,Kg,if_true,Kh,ZcM,brB,c1,Bool.not_false];rfl
   | true =>
    have i1:=ZDw (hand:=hand) _ hf he k (.v (.int .i64 a)) (.v (.string s)) (.v (.int .u64 n)) (Zav 25 p (l.map Tree.d)) (.v (.bool true)) (.v (.bool false))
    rw [he] at c1
    rw [Tree.c] at i1
    simp only [Zad,dv,Ka,Kb,Kc,Kd,Ke,Kf,Kg,if_false,Kj,Kh,ZcM,brB,c1,Bool.not_true,i1,Bool.true_and];rfl
 · have h96:ML prg hand 96 (Tree.mk k a s n p l).cells=some (0,[.v (.bool (tv hand 39 (.mk k a s n p l)&&chP (.mk k a s n p l) (!decide (k=45))))]):=by
    rw [Zah ZFl,Tree.c]
    unfold ZDa
    rw [←e3] at c2
    cases he:tv hand 39 (.mk k a s n p l) with
    | false=>rw [he] at c2;simp only [Zad,dv,Ka,Kb,Kc,Kd,Ke,Kf,Kg,if_true,Kh,ZcM,brB,c2,Bool.not_false];rfl
    | true =>
     have i1:=ZBb (hand:=hand) hf he hm (.v (.int .u8 k)) (.v (.int .i64 a)) (.v (.string s)) (.v (.int .u64 n)) (Zav 25 p (l.map Tree.d)) (.v (.bool true)) (.v (.bool false))
     rw [he] at c2
     rw [Tree.c] at i1
     simp only [Zad,dv,Ka,Kb,Kc,Kd,Ke,Kf,Kg,if_false,Kj,Kh,ZcM,brB,c2,Bool.not_true,i1,Bool.true_and];rfl
   rw [Tree.c] at h96
   rw [Zah Zw4,Tree.c]
   unfold Zr1
   simp only [Zad,dv,Ka,Kb,Kc,Kd,Kf,Kg,Kh,hlen,h96];rfl
theorem ZDq {l:List Tree} {d:D} (h:KG 25 (l.map Tree.d) d) (hl:l.length<140737488355328) (ih:∀ t,t∈l→Ok hand 11606 t):ML prg hand 6706 [d]=some (0,[.v (.bool (l.all (tv hand 11606)))]):=by
 rw [Zah ZBi]
 unfold ZwK
 simp only [Zad,dv,Ka,Kb,Kc,Kd,Kf,Kh,Zbl h]
 refine (congrArg Zdd (Zct (tv hand 11606) l (fun i a hi ha=>?_) ?_)).trans rfl
 · have r1:=ih a (List.mem_of_getElem? ha)
   cases a with
   | mk k' a' s' n' p' m' =>
   have r2:=r1.c
   unfold Zi7
   simp only [Zad,dv,ixD,Ka,Kb,Kc,Kd,Ke,Kf,Kg,if_true,Kh,Ki,ZcM,brB,cond_true,Kk,ltY hi,ZbP h hi,ldN h ha,r2,Ziu (Nat.lt_trans hi hl)]
   exact Zq7 _ _ _
 · unfold Zi7
   simp only [Zad,dv,ixD,Ka,Kb,Kc,Kd,Ke,Kf,Kg,if_false,Kj,Kh,Ki,brB,Kk,ltN]
theorem ZEe {r:List Tree} {x:Tree} {d:D} (h:KG 25 ((r++[x]).map Tree.d) d):∃ d',Zkv 25 d none (some (.v (.int .i64 (r.length:Int))))=some d'∧KG 25 (r.map Tree.d) d':=by
 generalize hm:(r++[x]).map Tree.d=m at h
 cases h with
 | nil=>simp at hm
 | sl m y =>
  subst hm
  refine ⟨.sl 25 (r.map Tree.d) (((r++[x]).map Tree.d++y).drop r.length),?_,.sl _ _⟩
  rw [ZEf (by simp)]
  congr 1
  rw [List.map_append,Ke,List.take_append_of_le_length (by simp),List.take_of_length_le (by simp)]
theorem ZFC {l:List Tree} {d:D} {i:Nat} (h:KG 25 (l.map Tree.d) d) {k a:Int} {s:ByteArray} {n:Int} {p:Option (List D)} {m:List Tree} (ha:l[i]?=some (.mk k a s n p m)) :
    ldD 25 d i 0 [true]=some [.v (.int .u8 k)] :=
 mld h ha (by unfold Tree.d D.cells;dsimp only;rw [Tree.c];rfl) rfl
theorem ZGt {l:List Tree} {d:D} {i:Nat} (h:KG 25 (l.map Tree.d) d) {k a:Int} {s:ByteArray} {n:Int} {p:Option (List D)} {m:List Tree} (ha:l[i]?=some (.mk k a s n p m)) :
    ldD 25 d i 4 [false]=some [Zav 25 p (m.map Tree.d)] :=
 mld h ha (by unfold Tree.d D.cells;dsimp only;rw [Tree.c];rfl) rfl
theorem Zcx {P:List Tree→Prop} (l:List Tree) (h0:P []) (h1:∀ r x,P (r++[x])):P l:=by
 rcases List.eq_nil_or_concat l with rfl | ⟨r,x,rfl⟩
 · exact h0
 · rw [List.concat_eq_append];exact h1 r x
theorem ZEQ (t:Tree):Both hand 80 4815 t:=by
 obtain ⟨k,a,s,n,p,l⟩:=t
 have hlen:=Zbl (Zar 25 p (l.map Tree.d))
 refine ZbO (b:=decide (k=24)&&ZaF s&&decide (n=0)&&decide (l.length=0)) (c:=decide (k=24)&&ZaF s&&decide (n=0)&&decide (l.length=0)) ?_ ?_ rfl
 · rw [Zah ZGb,Tree.c]
   unfold ZE5
   simp only [Zad,dv,Ka,Kb,Kc,Kd,Kf,Kg,Kh,ZaR,Zau,ZdG,Zca,brB,hlen,Zaq,isE,dn0]
   cases decide (k=24)<;>cases ZaF s<;>cases decide (n=0)<;>rfl
 · rw [Zah Zw7,Tree.c]
   unfold Zr4
   simp only [Zad,dv,Ka,Kb,Kc,Kd,Kf,Kg,Kh,ZaR,Zau,ZdG,Zca,brB,hlen,Zaq,isE,dn0]
   cases decide (k=24)<;>cases ZaF s<;>cases decide (n=0)<;>rfl
theorem ZEO (t:Tree) (hf:t.fits):Both hand 11606 4813 t:=by
 obtain ⟨k,a,s,n,p,l⟩:=t
 rw [Tree.fits] at hf
 have hlen:=Zbl (Zar 25 p (l.map Tree.d))
 have h63:=t63 (hand:=hand) k a s n (Zav 25 p (l.map Tree.d)) hf.1
 have h87:=t87 (hand:=hand) s hf.1
 refine ZbO (b:=decide (k=25)&&Zbc s&&decide (n=0)&&decide (l.length=0)) (c:=decide (k=25)&&Zbc s&&decide (n=0)&&decide (l.length=0)) ?_ ?_ rfl
 · rw [Zah Zx6,Tree.c]
   unfold Zsj
   simp only [Zad,dv,Ka,Kb,Kc,Kd,Ke,Kf,Kg,Kh,ZaR,ZdG,brB,hlen,h63,dn0]
   cases decide (k=25)<;>cases Zbc s<;>cases decide (n=0)<;>rfl
 · rw [Zah Zw9,Tree.c]
   unfold Zr6
   simp only [Zad,dv,Ka,Kb,Kc,Kd,Kf,Kg,Kh,ZaR,Zau,ZdG,brB,hlen,h87,dn0]
   cases decide (k=25)<;>cases Zbc s<;>cases decide (n=0)<;>rfl
theorem ZCx (t:Tree) (hf:t.fits):Ok hand 120 t∧tv hand 120 t=(decide (t.k=44)&&tv hand 39 t):=by
 have e:=(bEx (hand:=hand) t hf).1
 obtain ⟨k,a,s,n,p,l⟩:=t
 have e':=e.c
 have:ML prg hand 120 (Tree.mk k a s n p l).cells=some (0,[.v (.bool (decide (k=44)&&tv hand 39 (Tree.mk k a s n p l)))]):=by
  rw [Zah ZDD,Tree.c]
  unfold ZAW
  simp only [Zad,dv,Ka,Kb,Kc,Kd,Kf,Kg,Kh,ZaR,brB,e']
  cases decide (k=44)<;>rfl
 exact ⟨Zwz this,ZqB this⟩
theorem ZFJ (t:Tree) (hf:t.fits):Both hand 77 4817 t:=by
 obtain ⟨k,a,s,n,p,l⟩:=t
 rw [Tree.fits] at hf
 obtain ⟨f1,f2,f3⟩:=hf
 revert f2 f3
 refine Zcx (P:=fun l=>l.length<140737488355328→Zm8 l→Both hand 77 4817 (Tree.mk k a s n p l)) l ?_ ?_
 · intro _ _
   have hlen:ZcN false (Zav 25 p [])=some (.v (.int .i64 0)):=Zbl (Zar 25 p (([]:List Tree).map Tree.d))
   have sb:ZeI theTabs .sub 3 (.v (.int .i64 0)) (.v (.int .i64 1))=some (.v (.int .i64 (-1))):=ZuZ (by decide)
   have z1:decide ((-1:Int)≥1)=false:=rfl
   have z2:decide ((0:Int)≥2)=false:=rfl
   refine ZbO (b:=false) (c:=false) ?_ ?_ rfl
   · rw [Zah ZFq,Tree.c]
     unfold ZDd
     simp only [Zad,dv,ixD,Ka,Kb,Kc,Kd,Ke,Kf,Kg,if_false,Kj,Kh,Ki,ZaR,Zau,Zca,brB,hlen,sb,ZrE,z1,Zaq,isE]
     cases decide (k=11)<;>cases ZaF s<;>cases decide (n=0)<;>rfl
   · rw [Zah ZsJ,Tree.c]
     unfold Zpk
     simp only [Zad,dv,ixD,Ka,Kb,Kc,Kd,Ke,Kf,Kg,if_false,Kj,Kh,Ki,ZaR,Zau,Zca,brB,hlen,ZrE,z2,Zaq,isE]
     cases decide (k=11)<;>cases ZaF s<;>cases decide (n=0)<;>rfl
 · intro r x f2 f3
   have h:=Zar 25 p ((r++[x]).map Tree.d)
   have f2':r.length+1<140737488355328:=by simpa using f2
   have hlen:ZcN false (Zav 25 p ((r++[x]).map Tree.d))=some (.v (.int .i64 ((r.length+1:Nat):Int))):=by rw [Zbl h];simp
   have sb:=ZAA (a:=r.length+1) (b:=1) (c:=r.length) rfl (by omega)
   rw [show ((1:Nat):Int)=1 from rfl] at sb
   have z1:decide ((r.length:Int)≥1) = !decide (r.length=0):=ZEH _
   have z2:decide (((r.length+1:Nat):Int)≥2) = !decide (r.length=0):=by rw [←decide_not];exact decide_eq_decide.2 (by omega)
   obtain ⟨d1,hd1,h1⟩:=ZEe h
   have hw:∀ u,u∈r→Both hand 11606 4813 u:=fun u hu=>ZEO u (Za8 f3 (by simp [hu]))
   have a1:=ZDq (hand:=hand) h1 (by omega) fun u hu=>(hw u hu).1
   have a2:=ZDj (hand:=hand) h1 (by omega) fun u hu=>(hw u hu).2.1
   obtain ⟨e1,e2,e3⟩:=bEx (hand:=hand) x (Za8 f3 (by simp))
   have b0:=ZbP h (i:=r.length) (by simp)
   rw [Zc5 fun u hu=>(hw u hu).2.2] at a1
   cases x with
   | mk k0 a0 s0 n0 p0 m0 =>
   have g0:=ldN (i:=r.length) h (by rw [List.getElem?_append_right (Nat.le_refl _),Nat.sub_self];rfl)
   have q1:=e1.c
   have q2:=e2.c
   rw [←e3] at q2
   generalize tv hand 39 (Tree.mk k0 a0 s0 n0 p0 m0)=q at *
   generalize r.all (tv hand 4813)=R at *
   refine ZbO (b:=decide (k=11)&&ZaF s&&decide (n=0)&&(!decide (r.length=0)&&(R&&q))) (c:=decide (k=11)&&ZaF s&&decide (n=0)&&(!decide (r.length=0)&&(R&&q))) ?_ ?_ rfl
   · rw [Zah ZFq,Tree.c]
     unfold ZDd
     simp only [Zad,dv,ixD,Ka,Kb,Kc,Kd,Ke,Kf,Kg,Kh,Ki,ZaR,Zau,Zca,brB,cond_true,Kk,hlen,sb,ZrE,z1,Zaq,isE,Option.map_none,hd1,a1,b0,g0,q1]
     cases decide (k=11)<;>cases ZaF s<;>cases decide (n=0)<;>cases decide (r.length=0)<;>cases R<;>rfl
   · rw [Zah ZsJ,Tree.c]
     unfold Zpk
     simp only [Zad,dv,ixD,Ka,Kb,Kc,Kd,Ke,Kf,Kg,Kh,Ki,ZaR,Zau,Zca,brB,cond_true,Kk,hlen,sb,ZrE,z2,Zaq,isE,Option.map_none,hd1,a2,b0,g0,q2]
     cases decide (k=11)<;>cases ZaF s<;>cases decide (n=0)<;>cases decide (r.length=0)<;>cases R<;>rfl
def ZmB (i q j:Tree→Bool) (l:List Tree):Bool:=match l.getLast? with
 | none=>false
 | some z=>match l.dropLast with
  | []=>false
  | [x]=>i x&&j z
  | r=>r.all q&&j z
theorem Zpv (i q j:Tree→Bool):ZmB i q j []=false:=rfl
theorem Zxm (i q j:Tree→Bool) (z:Tree):ZmB i q j ([]++[z])=false:=rfl
theorem Zpx (i q j:Tree→Bool) (x z:Tree):ZmB i q j ([x]++[z])=(i x&&j z):=rfl
theorem Zpw (i q j:Tree→Bool) (x y:Tree) (r:List Tree) (z:Tree):ZmB i q j ((x::y::r)++[z])=((x::y::r).all q&&j z):=by
 unfold ZmB
 rw [List.getLast?_concat,List.dropLast_concat]
def doP (j:Tree→Bool):List Tree→Bool
 | [.mk k a s n p l]=>decide (k=45)&&j (.mk k a s n p l)||decide (k=54)&&ZaF s&&decide (n=0)&&(decide (l.length=2)&&l.all j)
 | _=>false
theorem Zqd {j:Tree→Bool} {l:List Tree} (h:l.length≠1):doP j l=false:=by
 unfold doP
 split
 · exact absurd rfl h
 · rfl
theorem Zwh (j:Tree→Bool) (k a:Int) (s:ByteArray) (n:Int) (p:Option (List D)) (l:List Tree):doP j [.mk k a s n p l]=(decide (k=45)&&j (.mk k a s n p l)||decide (k=54)&&ZaF s&&decide (n=0)&&(decide (l.length=2)&&l.all j)):=rfl
def ZAC (i q j:Tree→Bool) (k:Int) (s:ByteArray) (n:Int) (l:List Tree):Bool:=ZaF s&&decide (n=0)&&(if k=12 then ZmB i q j l else if k=13 then doP j l else false)
def good (t:Tree):Prop:=t.fits∧t.num≤1000000
theorem Za0 {k a:Int} {s:ByteArray} {n:Int} {p:Option (List D)} {l:List Tree} (h:good (.mk k a s n p l)) {t:Tree} (ht:t∈l):good t:=by
 obtain ⟨h1,h2⟩:=h
 rw [Tree.fits] at h1
 rw [Tree.num] at h2
 exact ⟨Za8 h1.2.2 ht,by have:=ZfJ ht;omega⟩
theorem Zzj {r:List Tree} {x:Tree} {d:D} (h:KG 25 ((r++[x]).map Tree.d) d):ZcN false d=some (.v (.int .i64 ((r.length+1:Nat):Int))):=by rw [Zbl h];simp
theorem ZDv (r:List Tree) (h:r.length<140737488355328):ZeI theTabs .sub 3 (.v (.int .i64 ((r.length+1:Nat):Int))) (.v (.int .i64 1))=some (.v (.int .i64 (r.length:Int))):=by
 have sb:=ZAA (a:=r.length+1) (b:=1) (c:=r.length) rfl (by omega)
 rwa [show ((1:Nat):Int)=1 from rfl] at sb
set_option maxHeartbeats 1000000 in
theorem f81 (k a:Int) (s:ByteArray) (n:Int) (p:Option (List D)) (l:List Tree) (hg:good (.mk k a s n p l)) :
    ML prg hand 81 (Tree.mk k a s n p l).cells=some (0,[.v (.bool (ZAC (tv hand 119) (tv hand 120) (tv hand 39) k s n l))]):=by
 have hm:∀ t,t∈l→good t:=fun t ht=>Za0 hg ht
 have i39:∀ t,t∈l→Ok hand 39 t:=fun t ht=>(bEx t (hm t ht).1).1
 have i119:∀ t,t∈l→Ok hand 119 t:=fun t ht=>(ZEP t (hm t ht).1 (hm t ht).2).1
 have i120:∀ t,t∈l→Ok hand 120 t:=fun t ht=>(ZCx t (hm t ht).1).1
 have hl:l.length<140737488355328:=by have:=hg.1;rw [Tree.fits] at this;exact this.2.1
 rw [Zah ZGa,Tree.c]
 unfold ZAC ZAy
 by_cases h12:k=12
 · subst h12
   rw [if_pos rfl]
   have hx:∀ l:List Tree,l.length<140737488355328→(∀ t,t∈l→Ok hand 39 t)→(∀ t,t∈l→Ok hand 119 t)→(∀ t,t∈l→Ok hand 120 t) →
       Zdd (Zad theTabs (ML prg hand) ZAy [dI .u8 12,dI .i64 a,dS s,dI .u64 n,Zav 25 p (l.map Tree.d)])=some (0,[.v (.bool (ZaF s&&decide (n=0)&&ZmB (tv hand 119) (tv hand 120) (tv hand 39) l))]):=by
    intro l
    refine Zcx (P:=fun l=>l.length<140737488355328→(∀ t,t∈l→Ok hand 39 t)→(∀ t,t∈l→Ok hand 119 t)→(∀ t,t∈l→Ok hand 120 t)→Zdd (Zad theTabs (ML prg hand) ZAy [dI .u8 12,dI .i64 a,dS s,dI .u64 n,Zav 25 p (l.map Tree.d)])=some (0,[.v (.bool (ZaF s&&decide (n=0)&&ZmB (tv hand 119) (tv hand 120) (tv hand 39) l))])) l ?_ ?_
    · intro _ i1 i2 _
      have h:=Zar 25 p (([]:List Tree).map Tree.d)
      have h65:=ZA3 (hand:=hand) 12 a s n h i1 i2
      have hlen:ZcN false _=some (.v (.int .i64 0)):=Zbl h
      generalize Zav 25 p (([]:List Tree).map Tree.d)=d at *
      rw [Zf3 (by simp)] at h65
      have sb:ZeI theTabs .sub 3 (.v (.int .i64 0)) (.v (.int .i64 1))=some (.v (.int .i64 (-1))):=ZuZ (by decide)
      have z1:decide ((-1:Int)≥2)=false:=rfl
      unfold ZAy
      simp only [Zad,dv,ixD,Ka,Kb,Kc,Kd,Ke,Kf,Kg,if_true,if_false,Kj,Kh,Ki,ZaR,Zau,ZgB,Zca,ZcM,brB,hlen,h65,sb,ZrE,z1,Zaq,isE,Kl]
      rw [Zpv]
      cases ZaF s<;>cases decide (n=0)<;>rfl
    · intro r z hl i1 i2 i3
      have h:=Zar 25 p ((r++[z]).map Tree.d)
      have hrl:r.length<140737488355328:=by simp at hl;omega
      have h65:=ZA3 (hand:=hand) 12 a s n h i1 i2
      have hlen:=Zzj h
      have sb:=ZDv r hrl
      obtain ⟨d1,hd1,h1⟩:=ZEe h
      have a1:=ZDp (hand:=hand) h1 hrl fun u hu=>i3 u (by simp [hu])
      have e1:=i1 z (by simp)
      have b0:=ZbP h (i:=r.length) (by simp)
      generalize Zav 25 p ((r++[z]).map Tree.d)=d at *
      have z1:decide ((r.length:Int)≥2)=decide (2≤r.length):=decide_eq_decide.2 (by omega)
      obtain ⟨k0,a0,s0,n0,p0,m0⟩:=z
      have g0:=ldN (i:=r.length) h (by rw [List.getElem?_append_right (Nat.le_refl _),Nat.sub_self];rfl)
      have q1:=e1.c
      unfold ZAy
      simp only [Zad,dv,ixD,Ka,Kb,Kc,Kd,Ke,Kf,Kg,if_true,Kh,Ki,ZaR,Zau,ZgB,Zca,ZcM,brB,cond_true,Kk,hlen,h65,sb,ZrE,z1,Zaq,isE,Kl,Option.map_none,hd1,a1,b0,g0,q1]
      match r with
      | [] =>
       rw [Zf3 (by simp),Zxm]
       cases ZaF s<;>cases decide (n=0)<;>rfl
      | [x] =>
       rw [Zpx]
       show Zdd (if ZaF s=true then if (!decide (n=0))=true then some (.fin 0 [.v (.bool false)]) else if (tv hand 119 x&&tv hand 39 (Tree.mk k0 a0 s0 n0 p0 m0))=true then _ else _ else _)=_
       cases ZaF s<;>cases decide (n=0)<;>cases tv hand 119 x<;>cases tv hand 39 (Tree.mk k0 a0 s0 n0 p0 m0)<;>rfl
      | x::y::r =>
       rw [Zf3 (by simp),Zpw]
       have z2:decide (2≤(x::y::r).length)=true:=decide_eq_true (by simp)
       rw [z2]
       cases ZaF s<;>cases decide (n=0)<;>cases (x::y::r).all (tv hand 120)<;>rfl
   exact hx l hl i39 i119 i120
 rw [if_neg h12]
 by_cases h13:k=13
 · subst h13
   rw [if_pos rfl]
   have h:=Zar 25 p (l.map Tree.d)
   have hlen:=Zbl h
   by_cases hm1:l.length=1
   · match l,hm1,h,i39,hm with
     | [.mk k0 a0 s0 n0 p0 m0],_,h,i39,hm =>
     have b0:Zcp 25 (Zav 25 p ([Tree.mk k0 a0 s0 n0 p0 m0].map Tree.d)) (.v (.int .i64 0))=true:=ZbP h (i:=0) (by simp)
     have g0:=ldN (i:=0) h rfl
     have q0:=(i39 (.mk k0 a0 s0 n0 p0 m0) (by simp)).c
     have hl1:ZcN false (Zav 25 p ([Tree.mk k0 a0 s0 n0 p0 m0].map Tree.d))=some (.v (.int .i64 1)):=Zbl h
     have h63:=Zx0 (hand:=hand) k0 a0 s0 n0 (Zar 25 p0 (m0.map Tree.d)) fun u hu=>(bEx u (Za0 (hm (.mk k0 a0 s0 n0 p0 m0) (by simp)) hu).1).1
     rw [Zwh]
     generalize Zav 25 p ([Tree.mk k0 a0 s0 n0 p0 m0].map Tree.d)=d at *
     simp only [Zad,dv,ixD,Ka,Kb,Kc,Kd,Ke,Kf,Kg,if_true,if_false,Kj,Kh,Ki,ZaR,Zau,ZgB,Zca,ZcM,brB,cond_true,hl1,b0,g0,q0,h63,Zaq,isE,Int.reduceEq,Kl,decide_false,Bool.not_true]
     generalize tv hand 39 (Tree.mk k0 a0 s0 n0 p0 m0)=q
     generalize (decide (m0.length=2)&&m0.all (tv hand 39))=w
     by_cases h45:k0=45
     · subst h45
       simp only [Int.reduceEq,Kl,decide_false,Kj,if_true,if_false]
       cases ZaF s<;>cases decide (n=0)<;>cases q<;>rfl
     · simp only [decide_eq_false h45,Kj,if_false]
       cases ZaF s<;>cases decide (n=0)<;>cases decide (k0=54)<;>cases ZaF s0<;>cases decide (n0=0)<;>cases w<;>rfl
   · rw [Zqd hm1]
     have c1:decide ((l.length:Int)=1)=false:=decide_eq_false (by omega)
     simp only [Zad,dv,ixD,Ka,Kb,Kc,Kd,Ke,Kf,Kg,if_true,if_false,Kj,Kh,Ki,ZaR,Zau,ZgB,Zca,ZcM,brB,hlen,c1,Zaq,isE,Int.reduceEq,Kl,decide_false,Bool.not_false]
     cases ZaF s<;>cases decide (n=0)<;>rfl
 · rw [if_neg h13]
   simp only [Zad,dv,ixD,Ka,Kb,Kc,Kd,Ke,Kf,Kg,if_false,Kj,Kh,Ki,ZaR,Zau,Zca,ZcM,brB,Zaq,isE,decide_eq_false h12,decide_eq_false h13]
   cases ZaF s<;>cases decide (n=0)<;>rfl
set_option maxHeartbeats 1000000 in
theorem ZEz (k a:Int) (s:ByteArray) (n:Int) (p:Option (List D)) (l:List Tree) (hg:good (.mk k a s n p l)) :
    ML prg hand 4818 (Tree.mk k a s n p l).cells=some (0,[.v (.bool (decide (k=13)&&ZaF s&&decide (n=0)&&doP (tv hand 4802) l))]):=by
 have hm:∀ t,t∈l→good t:=fun t ht=>Za0 hg ht
 have i48:∀ t,t∈l→Ok hand 4802 t:=fun t ht=>(bEx t (hm t ht).1).2.1
 have h:=Zar 25 p (l.map Tree.d)
 have hlen:=Zbl h
 rw [Zah Zw5,Tree.c]
 unfold Zr2
 by_cases hm1:l.length=1
 · match l,hm1,h,i48,hm with
   | [.mk k0 a0 s0 n0 p0 m0],_,h,i48,hm =>
   have b0:Zcp 25 (Zav 25 p ([Tree.mk k0 a0 s0 n0 p0 m0].map Tree.d)) (.v (.int .i64 0))=true:=ZbP h (i:=0) (by simp)
   have g0:=ldN (i:=0) h rfl
   have g1:=ZFC (i:=0) h rfl
   have g4:=ZGt (i:=0) h rfl
   have q0:=(i48 (.mk k0 a0 s0 n0 p0 m0) (by simp)).c
   have hl1:ZcN false (Zav 25 p ([Tree.mk k0 a0 s0 n0 p0 m0].map Tree.d))=some (.v (.int .i64 1)):=Zbl h
   have hg0:=hm _ (List.mem_singleton.2 rfl)
   have hk0:=Zar 25 p0 (m0.map Tree.d)
   have hlk:=Zbl hk0
   have h91:=Zst (hand:=hand) hk0 (by have:=hg0.1;rw [Tree.fits] at this;exact this.2.1) fun u hu=>(bEx u (Za0 hg0 hu).1).2.1
   rw [Zwh]
   generalize Zav 25 p ([Tree.mk k0 a0 s0 n0 p0 m0].map Tree.d)=d at *
   simp only [Zad,dv,ixD,Ka,Kb,Kc,Kd,Ke,Kf,Kg,if_true,Kh,ZaR,Zau,ZdG,Zca,brB,cond_true,hl1,b0,g0,g1,g4,q0,h91,hlk,Zaq,isE,dn2,Kl]
   generalize tv hand 4802 (Tree.mk k0 a0 s0 n0 p0 m0)=q
   generalize m0.all (tv hand 4802)=w
   by_cases h45:k0=45
   · subst h45
     simp only [Int.reduceEq,Kl,decide_false,Kj,if_true,if_false]
     cases decide (k=13)<;>cases ZaF s<;>cases decide (n=0)<;>cases q<;>rfl
   · simp only [decide_eq_false h45,Kj,if_false]
     cases decide (k=13)<;>cases ZaF s<;>cases decide (n=0)<;>cases decide (k0=54)<;>cases ZaF s0<;>cases decide (n0=0)<;>cases decide (m0.length=2)<;>cases w<;>rfl
 · rw [Zqd hm1]
   have c1:decide ((l.length:Int)=1)=false:=decide_eq_false (by omega)
   simp only [Zad,dv,ixD,Ka,Kb,Kc,Kd,Ke,Kf,Kg,if_false,Kj,Kh,ZaR,Zau,ZdG,Zca,brB,hlen,c1,Zaq,isE]
   cases decide (k=13)<;>cases ZaF s<;>cases decide (n=0)<;>rfl
set_option maxHeartbeats 1000000 in
theorem f95 (k a:Int) (s:ByteArray) (n:Int) (p:Option (List D)) (l:List Tree) (hg:good (.mk k a s n p l)) :
    ML prg hand 95 (Tree.mk k a s n p l).cells=some (0,[.v (.bool (decide (k=12)&&ZaF s&&decide (n=0)&&ZmB (tv hand 4819) (fun u=>decide (u.k=44)&&tv hand 4802 u) (tv hand 4802) l))]):=by
 have hm:∀ t,t∈l→good t:=fun t ht=>Za0 hg ht
 have i48:∀ t,t∈l→Ok hand 4802 t:=fun t ht=>(bEx t (hm t ht).1).2.1
 have i19:∀ t,t∈l→Ok hand 4819 t:=fun t ht=>(ZEP t (hm t ht).1 (hm t ht).2).2.1
 have hl:l.length<140737488355328:=by have:=hg.1;rw [Tree.fits] at this;exact this.2.1
 rw [Zah ZFm,Tree.c]
 clear hg hm
 revert hl i48 i19
 refine Zcx (P:=fun l=>(∀ t,t∈l→Ok hand 4802 t)→(∀ t,t∈l→Ok hand 4819 t)→l.length<140737488355328→Zdd (Zad theTabs (ML prg hand) ZxS [dI .u8 k,dI .i64 a,dS s,dI .u64 n,Zav 25 p (l.map Tree.d)])=some (0,[.v (.bool (decide (k=12)&&ZaF s&&decide (n=0)&&ZmB (tv hand 4819) (fun u=>decide (u.k=44)&&tv hand 4802 u) (tv hand 4802) l))])) l ?_ ?_
 · intro _ _ _
   have h:=Zar 25 p (([]:List Tree).map Tree.d)
   have hlen:ZcN false _=some (.v (.int .i64 0)):=Zbl h
   generalize Zav 25 p (([]:List Tree).map Tree.d)=d at *
   have z1:decide ((0:Int)<2)=true:=rfl
   unfold ZxS
   simp only [Zad,dv,ixD,Ka,Kb,Kc,Kd,Ke,Kf,Kg,if_true,Kh,ZhR,Zau,ZdG,Zca,ZcM,brB,hlen,Zlg,z1,Zaq,isE]
   rw [Zpv]
   cases decide (k=12)<;>cases ZaF s<;>cases decide (n=0)<;>rfl
 · intro r z i1 i2 hl
   have h:=Zar 25 p ((r++[z]).map Tree.d)
   have hrl:r.length<140737488355328:=by simp at hl;omega
   have hlen:=Zzj h
   have sb:=ZDv r hrl
   have e1:=i1 z (by simp)
   have b0:=ZbP h (i:=r.length) (by simp)
   obtain ⟨k0,a0,s0,n0,p0,m0⟩:=z
   have g0:=ldN (i:=r.length) h (by rw [List.getElem?_append_right (Nat.le_refl _),Nat.sub_self];rfl)
   have q1:=e1.c
   have z1:decide (((r.length+1:Nat):Int)<2)=decide (r.length=0):=decide_eq_decide.2 (by omega)
   have z2:decide (((r.length+1:Nat):Int)=2)=decide (r.length=1):=decide_eq_decide.2 (by omega)
   generalize hd:Zav 25 p ((r++[Tree.mk k0 a0 s0 n0 p0 m0]).map Tree.d)=d at *
   have key:∀ z6 z7 z8 z9 z10 z11 z12 z13 z14 z15 z16 z17 z18 z19:D,ZbJ (fun v=>Zad theTabs (ML prg hand) Zln (.v (.int .u8 k)::.v (.int .i64 a)::.v (.string s)::.v (.int .u64 n)::d::.v (.int .i64 ((r.length+1:Nat):Int))::z6::z7::z8::z9::z10::z11::z12::z13::z14::z15::z16::z17::z18::z19::v)) [.v (.int .i64 0)]=some (.fin 0 [.v (.bool (r.all fun u=>decide (u.k=44)&&tv hand 4802 u))]):=by
    intro z6 z7 z8 z9 z10 z11 z12 z13 z14 z15 z16 z17 z18 z19
    refine Zct (fun u=>decide (u.k=44)&&tv hand 4802 u) r (fun i u hi hu=>?_) ?_
    · have hu':(r++[Tree.mk k0 a0 s0 n0 p0 m0])[i]?=some u:=by rw [List.getElem?_append_left hi];exact hu
      have r1:=i1 u (List.mem_of_getElem? hu')
      cases u with
      | mk k' a' s' n' p' m' =>
      have r2:=r1.c
      unfold Zln
      simp only [Zad,dv,ixD,Ka,Kb,Kc,Kd,Ke,Kf,Kg,if_true,Kh,Ki,ZhR,ZcM,brB,cond_true,Kk,sb,ltY hi,ZbP h (show i<(r++[Tree.mk k0 a0 s0 n0 p0 m0]).length by simp;omega),ldN h hu',ZFC h hu',r2,Ziu (Nat.lt_trans hi hrl)]
      show _=if (decide (k'=44)&&tv hand 4802 (Tree.mk k' a' s' n' p' m'))=true then _ else _
      cases decide (k'=44)<;>cases tv hand 4802 (Tree.mk k' a' s' n' p' m')<;>rfl
    · unfold Zln
      simp only [Zad,dv,ixD,Ka,Kb,Kc,Kd,Ke,Kf,Kg,if_false,Kj,Kh,Ki,brB,Kk,sb,ltN]
   have first:∀ x:Tree,r=[x]→∃ kx ax sx nx px mx,x=.mk kx ax sx nx px mx:=fun x _=>by cases x;exact ⟨_,_,_,_,_,_,rfl⟩
   match r,hrl,h,key,hd,b0,g0,sb,hlen,z1,z2,i2 with
   | [],hrl,h,key,hd,b0,g0,sb,hlen,z1,z2,i2 =>
    rw [Zxm]
    have y1:decide (([]:List Tree).length=0)=true:=rfl
    unfold ZxS
    simp only [Zad,dv,ixD,Ka,Kb,Kc,Kd,Ke,Kf,Kg,if_true,Kh,ZhR,Zau,ZdG,Zca,ZcM,brB,cond_true,Kk,hlen,sb,Zlg,z1,Zaq,isE,b0,g0,q1,y1]
    cases decide (k=12)<;>cases ZaF s<;>cases decide (n=0)<;>rfl
   | [.mk kx ax sx nx px mx],hrl,h,key,hd,b0,g0,sb,hlen,z1,z2,i2 =>
    have bx:Zcp 25 d (.v (.int .i64 0))=true:=ZbP h (i:=0) (by simp)
    have gx:=ldN (i:=0) h rfl
    have qx:=(i2 (.mk kx ax sx nx px mx) (by simp)).c
    rw [Zpx]
    have y1:decide (([Tree.mk kx ax sx nx px mx].length:Nat)=0)=false:=rfl
    have y2:decide (([Tree.mk kx ax sx nx px mx].length:Nat)=1)=true:=rfl
    unfold ZxS
    simp only [Zad,dv,ixD,Ka,Kb,Kc,Kd,Ke,Kf,Kg,if_true,if_false,Kj,Kh,ZhR,Zau,ZdG,Zca,ZcM,brB,cond_true,Kk,hlen,sb,Zlg,z1,z2,y1,y2,Zaq,isE,b0,g0,q1,bx,gx,qx]
    cases decide (k=12)<;>cases ZaF s<;>cases decide (n=0)<;>cases tv hand 4802 (Tree.mk k0 a0 s0 n0 p0 m0)<;>cases tv hand 4819 (Tree.mk kx ax sx nx px mx)<;>rfl
   | x::y::r,hrl,h,key,hd,b0,g0,sb,hlen,z1,z2,i2 =>
    rw [Zpw]
    have y1:decide (((x::y::r).length:Nat)=0)=false:=rfl
    have y2:decide (((x::y::r).length:Nat)=1)=false:=decide_eq_false (by simp)
    unfold ZxS
    simp only [Zad,dv,ixD,Ka,Kb,Kc,Kd,Ke,Kf,Kg,if_false,Kj,Kh,ZhR,Zau,ZdG,Zca,ZcM,brB,cond_true,Kk,hlen,sb,Zlg,z1,z2,y1,y2,Zaq,isE,b0,g0,q1,key]
    generalize (x::y::r).all (fun u=>decide (u.k=44)&&tv hand 4802 u)=R
    cases decide (k=12)<;>cases ZaF s<;>cases decide (n=0)<;>cases tv hand 4802 (Tree.mk k0 a0 s0 n0 p0 m0)<;>cases R<;>rfl
theorem ZqK {i q j i' q' j':Tree→Bool} {l:List Tree} (h1:∀ t,t∈l→i t=i' t) (h2:∀ t,t∈l→q t=q' t) (h3:∀ t,t∈l→j t=j' t):ZmB i q j l=ZmB i' q' j' l:=by
 revert h1 h2 h3
 refine Zcx (P:=fun l=>(∀ t,t∈l→i t=i' t)→(∀ t,t∈l→q t=q' t)→(∀ t,t∈l→j t=j' t)→ZmB i q j l=ZmB i' q' j' l) l (fun _ _ _=>rfl) fun r z h1 h2 h3=>?_
 match r,h1,h2,h3 with
 | [],_,_,_=>rfl
 | [x],h1,h2,h3=>rw [Zpx,Zpx,h1 x (by simp),h3 z (by simp)]
 | x::y::r,h1,h2,h3=>rw [Zpw,Zpw,h3 z (by simp),Zc5 fun u hu=>h2 u (List.mem_append_left _ hu)]
theorem ZuB {j j':Tree→Bool} {l:List Tree} (h3:∀ t,t∈l→j t=j' t) (h4:∀ t,t∈l→∀ k a s n p m,t=.mk k a s n p m→∀ u,u∈m→j u=j' u):doP j l=doP j' l:=by
 by_cases h:l.length=1
 · match l,h,h3,h4 with
   | [.mk k a s n p m],_,h3,h4=>rw [Zwh,Zwh,h3 _ (by simp),Zc5 (h4 _ (by simp) k a s n p m rfl)]
 · rw [Zqd h,Zqd h]
theorem Zpd (t:Tree) (hg:good t):Both hand 81 4816 t:=by
 obtain ⟨k,a,s,n,p,l⟩:=t
 have h1:=f81 (hand:=hand) k a s n p l hg
 have h2:=ZEz (hand:=hand) k a s n p l hg
 have h3:=f95 (hand:=hand) k a s n p l hg
 have hm:∀ t,t∈l→good t:=fun t ht=>Za0 hg ht
 have hlen:=Zbl (Zar 25 p (l.map Tree.d))
 have es:ZmB (tv hand 4819) (fun u=>decide (u.k=44)&&tv hand 4802 u) (tv hand 4802) l=ZmB (tv hand 119) (tv hand 120) (tv hand 39) l :=
  ZqK (fun t ht=>(ZEP t (hm t ht).1 (hm t ht).2).2.2.symm) (fun t ht=>by rw [(ZCx (hand:=hand) t (hm t ht).1).2,(bEx (hand:=hand) t (hm t ht).1).2.2]) fun t ht=>(bEx t (hm t ht).1).2.2.symm
 have ed:doP (tv hand 4802) l=doP (tv hand 39) l:=ZuB (fun t ht=>(bEx t (hm t ht).1).2.2.symm) fun t ht k a s n p m e u hu=>(bEx u (Za0 (k:=k) (a:=a) (s:=s) (n:=n) (p:=p) (e▸hm t ht) hu).1).2.2.symm
 rw [ed] at h2
 rw [es] at h3
 refine ZbO h1 (c:=ZAC (tv hand 119) (tv hand 120) (tv hand 39) k s n l) ?_ rfl
 rw [Tree.c] at h2 h3
 rw [Zah Zw6,Tree.c]
 unfold Zr3
 simp only [Zad,dv,Ka,Kb,Kc,Kd,Kf,Kg,Kh,brB,hlen,h2,h3]
 unfold ZAC
 generalize ZmB (tv hand 119) (tv hand 120) (tv hand 39) l=A
 generalize doP (tv hand 39) l=B
 by_cases h12:k=12
 · subst h12
   simp only [Int.reduceEq,Kl,decide_false,Bool.false_and,Bool.true_and,Kj,if_true,if_false]
   rfl
 · simp only [decide_eq_false h12,Bool.false_and,if_neg h12]
   by_cases h13:k=13
   · subst h13
     cases ZaF s<;>cases decide (n=0)<;>cases B<;>rfl
   · simp only [decide_eq_false h13,Bool.false_and,if_neg h13]
     cases ZaF s<;>cases decide (n=0)<;>rfl
theorem Both.c1 {i j:Nat} {k a:Int} {s:ByteArray} {n:Int} {p:Option (List D)} {l:List Tree} (h:Both hand i j (.mk k a s n p l)) :
    ML prg hand i [.v (.int .u8 k),.v (.int .i64 a),.v (.string s),.v (.int .u64 n),Zav 25 p (l.map Tree.d)]=some (0,[.v (.bool (tv hand i (.mk k a s n p l)))]):=h.1.c
theorem Both.c2 {i j:Nat} {k a:Int} {s:ByteArray} {n:Int} {p:Option (List D)} {l:List Tree} (h:Both hand i j (.mk k a s n p l)) :
    ML prg hand j [.v (.int .u8 k),.v (.int .i64 a),.v (.string s),.v (.int .u64 n),Zav 25 p (l.map Tree.d)]=some (0,[.v (.bool (tv hand i (.mk k a s n p l)))]):=by rw [h.2.2];exact h.2.1.c
theorem Zhl {i j:Nat} {l:List Tree} (h:∀ t,t∈l→Both hand i j t):l.all (tv hand j)=l.all (tv hand i):=Zc5 fun u hu=>(h u hu).2.2.symm
theorem ZC2 (t:Tree):Both hand 74 4809 t:=by
 obtain ⟨k,a,s,n,p,l⟩:=t
 exact ZbO (by rw [Tree.c];exact t74 k a s n p l) (by rw [Tree.c];exact Zx1 k a s n p l) rfl
theorem Zb1 {k a:Int} {s:ByteArray} {n:Int} {p:Option (List D)} {l:List Tree} (h:good (.mk k a s n p l)):l.length<140737488355328:=by have:=h.1;rw [Tree.fits] at this;exact this.2.1
theorem ZcO {k a:Int} {s:ByteArray} {n:Int} {p:Option (List D)} {l:List Tree} (h:good (.mk k a s n p l)):s.data.toList.length<9223372036854775808:=by have:=h.1;rw [Tree.fits] at this;exact this.1
theorem ZGM {k a:Int} {s:ByteArray} {n:Int} {p:Option (List D)} {l:List Tree} (hg:good (.mk k a s n p l)) (ih:∀ u,u∈l→Both hand 41 4803 u):Both hand 72 4804 (.mk k a s n p l):=by
 have h:=Zar 25 p (l.map Tree.d)
 have hlen:=Zbl h
 have h1:=ZDn h (Zb1 hg) fun u hu=>(ih u hu).1
 have h2:=ZDl h (Zb1 hg) fun u hu=>(ih u hu).2.1
 rw [Zhl ih] at h2
 refine ZbO (b:=decide (k=10)&&ZaF s&&decide (n=0)&&l.all (tv hand 41)) (c:=decide (k=10)&&ZaF s&&decide (n=0)&&l.all (tv hand 41)) ?_ ?_ rfl
 · rw [Zah ZGg,Tree.c]
   unfold ZFa
   simp only [Zad,dv,Ka,Kb,Kc,Kd,Kf,Kg,Kh,ZaR,Zau,Zca,brB,h1,Zaq,isE]
   cases decide (k=10)<;>cases ZaF s<;>cases decide (n=0)<;>rfl
 · rw [Zah Zxh,Tree.c]
   unfold Zse
   simp only [Zad,dv,Ka,Kb,Kc,Kd,Kf,Kg,Kh,ZaR,Zau,Zca,brB,hlen,h2,Zaq,isE]
   cases decide (k=10)<;>cases ZaF s<;>cases decide (n=0)<;>rfl
def ifP (e b i:Tree→Bool):List Tree→Bool
 | [x,y]=>e x&&b y
 | [x,y,z]=>e x&&b y&&(b z||i z)
 | _=>false
theorem ZB4 (e b i:Tree→Bool) (x y:Tree):ifP e b i [x,y]=(e x&&b y):=rfl
theorem ZB3 (e b i:Tree→Bool) (x y z:Tree):ifP e b i [x,y,z]=(e x&&b y&&(b z||i z)):=rfl
theorem bIf {k a:Int} {s:ByteArray} {n:Int} {p:Option (List D)} {l:List Tree} (hg:good (.mk k a s n p l)) (i72:∀ u,u∈l→Both hand 72 4804 u) (i78:∀ u,u∈l→Both hand 78 4814 u):Both hand 78 4814 (.mk k a s n p l):=by
 have i39:∀ u,u∈l→Both hand 39 4802 u:=fun u hu=>bEx u (Za0 hg hu).1
 have h:=Zar 25 p (l.map Tree.d)
 have h65:=ZA2 k a s n h (fun u hu=>(i39 u hu).1) fun u hu=>(i72 u hu).1
 have hlen:=Zbl h
 refine ZbO (b:=decide (k=14)&&ZaF s&&decide (n=0)&&ifP (tv hand 39) (tv hand 72) (tv hand 78) l) (c:=decide (k=14)&&ZaF s&&decide (n=0)&&ifP (tv hand 39) (tv hand 72) (tv hand 78) l) ?_ ?_ rfl
 · rw [Zah ZGd,Tree.c]
   unfold ZE7
   by_cases h2:l.length=2
   · match l,h2,h,i39,i72,i78,hlen,h65 with
     | [x,y],_,h,i39,i72,i78,hlen,h65 =>
     have hl:ZcN false (Zav 25 p ([x,y].map Tree.d))=some (.v (.int .i64 2)):=hlen
     rw [ZsI] at h65
     rw [ZB4]
     generalize Zav 25 p ([x,y].map Tree.d)=d at *
     have b0:Zcp 25 d (.v (.int .i64 0))=true:=ZbP h (i:=0) (by simp)
     have w0_39:=i39 x (by simp)
     have b1:Zcp 25 d (.v (.int .i64 1))=true:=ZbP h (i:=1) (by simp)
     have w1_72:=i72 y (by simp)
     obtain ⟨k0,a0,s0,n0,p0,m0⟩:=x
     have g0:=ldN (i:=0) h rfl
     have u0_39:=w0_39.c1
     have v0_39:=w0_39.c2
     generalize tv hand 39 (Tree.mk k0 a0 s0 n0 p0 m0)=c0_39 at *
     obtain ⟨k1,a1,s1,n1,p1,m1⟩:=y
     have g1:=ldN (i:=1) h rfl
     have u1_72:=w1_72.c1
     have v1_72:=w1_72.c2
     generalize tv hand 72 (Tree.mk k1 a1 s1 n1 p1 m1)=c1_72 at *
     have e3:decide ((2:Int)=3)=false:=rfl
     simp only [Zad,dv,ixD,Ka,Kb,Kc,Kd,Ke,Kf,Kg,if_true,Kh,ZaR,Zau,ZgB,Zca,brB,hl,h65,e3,Bool.not_false,Zaq,isE]
     cases decide (k=14)<;>cases ZaF s<;>cases decide (n=0)<;>cases c0_39<;>cases c1_72<;>rfl
   · by_cases h3:l.length=3
     · match l,h3,h,i39,i72,i78,hlen,h65 with
       | [x,y,z],_,h,i39,i72,i78,hlen,h65 =>
       have hl:ZcN false (Zav 25 p ([x,y,z].map Tree.d))=some (.v (.int .i64 3)):=hlen
       rw [Zf3 (by simp)] at h65
       rw [ZB3]
       generalize Zav 25 p ([x,y,z].map Tree.d)=d at *
       have b0:Zcp 25 d (.v (.int .i64 0))=true:=ZbP h (i:=0) (by simp)
       have w0_39:=i39 x (by simp)
       have b1:Zcp 25 d (.v (.int .i64 1))=true:=ZbP h (i:=1) (by simp)
       have w1_72:=i72 y (by simp)
       have b2:Zcp 25 d (.v (.int .i64 2))=true:=ZbP h (i:=2) (by simp)
       have w2_72:=i72 z (by simp)
       have w2_78:=i78 z (by simp)
       obtain ⟨k0,a0,s0,n0,p0,m0⟩:=x
       have g0:=ldN (i:=0) h rfl
       have u0_39:=w0_39.c1
       have v0_39:=w0_39.c2
       generalize tv hand 39 (Tree.mk k0 a0 s0 n0 p0 m0)=c0_39 at *
       obtain ⟨k1,a1,s1,n1,p1,m1⟩:=y
       have g1:=ldN (i:=1) h rfl
       have u1_72:=w1_72.c1
       have v1_72:=w1_72.c2
       generalize tv hand 72 (Tree.mk k1 a1 s1 n1 p1 m1)=c1_72 at *
       obtain ⟨k2,a2,s2,n2,p2,m2⟩:=z
       have g2:=ldN (i:=2) h rfl
       have u2_72:=w2_72.c1
       have v2_72:=w2_72.c2
       have u2_78:=w2_78.c1
       have v2_78:=w2_78.c2
       generalize tv hand 72 (Tree.mk k2 a2 s2 n2 p2 m2)=c2_72 at *
       generalize tv hand 78 (Tree.mk k2 a2 s2 n2 p2 m2)=c2_78 at *
       have e3:decide ((3:Int)=3)=true:=rfl
       simp only [Zad,dv,ixD,Ka,Kb,Kc,Kd,Ke,Kf,Kg,if_false,Kj,Kh,ZaR,Zau,ZgB,Zca,ZcM,brB,cond_true,hl,h65,Zaq,isE,b0,g0,u0_39,b1,g1,u1_72,b2,g2,u2_72,u2_78]
       cases decide (k=14)<;>cases ZaF s<;>cases decide (n=0)<;>cases c0_39<;>cases c1_72<;>cases c2_72<;>cases c2_78<;>rfl
     · have e0:ifP (tv hand 39) (tv hand 72) (tv hand 78) l=false:=by
        unfold ifP
        split
        · exact absurd rfl h2
        · exact absurd rfl h3
        · rfl
       have e2:decide ((l.length:Int)=2)=false:=decide_eq_false (by omega)
       have e3:decide ((l.length:Int)=3)=false:=decide_eq_false (by omega)
       rw [Zf3 h2] at h65
       rw [e0]
       simp only [Zad,dv,ixD,Ka,Kb,Kc,Kd,Ke,Kf,Kg,if_true,if_false,Kj,Kh,ZaR,Zau,ZgB,Zca,brB,hlen,h65,e3,Bool.not_false,Zaq,isE]
       cases decide (k=14)<;>cases ZaF s<;>cases decide (n=0)<;>rfl
 · rw [Zah Zw8,Tree.c]
   unfold Zr5
   by_cases h2:l.length=2
   · match l,h2,h,i39,i72,i78,hlen,h65 with
     | [x,y],_,h,i39,i72,i78,hlen,h65 =>
     have hl:ZcN false (Zav 25 p ([x,y].map Tree.d))=some (.v (.int .i64 2)):=hlen
     rw [ZsI] at h65
     rw [ZB4]
     generalize Zav 25 p ([x,y].map Tree.d)=d at *
     have b0:Zcp 25 d (.v (.int .i64 0))=true:=ZbP h (i:=0) (by simp)
     have w0_39:=i39 x (by simp)
     have b1:Zcp 25 d (.v (.int .i64 1))=true:=ZbP h (i:=1) (by simp)
     have w1_72:=i72 y (by simp)
     obtain ⟨k0,a0,s0,n0,p0,m0⟩:=x
     have g0:=ldN (i:=0) h rfl
     have u0_39:=w0_39.c1
     have v0_39:=w0_39.c2
     generalize tv hand 39 (Tree.mk k0 a0 s0 n0 p0 m0)=c0_39 at *
     obtain ⟨k1,a1,s1,n1,p1,m1⟩:=y
     have g1:=ldN (i:=1) h rfl
     have u1_72:=w1_72.c1
     have v1_72:=w1_72.c2
     generalize tv hand 72 (Tree.mk k1 a1 s1 n1 p1 m1)=c1_72 at *
     have e2:decide ((2:Int)=2)=true:=rfl
     simp only [Zad,dv,ixD,Ka,Kb,Kc,Kd,Ke,Kf,Kg,Kh,ZaR,Zau,ZdG,Zca,brB,cond_true,hl,b0,g0,v0_39,b1,g1,v1_72,Zaq,isE]
     cases decide (k=14)<;>cases ZaF s<;>cases decide (n=0)<;>cases c0_39<;>cases c1_72<;>rfl
   · by_cases h3:l.length=3
     · match l,h3,h,i39,i72,i78,hlen,h65 with
       | [x,y,z],_,h,i39,i72,i78,hlen,h65 =>
       have hl:ZcN false (Zav 25 p ([x,y,z].map Tree.d))=some (.v (.int .i64 3)):=hlen
       rw [Zf3 (by simp)] at h65
       rw [ZB3]
       generalize Zav 25 p ([x,y,z].map Tree.d)=d at *
       have b0:Zcp 25 d (.v (.int .i64 0))=true:=ZbP h (i:=0) (by simp)
       have w0_39:=i39 x (by simp)
       have b1:Zcp 25 d (.v (.int .i64 1))=true:=ZbP h (i:=1) (by simp)
       have w1_72:=i72 y (by simp)
       have b2:Zcp 25 d (.v (.int .i64 2))=true:=ZbP h (i:=2) (by simp)
       have w2_72:=i72 z (by simp)
       have w2_78:=i78 z (by simp)
       obtain ⟨k0,a0,s0,n0,p0,m0⟩:=x
       have g0:=ldN (i:=0) h rfl
       have u0_39:=w0_39.c1
       have v0_39:=w0_39.c2
       generalize tv hand 39 (Tree.mk k0 a0 s0 n0 p0 m0)=c0_39 at *
       obtain ⟨k1,a1,s1,n1,p1,m1⟩:=y
       have g1:=ldN (i:=1) h rfl
       have u1_72:=w1_72.c1
       have v1_72:=w1_72.c2
       generalize tv hand 72 (Tree.mk k1 a1 s1 n1 p1 m1)=c1_72 at *
       obtain ⟨k2,a2,s2,n2,p2,m2⟩:=z
       have g2:=ldN (i:=2) h rfl
       have u2_72:=w2_72.c1
       have v2_72:=w2_72.c2
       have u2_78:=w2_78.c1
       have v2_78:=w2_78.c2
       generalize tv hand 72 (Tree.mk k2 a2 s2 n2 p2 m2)=c2_72 at *
       generalize tv hand 78 (Tree.mk k2 a2 s2 n2 p2 m2)=c2_78 at *
       have e2:decide ((3:Int)=2)=false:=rfl
       have e3:decide ((3:Int)=3)=true:=rfl
       simp only [Zad,dv,ixD,Ka,Kb,Kc,Kd,Ke,Kf,Kg,if_false,Kj,Kh,ZaR,Zau,ZdG,Zca,brB,cond_true,hl,e2,b0,g0,v0_39,b1,g1,v1_72,b2,g2,v2_72,v2_78,Zaq,isE]
       cases decide (k=14)<;>cases ZaF s<;>cases decide (n=0)<;>cases c0_39<;>cases c1_72<;>cases c2_72<;>cases c2_78<;>rfl
     · have e0:ifP (tv hand 39) (tv hand 72) (tv hand 78) l=false:=by
        unfold ifP
        split
        · exact absurd rfl h2
        · exact absurd rfl h3
        · rfl
       have e2:decide ((l.length:Int)=2)=false:=decide_eq_false (by omega)
       have e3:decide ((l.length:Int)=3)=false:=decide_eq_false (by omega)
       rw [Zf3 h2] at h65
       rw [e0]
       simp only [Zad,dv,ixD,Ka,Kb,Kc,Kd,Ke,Kf,Kg,if_false,Kj,Kh,ZaR,Zau,ZdG,Zca,brB,hlen,e2,e3,Zaq,isE]
       cases decide (k=14)<;>cases ZaF s<;>cases decide (n=0)<;>rfl
noncomputable def cP (hand:Zd3):Tree→Bool
 | .mk k a s n p l=>tv hand 74 (.mk k a s n p l)||decide (k=55)&&ZaF s&&decide (n=0)&&(decide (l.length=1)&&l.all (tv hand 74))
theorem ZEJ (k a:Int) (s:ByteArray) (n:Int) (p:Option (List D)) (l:List Tree):cP hand (.mk k a s n p l)=(tv hand 74 (.mk k a s n p l)||decide (k=55)&&ZaF s&&decide (n=0)&&(decide (l.length=1)&&l.all (tv hand 74))):=rfl
theorem ZCh (t:Tree) (hg:good t):ML prg hand 4810 t.cells=some (0,[.v (.bool (cP hand t))]):=by
 obtain ⟨k,a,s,n,p,l⟩:=t
 have h:=Zar 25 p (l.map Tree.d)
 have hlen:=Zbl h
 have c2:=(ZC2 (hand:=hand) (.mk k a s n p l)).c2
 rw [Zah Zxb,Tree.c]
 rw [ZEJ]
 unfold Zr8
 by_cases hm:l.length=1
 · match l,hm,h,hlen,c2 with
   | [x],_,h,hlen,c2 =>
   have hl:ZcN false (Zav 25 p ([x].map Tree.d))=some (.v (.int .i64 1)):=hlen
   have b0:Zcp 25 (Zav 25 p ([x].map Tree.d)) (.v (.int .i64 0))=true:=ZbP h (i:=0) (by simp)
   have w0:=ZC2 (hand:=hand) x
   simp only [List.length_cons,List.length_nil,Nat.zero_add,Kl,Bool.true_and,List.all_cons,List.all_nil,Bool.and_true]
   generalize Zav 25 p ([x].map Tree.d)=d at *
   generalize tv hand 74 (Tree.mk k a s n p [x])=c at *
   obtain ⟨k0,a0,s0,n0,p0,m0⟩:=x
   have g0:=ldN (i:=0) h rfl
   have v0:=w0.c2
   simp only [Zad,dv,ixD,Ka,Kb,Kc,Kd,Ke,Kf,Kg,if_true,Kh,ZaR,Zau,ZdG,Zca,brB,cond_true,hl,c2,b0,g0,v0,Zaq,isE,Kl]
   cases c<;>cases decide (k=55)<;>cases ZaF s<;>cases decide (n=0)<;>rfl
 · have e1:decide ((l.length:Int)=1)=false:=decide_eq_false (by omega)
   rw [decide_eq_false hm]
   simp only [Zad,dv,ixD,Ka,Kb,Kc,Kd,Ke,Kf,Kg,if_false,Kj,Kh,ZaR,Zau,ZdG,Zca,brB,hlen,c2,e1,Zaq,isE]
   cases tv hand 74 (Tree.mk k a s n p l)<;>cases decide (k=55)<;>cases ZaF s<;>cases decide (n=0)<;>rfl
theorem ZER {k a:Int} {s:ByteArray} {n:Int} {p:Option (List D)} {l:List Tree} (hg:good (.mk k a s n p l)) (i72:∀ u,u∈l→Both hand 72 4804 u):Both hand 123 4811 (.mk k a s n p l):=by
 have hl:=Zb1 hg
 have hgm:∀ u,u∈l→good u:=fun u hu=>Za0 hg hu
 clear hg
 revert i72 hl hgm
 refine Zcx (P:=fun l=>(∀ u,u∈l→Both hand 72 4804 u)→l.length<140737488355328→(∀ u,u∈l→good u)→Both hand 123 4811 (.mk k a s n p l)) l ?_ ?_
 · intro _ _ _
   have hlen:ZcN false (Zav 25 p [])=some (.v (.int .i64 0)):=Zbl (Zar 25 p (([]:List Tree).map Tree.d))
   have sb:ZeI theTabs .sub 3 (.v (.int .i64 0)) (.v (.int .i64 1))=some (.v (.int .i64 (-1))):=ZuZ (by decide)
   have z1:decide ((-1:Int)≥1)=false:=rfl
   have z2:decide ((0:Int)≥2)=false:=rfl
   refine ZbO (b:=false) (c:=false) ?_ ?_ rfl
   · rw [Zah ZBv,Tree.c]
     unfold ZxV
     simp only [Zad,dv,Ka,Kb,Kc,Kd,Kf,Kg,if_false,Kj,Kh,Ki,ZaR,Zau,Zca,brB,hlen,sb,ZrE,z1,Zaq,isE]
     cases decide (k=18)<;>cases ZaF s<;>cases decide (n=0)<;>rfl
   · rw [Zah ZsK,Tree.c]
     unfold Zpl
     simp only [Zad,dv,ixD,Ka,Kb,Kc,Kd,Ke,Kf,Kg,if_false,Kj,Kh,Ki,ZaR,Zau,Zca,brB,hlen,ZrE,z2,Zaq,isE]
     cases decide (k=18)<;>cases ZaF s<;>cases decide (n=0)<;>rfl
 · intro r z i72 hl hgm
   have h:=Zar 25 p ((r++[z]).map Tree.d)
   have hrl:r.length<140737488355328:=by simp at hl;omega
   have hlen:=Zzj h
   have sb:=ZDv r hrl
   obtain ⟨d1,hd1,h1⟩:=ZEe h
   have hlen1:=Zbl h1
   have z1:decide ((r.length:Int)≥1) = !decide (r.length=0):=ZEH _
   have z2:decide (((r.length+1:Nat):Int)≥2) = !decide (r.length=0):=by rw [←decide_not];exact decide_eq_decide.2 (by omega)
   have hgr:∀ u,u∈r→good u:=fun u hu=>hgm u (by simp [hu])
   have a2:=ZDk (hand:=hand) h1 hrl fun u hu=>Zwz (ZCh u (hgr u hu))
   rw [Zc5 (q:=cP hand) fun u hu=>ZqB (ZCh u (hgr u hu))] at a2
   have b0:=ZbP h (i:=r.length) (by simp)
   have w0:=i72 z (by simp)
   obtain ⟨k0,a0,s0,n0,p0,m0⟩:=z
   generalize hdd:Zav 25 p ((r++[Tree.mk k0 a0 s0 n0 p0 m0]).map Tree.d)=d at *
   have g0:=ldN (i:=r.length) h (by rw [List.getElem?_append_right (Nat.le_refl _),Nat.sub_self];rfl)
   have u0:=w0.c1
   have v0:=w0.c2
   generalize tv hand 72 (Tree.mk k0 a0 s0 n0 p0 m0)=q at *
   have key:∀ z5 z6 z7 z10:D,ZbJ (fun v=>Zad theTabs (ML prg hand) ZfA (.v (.int .u8 k)::.v (.int .i64 a)::.v (.string s)::.v (.int .u64 n)::d::z5::z6::z7::.v (.int .i64 ((r.length+1:Nat):Int))::.v (.int .i64 (r.length:Int))::z10::d1::.v (.int .i64 (r.length:Int))::v)) [.v (.int .i64 0)]=some (.fin 0 [.v (.bool (r.all (cP hand)&&q))]):=by
    intro z5 z6 z7 z10
    have:=Zdz (f:=fun v=>Zad theTabs (ML prg hand) ZfA (.v (.int .u8 k)::.v (.int .i64 a)::.v (.string s)::.v (.int .u64 n)::d::z5::z6::z7::.v (.int .i64 ((r.length+1:Nat):Int))::.v (.int .i64 (r.length:Int))::z10::d1::.v (.int .i64 (r.length:Int))::v)) (oF:=.fin 0 [.v (.bool false)]) (oT:=.fin 0 [.v (.bool q)]) r (cP hand) (fun i=>[.v (.int .i64 (i:Int))]) (fun i u hu=>?_) ?_
    · refine this.trans ?_
      cases r.all (cP hand)<;>rfl
    · have hi:=(List.getElem?_eq_some_iff.1 hu).1
      have hgu:=hgr u (List.mem_of_getElem? hu)
      have w1:=ZC2 (hand:=hand) u
      obtain ⟨k',a',s',n',p',m'⟩:=u
      have u1:=w1.c1
      have h67:=ZDs (hand:=hand) k' a' s' n' (Zar 25 p' (m'.map Tree.d)) fun x _=>(ZC2 x).1
      show Zad theTabs (ML prg hand) ZfA _=if (tv hand 74 (.mk k' a' s' n' p' m')||decide (k'=55)&&ZaF s'&&decide (n'=0)&&(decide (m'.length=1)&&m'.all (tv hand 74)))=true then _ else _
      generalize tv hand 74 (Tree.mk k' a' s' n' p' m')=c at *
      generalize (decide (m'.length=1)&&m'.all (tv hand 74))=w at *
      unfold ZfA
      simp only [Zad,dv,ixD,Ka,Kb,Kc,Kd,Ke,Kf,Kg,if_true,Kh,Ki,ZaR,Zau,Zca,brB,cond_true,Kk,ltY hi,ZbP h1 hi,ldN h1 hu,u1,h67,Zaq,isE,Ziu (Nat.lt_trans hi hrl)]
      cases c<;>cases decide (k'=55)<;>cases ZaF s'<;>cases decide (n'=0)<;>cases w<;>rfl
    · unfold ZfA
      simp only [Zad,dv,ixD,Ka,Kb,Kc,Kd,Ke,Kf,Kg,if_false,Kj,Kh,Ki,brB,cond_true,Kk,ltN,b0,g0,u0]
   refine ZbO (b:=decide (k=18)&&ZaF s&&decide (n=0)&&(!decide (r.length=0)&&(r.all (cP hand)&&q))) (c:=decide (k=18)&&ZaF s&&decide (n=0)&&(!decide (r.length=0)&&(r.all (cP hand)&&q))) ?_ ?_ rfl
   · rw [Zah ZBv,Tree.c]
     rw [hdd]
     unfold ZxV
     simp only [Zad,dv,Ka,Kb,Kc,Kd,Kf,Kg,Kh,Ki,ZaR,Zau,Zca,brB,hlen,sb,ZrE,z1,Zaq,isE,Option.map_none,hd1,hlen1,key]
     generalize r.all (cP hand)=R
     cases decide (k=18)<;>cases ZaF s<;>cases decide (n=0)<;>cases decide (r.length=0)<;>cases R<;>rfl
   · rw [Zah ZsK,Tree.c]
     rw [hdd]
     unfold Zpl
     simp only [Zad,dv,ixD,Ka,Kb,Kc,Kd,Ke,Kf,Kg,Kh,Ki,ZaR,Zau,Zca,brB,cond_true,Kk,hlen,sb,ZrE,z2,Zaq,isE,Option.map_none,hd1,a2,b0,g0,v0]
     generalize r.all (cP hand)=R
     cases decide (k=18)<;>cases ZaF s<;>cases decide (n=0)<;>cases decide (r.length=0)<;>cases R<;>rfl
def loP (s:ByteArray) (n:Int):Bool:=decide (n=0)&&(Zbc s||ZaF s)
theorem f79 (k a:Int) (s:ByteArray) (n:Int) (d:D) (hs:s.data.toList.length<9223372036854775808):ML prg hand 79 [.v (.int .u8 k),.v (.int .i64 a),.v (.string s),.v (.int .u64 n),d]=some (0,[.v (.bool (loP s n))]):=by
 have h63:=t63 (hand:=hand) k a s n d hs
 rw [Zah ZGc]
 unfold ZE6 loP
 simp only [Zad,dv,Ka,Kb,Kc,Kd,Kf,Kg,Kh,Zau,Zca,brB,h63,Zaq,isE]
 cases ZaF s<;>cases decide (n=0)<;>cases Zbc s<;>rfl
noncomputable def dP (hand:Zd3):Tree→Bool
 | .mk k _ s n _ l=>decide (k=19)&&ZaF s&&decide (n=0)&&(decide (l.length=1)&&l.all (tv hand 72))
theorem ZCl (k a:Int) (s:ByteArray) (n:Int) (p:Option (List D)) (l:List Tree):dP hand (.mk k a s n p l)=(decide (k=19)&&ZaF s&&decide (n=0)&&(decide (l.length=1)&&l.all (tv hand 72))):=rfl
def Zkw (P:Tree→Prop):Tree→Prop
 | .mk _ _ _ _ _ l=>∀ u,u∈l→P u
theorem ZCg (t:Tree) (i72:Zkw (Both hand 72 4804) t):ML prg hand 4812 t.cells=some (0,[.v (.bool (dP hand t))]):=by
 obtain ⟨k,a,s,n,p,l⟩:=t
 replace i72:∀ u,u∈l→Both hand 72 4804 u:=i72
 have h:=Zar 25 p (l.map Tree.d)
 have hlen:=Zbl h
 rw [Zah Zxa,Tree.c,ZCl]
 unfold Zr7
 by_cases hm:l.length=1
 · match l,hm,h,hlen,i72 with
   | [x],_,h,hlen,i72 =>
   have hl:ZcN false (Zav 25 p ([x].map Tree.d))=some (.v (.int .i64 1)):=hlen
   have b0:Zcp 25 (Zav 25 p ([x].map Tree.d)) (.v (.int .i64 0))=true:=ZbP h (i:=0) (by simp)
   have w0:=i72 x (by simp)
   simp only [List.length_cons,List.length_nil,Nat.zero_add,Kl,Bool.true_and,List.all_cons,List.all_nil,Bool.and_true]
   generalize Zav 25 p ([x].map Tree.d)=d at *
   obtain ⟨k0,a0,s0,n0,p0,m0⟩:=x
   have g0:=ldN (i:=0) h rfl
   have v0:=w0.c2
   simp only [Zad,dv,ixD,Ka,Kb,Kc,Kd,Kf,Kg,if_true,Kh,ZaR,Zau,ZdG,Zca,brB,cond_true,hl,b0,g0,v0,Zaq,isE,Kl]
   cases decide (k=19)<;>cases ZaF s<;>cases decide (n=0)<;>rfl
 · have e1:decide ((l.length:Int)=1)=false:=decide_eq_false (by omega)
   rw [decide_eq_false hm]
   simp only [Zad,dv,ixD,Ka,Kb,Kc,Kd,Kf,Kg,if_false,Kj,Kh,ZaR,Zau,ZdG,Zca,brB,hlen,e1,Zaq,isE]
   cases decide (k=19)<;>cases ZaF s<;>cases decide (n=0)<;>rfl
def swM (C E:Tree→Bool) (m:List Tree):Bool:=match m.getLast? with
 | none=>true
 | some z=>m.dropLast.all C&&(C z||E z)
theorem Zsu (C E:Tree→Bool):swM C E []=true:=rfl
theorem Zlq (C E:Tree→Bool) (r:List Tree) (z:Tree):swM C E (r++[z])=(r.all C&&(C z||E z)):=by
 unfold swM
 rw [List.getLast?_concat,List.dropLast_concat]
def swP (X C E:Tree→Bool):List Tree→Bool
 | []=>false
 | x::m=>X x&&swM C E m
theorem ZEd {t:Tree} {m:List Tree} {d:D} (h:KG 25 ((t::m).map Tree.d) d) {j:Nat} (hj:j≤m.length):∃ d',Zkv 25 d (some (.v (.int .i64 1))) (some (.v (.int .i64 ((j+1:Nat):Int))))=some d'∧KG 25 ((m.take j).map Tree.d) d':=by
 generalize hm:(t::m).map Tree.d=q at h
 cases h with
 | nil=>cases hm
 | sl q x =>
  subst hm
  refine ⟨.sl 25 ((m.take j).map Tree.d) ((((t::m).map Tree.d)++x).drop (j+1)),?_,.sl _ _⟩
  unfold Zkv Zde ZvN
  have e1:Nat.ble 1 (j+1)=true:=Nat.ble_eq_true_of_le (by omega)
  have e2:(j+1).ble (((t::m).map Tree.d++x).length)=true:=Nat.ble_eq_true_of_le (by simp;omega)
  have e3:(0:Int)≤((j+1:Nat):Int):=by omega
  simp only [Int.reduceLE,if_true,Kh,e3]
  rw [show (1:Int).toNat=1 from rfl,Kk,e1,e2,Nat.beq_refl]
  simp only [Bool.and_self,cond_true]
  rw [show j+1-1=j by omega,Ka,Kc,List.drop_succ_cons,List.drop_zero,List.take_append_of_le_length (by simp;omega),List.map_take]
theorem ZmQ {r:List Tree} {z t:Tree} {b:Bool} {i:Nat} (h:(r.map (fun t=>(t,false))++[(z,true)])[i]?=some (t,b)):(r++[z])[i]?=some t∧i≤r.length∧b=decide (i=r.length):=by
 rcases Nat.lt_or_ge i r.length with hi | hi
 · rw [List.getElem?_append_left (by simpa using hi),List.getElem?_map] at h
   rw [List.getElem?_append_left hi]
   obtain ⟨u,hu,e⟩:=Option.map_eq_some_iff.1 h
   cases e
   exact ⟨hu,Nat.le_of_lt hi,(decide_eq_false (by omega)).symm⟩
 · rw [List.getElem?_append_right (by simpa using hi),List.length_map] at h
   rw [List.getElem?_append_right hi]
   rcases Nat.eq_zero_or_pos (i-r.length) with h0 | h0
   · rw [h0] at h ⊢
     simp only [List.getElem?_cons_zero,Option.some.injEq,Prod.mk.injEq] at h
     obtain ⟨rfl,rfl⟩:=h
     exact ⟨rfl,by omega,(decide_eq_true (by omega)).symm⟩
   · rw [List.getElem?_eq_none (by simp;omega)] at h;cases h
theorem ZDu {x0:Tree} {m:List Tree} {d:D} (h:KG 25 ((x0::m).map Tree.d) d) (hl:m.length+1<140737488355328) (i123:∀ u,u∈m→Both hand 123 4811 u) (i72:∀ u,u∈m→Zkw (Both hand 72 4804) u) (z0 z1 z2 z3 z6 z7 z8 z9 z10 z11 z12 z13 z14 z15 z16 z17 z18 z19 z20 z21 z22 z23:D) :
    ZbJ (fun v=>Zad theTabs (ML prg hand) Zep (z0::z1::z2::z3::d::.v (.int .i64 ((m.length+1:Nat):Int))::z6::z7::z8::z9::z10::z11::z12::z13::z14::z15::z16::z17::z18::z19::z20::z21::z22::z23::v)) [.v (.int .i64 1)]=some (.fin 0 [.v (.bool (swM (tv hand 123) (dP hand) m))]):=by
 revert h hl i123 i72
 refine Zcx (P:=fun m=>KG 25 ((x0::m).map Tree.d) d→m.length+1<140737488355328→(∀ u,u∈m→Both hand 123 4811 u)→(∀ u,u∈m→Zkw (Both hand 72 4804) u)→ZbJ (fun v=>Zad theTabs (ML prg hand) Zep (z0::z1::z2::z3::d::.v (.int .i64 ((m.length+1:Nat):Int))::z6::z7::z8::z9::z10::z11::z12::z13::z14::z15::z16::z17::z18::z19::z20::z21::z22::z23::v)) [.v (.int .i64 1)]=some (.fin 0 [.v (.bool (swM (tv hand 123) (dP hand) m))])) m ?_ ?_
 · intro _ _ _ _
   rw [Zsu]
   refine Zea ?_
   show Zad theTabs (ML prg hand) Zep _=_
   have e:=ltN 1
   rw [show ((1:Nat):Int)=1 from rfl] at e
   unfold Zep
   rw [show (((([]:List Tree).length+1:Nat)):Int)=1 from rfl]
   simp only [Zad,dv,ixD,Ka,Kb,Kc,Kd,Ke,Kf,Kg,if_false,Kj,Kh,Ki,brB,e]
 · intro r z h hl i123 i72
   have hml:(r++[z]).length=r.length+1:=by simp
   rw [hml] at hl ⊢
   have sb:=ZAA (a:=r.length+1+1) (b:=1) (c:=r.length+1) rfl (by omega)
   rw [show ((1:Nat):Int)=1 from rfl] at sb
   have:=Zdz (f:=fun v=>Zad theTabs (ML prg hand) Zep (z0::z1::z2::z3::d::.v (.int .i64 ((r.length+1+1:Nat):Int))::z6::z7::z8::z9::z10::z11::z12::z13::z14::z15::z16::z17::z18::z19::z20::z21::z22::z23::v)) (oF:=.fin 0 [.v (.bool false)]) (oT:=.fin 0 [.v (.bool true)]) (r.map (fun t=>(t,false))++[(z,true)]) (fun q=>tv hand 123 q.1||(q.2&&dP hand q.1)) (fun i=>[.v (.int .i64 ((i+1:Nat):Int))]) (fun i q hq=>?_) ?_
   · rw [show ((0+1:Nat):Int)=1 from rfl] at this
     refine this.trans ?_
     rw [Zlq,List.all_append,List.all_map]
     have e:((fun q:Tree×Bool=>tv hand 123 q.1||(q.2&&dP hand q.1))∘fun t=>(t,false))=tv hand 123:=by funext t;simp
     rw [e]
     simp only [List.all_cons,List.all_nil,Bool.true_and,Bool.and_true]
     cases (r.all (tv hand 123)&&(tv hand 123 z||dP hand z))<;>rfl
   · obtain ⟨t,b⟩:=q
     obtain ⟨hu,hi,rfl⟩:=ZmQ hq
     have hmem:=List.mem_of_getElem? hu
     have w1:=i123 t hmem
     have w2:=ZCg (hand:=hand) t (i72 t hmem)
     have hu':(x0::(r++[z]))[i+1]?=some t:=by rw [List.getElem?_cons_succ];exact hu
     have e1:decide (((i+1:Nat):Int)<((r.length+1:Nat):Int)) = !decide (i=r.length):=by rw [←decide_not];exact decide_eq_decide.2 (by omega)
     have hb:=ZbP h (i:=i+1) (by rw [List.length_cons,hml];omega)
     show Zad theTabs (ML prg hand) Zep _=if (tv hand 123 t||(decide (i=r.length)&&dP hand t))=true then _ else _
     generalize dP hand t=E at *
     obtain ⟨k',a',s',n',p',m'⟩:=t
     have v1:=w1.c2
     rw [Tree.c] at w2
     generalize tv hand 123 (Tree.mk k' a' s' n' p' m')=C at *
     unfold Zep
     simp only [Zad,dv,ixD,Ka,Kb,Kc,Kd,Ke,Kf,Kg,if_true,Kh,Ki,ZcM,brB,cond_true,Kk,ltY (show i+1<r.length+1+1 by omega),hb,ldN h hu',v1,w2,sb,Zlg,e1,Ziu (show i+1<140737488355328 by omega)]
     cases C<;>cases decide (i=r.length)<;>cases E<;>rfl
   · have hll:(r.map (fun t=>(t,false))++[(z,true)]).length=r.length+1:=by simp
     rw [hll]
     unfold Zep
     simp only [Zad,dv,ixD,Ka,Kb,Kc,Kd,Ke,Kf,Kg,if_false,Kj,Kh,Ki,brB,Kk,ltN]
theorem ZDt {x0:Tree} {m:List Tree} {d:D} (h:KG 25 ((x0::m).map Tree.d) d) (hl:m.length+1<140737488355328) (i123:∀ u,u∈m→Both hand 123 4811 u) (i72:∀ u,u∈m→Zkw (Both hand 72 4804) u) (z0 z1 z2 z3 z6 z7 z8 z9 z10 z11 z12 z13 z14 z15 z16 z17 z18 z19 z20 z21 z22 z23 z24 z25:D) :
    ZbJ (fun v=>Zad theTabs (ML prg hand) Zeo (z0::z1::z2::z3::d::.v (.int .i64 ((m.length+1:Nat):Int))::z6::z7::z8::z9::z10::z11::z12::z13::z14::z15::z16::z17::z18::z19::z20::z21::z22::z23::z24::z25::v)) [.v (.int .i64 1)]=some (.fin 0 [.v (.bool (swM (tv hand 123) (dP hand) m))]):=by
 revert h hl i123 i72
 refine Zcx (P:=fun m=>KG 25 ((x0::m).map Tree.d) d→m.length+1<140737488355328→(∀ u,u∈m→Both hand 123 4811 u)→(∀ u,u∈m→Zkw (Both hand 72 4804) u)→ZbJ (fun v=>Zad theTabs (ML prg hand) Zeo (z0::z1::z2::z3::d::.v (.int .i64 ((m.length+1:Nat):Int))::z6::z7::z8::z9::z10::z11::z12::z13::z14::z15::z16::z17::z18::z19::z20::z21::z22::z23::z24::z25::v)) [.v (.int .i64 1)]=some (.fin 0 [.v (.bool (swM (tv hand 123) (dP hand) m))])) m ?_ ?_
 · intro _ _ _ _
   rw [Zsu]
   refine Zea ?_
   show Zad theTabs (ML prg hand) Zeo _=_
   have e:=ltN 1
   rw [show ((1:Nat):Int)=1 from rfl] at e
   unfold Zeo
   rw [show (((([]:List Tree).length+1:Nat)):Int)=1 from rfl]
   simp only [Zad,dv,ixD,Ka,Kb,Kc,Kd,Ke,Kf,Kg,if_false,Kj,Kh,Ki,brB,e]
 · intro r z h hl i123 i72
   have hml:(r++[z]).length=r.length+1:=by simp
   rw [hml] at hl ⊢
   have sb:=ZAA (a:=r.length+1+1) (b:=1) (c:=r.length+1) rfl (by omega)
   rw [show ((1:Nat):Int)=1 from rfl] at sb
   have:=Zdz (f:=fun v=>Zad theTabs (ML prg hand) Zeo (z0::z1::z2::z3::d::.v (.int .i64 ((r.length+1+1:Nat):Int))::z6::z7::z8::z9::z10::z11::z12::z13::z14::z15::z16::z17::z18::z19::z20::z21::z22::z23::z24::z25::v)) (oF:=.fin 0 [.v (.bool false)]) (oT:=.fin 0 [.v (.bool true)]) (r.map (fun t=>(t,false))++[(z,true)]) (fun q=>tv hand 123 q.1||(q.2&&dP hand q.1)) (fun i=>[.v (.int .i64 ((i+1:Nat):Int))]) (fun i q hq=>?_) ?_
   · rw [show ((0+1:Nat):Int)=1 from rfl] at this
     refine this.trans ?_
     rw [Zlq,List.all_append,List.all_map]
     have e:((fun q:Tree×Bool=>tv hand 123 q.1||(q.2&&dP hand q.1))∘fun t=>(t,false))=tv hand 123:=by funext t;simp
     rw [e]
     simp only [List.all_cons,List.all_nil,Bool.true_and,Bool.and_true]
     cases (r.all (tv hand 123)&&(tv hand 123 z||dP hand z))<;>rfl
   · obtain ⟨t,b⟩:=q
     obtain ⟨hu,hi,rfl⟩:=ZmQ hq
     have hmem:=List.mem_of_getElem? hu
     have w1:=i123 t hmem
     have w2:=ZCg (hand:=hand) t (i72 t hmem)
     have hu':(x0::(r++[z]))[i+1]?=some t:=by rw [List.getElem?_cons_succ];exact hu
     have e1:decide (((i+1:Nat):Int)<((r.length+1:Nat):Int)) = !decide (i=r.length):=by rw [←decide_not];exact decide_eq_decide.2 (by omega)
     have hb:=ZbP h (i:=i+1) (by rw [List.length_cons,hml];omega)
     show Zad theTabs (ML prg hand) Zeo _=if (tv hand 123 t||(decide (i=r.length)&&dP hand t))=true then _ else _
     generalize dP hand t=E at *
     obtain ⟨k',a',s',n',p',m'⟩:=t
     have v1:=w1.c2
     rw [Tree.c] at w2
     generalize tv hand 123 (Tree.mk k' a' s' n' p' m')=C at *
     unfold Zeo
     simp only [Zad,dv,ixD,Ka,Kb,Kc,Kd,Ke,Kf,Kg,if_true,Kh,Ki,ZcM,brB,cond_true,Kk,ltY (show i+1<r.length+1+1 by omega),hb,ldN h hu',v1,w2,sb,Zlg,e1,Ziu (show i+1<140737488355328 by omega)]
     cases C<;>cases decide (i=r.length)<;>cases E<;>rfl
   · have hll:(r.map (fun t=>(t,false))++[(z,true)]).length=r.length+1:=by simp
     rw [hll]
     unfold Zeo
     simp only [Zad,dv,ixD,Ka,Kb,Kc,Kd,Ke,Kf,Kg,if_false,Kj,Kh,Ki,brB,Kk,ltN]
theorem f82 {k a:Int} {s:ByteArray} {n:Int} {p:Option (List D)} {l:List Tree} (hg:good (.mk k a s n p l)) (i123:∀ u,u∈l→Both hand 123 4811 u) (i72:∀ u,u∈l→Zkw (Both hand 72 4804) u) :
    ML prg hand 82 (Tree.mk k a s n p l).cells=some (0,[.v (.bool (loP s n&&swP (tv hand 39) (tv hand 123) (dP hand) l))]):=by
 have i39:∀ u,u∈l→Both hand 39 4802 u:=fun u hu=>bEx u (Za0 hg hu).1
 have hl:=Zb1 hg
 have hs:=ZcO hg
 clear hg
 match l,hl,i39,i123,i72 with
 | [],_,_,_,_ =>
  have hlen:ZcN false (Zav 25 p [])=some (.v (.int .i64 0)):=Zbl (Zar 25 p (([]:List Tree).map Tree.d))
  have h79:=f79 (hand:=hand) k a s n (Zav 25 p []) hs
  rw [Zah ZDy,Tree.c]
  unfold ZCK
  simp only [Zad,dv,ixD,Ka,Kb,Kc,Kd,Ke,Kf,Kg,if_true,Kh,Ki,ZdG,ZcM,brB,hlen,h79,Kl]
  cases loP s n<;>rfl
 | x::m,hl,i39,i123,i72 =>
  have w0:=i39 x (by simp)
  revert hl i123 i72
  clear i39
  refine Zcx (P:=fun m=>(x::m).length<140737488355328→(∀ u,u∈x::m→Both hand 123 4811 u)→(∀ u,u∈x::m→Zkw (Both hand 72 4804) u)→ML prg hand 82 (Tree.mk k a s n p (x::m)).cells=some (0,[.v (.bool (loP s n&&swP (tv hand 39) (tv hand 123) (dP hand) (x::m)))])) m ?_ ?_
  · intro _ i123 _
    have h:=Zar 25 p ([x].map Tree.d)
    have hlen:ZcN false (Zav 25 p ([x].map Tree.d))=some (.v (.int .i64 1)):=Zbl h
    have h79:=f79 (hand:=hand) k a s n (Zav 25 p ([x].map Tree.d)) hs
    have b0:Zcp 25 (Zav 25 p ([x].map Tree.d)) (.v (.int .i64 0))=true:=ZbP h (i:=0) (by simp)
    obtain ⟨d1,hd1,h1⟩:=ZEd (j:=0) h (Nat.zero_le _)
    have a1:=ZxZ (hand:=hand) (l:=[]) h1 (by simp) fun u hu=>by cases hu
    have sb:ZeI theTabs .sub 3 (.v (.int .i64 1)) (.v (.int .i64 1))=some (.v (.int .i64 0)):=ZuZ (by decide)
    rw [Zah ZDy,Tree.c]
    show _=some (0,[D.v (.bool (loP s n&&(tv hand 39 x&&true)))])
    generalize Zav 25 p ([x].map Tree.d)=d at *
    obtain ⟨k0,a0,s0,n0,p0,m0⟩:=x
    have g0:=ldN (i:=0) h rfl
    have u0:=w0.c1
    generalize tv hand 39 (Tree.mk k0 a0 s0 n0 p0 m0)=c at *
    have e0:decide ((1:Int)=0)=false:=rfl
    have e1:decide ((1:Int) > 1)=false:=rfl
    have hd1':Zkv 25 d (some (.v (.int .i64 1))) (some (.v (.int .i64 1)))=some d1:=hd1
    unfold ZCK
    simp only [Zad,dv,ixD,Ka,Kb,Kc,Kd,Ke,Kf,Kg,if_false,Kj,Kh,Ki,ZaR,Zau,ZdG,Zca,ZcM,brB,cond_true,hlen,h79,e0,e1,b0,g0,u0,sb,ZrD,Int.toNat_zero,Ki,hd1',a1]
    cases loP s n<;>cases c<;>rfl
  · intro r z hl i123 i72
    have h:=Zar 25 p ((x::(r++[z])).map Tree.d)
    have hml:(x::(r++[z])).length=r.length+1+1:=by simp
    have hlen:ZcN false (Zav 25 p ((x::(r++[z])).map Tree.d))=some (.v (.int .i64 ((r.length+1+1:Nat):Int))):=by rw [Zbl h,hml]
    rw [hml] at hl
    have h79:=f79 (hand:=hand) k a s n (Zav 25 p ((x::(r++[z])).map Tree.d)) hs
    have b0:Zcp 25 (Zav 25 p ((x::(r++[z])).map Tree.d)) (.v (.int .i64 0))=true:=ZbP h (i:=0) (by simp)
    have bz:=ZbP h (i:=r.length+1) (by rw [hml];omega)
    obtain ⟨d1,hd1,h1⟩:=ZEd (j:=r.length) h (by simp)
    obtain ⟨d2,hd2,h2⟩:=ZEd (j:=r.length+1) h (by simp)
    rw [List.take_append_of_le_length (Nat.le_refl _),List.take_length] at h1
    rw [List.take_of_length_le (by simp)] at h2
    have a1:=ZxZ (hand:=hand) h1 (by omega) fun u hu=>(i123 u (by simp [hu])).1
    have a2:=ZxZ (hand:=hand) h2 (by simp;omega) fun u hu=>(i123 u (List.mem_cons_of_mem _ hu)).1
    rw [List.all_append,List.all_cons,List.all_nil,Bool.and_true] at a2
    have sb:=ZAA (a:=r.length+1+1) (b:=1) (c:=r.length+1) rfl (by omega)
    rw [show ((1:Nat):Int)=1 from rfl] at sb
    have iz:=i72 z (by simp)
    rw [Zah ZDy,Tree.c]
    show _=some (0,[D.v (.bool (loP s n&&(tv hand 39 x&&swM (tv hand 123) (dP hand) (r++[z]))))])
    rw [Zlq]
    have e0:decide (((r.length+1+1:Nat):Int)=0)=false:=decide_eq_false (by omega)
    have e1:decide (((r.length+1+1:Nat):Int) > 1)=true:=decide_eq_true (by omega)
    generalize r.all (tv hand 123)=R at *
    generalize tv hand 123 z=Cz at *
    obtain ⟨k0,a0,s0,n0,p0,m0⟩:=x
    obtain ⟨kz,az,sz,nz,pz,mz⟩:=z
    replace iz:∀ u,u∈mz→Both hand 72 4804 u:=iz
    have h65:=ZDr (hand:=hand) kz az sz nz (Zar 25 pz (mz.map Tree.d)) fun u hu=>(iz u hu).1
    rw [ZCl]
    generalize (decide (mz.length=1)&&mz.all (tv hand 72))=w at *
    generalize Zav 25 p ((Tree.mk k0 a0 s0 n0 p0 m0::(r++[Tree.mk kz az sz nz pz mz])).map Tree.d)=d at *
    have g0:=ldN (i:=0) h rfl
    have gz:=ldN (i:=r.length+1) h (by rw [List.getElem?_cons_succ,List.getElem?_append_right (Nat.le_refl _),Nat.sub_self];rfl)
    have u0:=w0.c1
    generalize tv hand 39 (Tree.mk k0 a0 s0 n0 p0 m0)=c at *
    unfold ZCK
    simp only [Zad,dv,ixD,Ka,Kb,Kc,Kd,Ke,Kf,Kg,if_true,if_false,Kj,Kh,Ki,ZaR,Zau,ZdG,Zca,ZcM,brB,cond_true,Kk,hlen,h79,e0,e1,b0,g0,u0,sb,bz,gz,h65,ZrD,Zaq,isE,Ki,hd1,hd2,a1,a2]
    cases loP s n<;>cases c<;>cases R<;>cases Cz<;>cases decide (kz=19)<;>cases ZaF sz<;>cases decide (nz=0)<;>cases w<;>rfl
theorem ZEA (t:Tree) {b:Bool} (h:ML prg hand 90 t.cells=some (0,[.v (.bool b)])):ML prg hand 4803 t.cells=some (0,[.v (.bool b)]):=by
 obtain ⟨k,a,s,n,p,l⟩:=t
 have hlen:=Zbl (Zar 25 p (l.map Tree.d))
 rw [Tree.c] at h ⊢
 rw [Zah Zxi]
 unfold Zsf
 simp only [Zad,dv,Ka,Kb,Kc,Kd,Kf,Kg,Kh,hlen,h];rfl
section
variable {δ:List D} {k c:Int} {m:Nat} {k1 k2:FT} {F:Zd3}
theorem Zwl (hm:m=δ.length+1) (h:k≠c):Zad theTabs F (.bin .eql 5 (.x 0) (.c (.int .u8 c)) (.br (.x m) k1 k2)) (.v (.int .u8 k)::δ)=Zad theTabs F k2 (.v (.int .u8 k)::(δ++[.v (.bool false)])):=by
 subst hm
 rw [Zad]
 show (ZeI theTabs .eql 5 (.v (.int .u8 k)) (.v (.int .u8 c))).bind _=_
 rw [ZaR,decide_eq_false h,Kh,Zad]
 show brD ((D.v (.int .u8 k)::(δ++[D.v (.bool false)])).getD (δ.length+1) (.ag [])) _ _=_
 rw [Kg,List.getD_eq_getElem?_getD,List.getElem?_append_right (Nat.le_refl _),Nat.sub_self];rfl
theorem ZuG (hm:m=δ.length+1):Zad theTabs F (.bin .eql 5 (.x 0) (.c (.int .u8 c)) (.br (.x m) k1 k2)) (.v (.int .u8 c)::δ)=Zad theTabs F k1 (.v (.int .u8 c)::(δ++[.v (.bool true)])):=by
 subst hm
 rw [Zad]
 show (ZeI theTabs .eql 5 (.v (.int .u8 c)) (.v (.int .u8 c))).bind _=_
 rw [ZaR,decide_eq_true rfl,Kh,Zad]
 show brD ((D.v (.int .u8 c)::(δ++[D.v (.bool true)])).getD (δ.length+1) (.ag [])) _ _=_
 rw [Kg,List.getD_eq_getElem?_getD,List.getElem?_append_right (Nat.le_refl _),Nat.sub_self];rfl
theorem ZuH {v d0 d1 d2 d3 d4:D} (h:ZcN false d4=some v):Zad theTabs F (.len false (.x 4) k1) (d0::d1::d2::d3::d4::δ)=Zad theTabs F k1 (d0::d1::d2::d3::d4::(δ++[v])):=by
 rw [Zad]
 show (ZcN false d4).bind _=_
 rw [h,Kh];rfl
theorem Zag {x:Option (Nat×List D)} (hm:m=δ.length+1) (h:k≠c) (g:Zdd (Zad theTabs F k2 (.v (.int .u8 k)::(δ++[.v (.bool false)])))=x):Zdd (Zad theTabs F (.bin .eql 5 (.x 0) (.c (.int .u8 c)) (.br (.x m) k1 k2)) (.v (.int .u8 k)::δ))=x:=by rw [Zwl hm h];exact g
theorem Zbh {x:Option (Nat×List D)} (hm:m=δ.length+1) (g:Zdd (Zad theTabs F k1 (.v (.int .u8 c)::(δ++[.v (.bool true)])))=x):Zdd (Zad theTabs F (.bin .eql 5 (.x 0) (.c (.int .u8 c)) (.br (.x m) k1 k2)) (.v (.int .u8 c)::δ))=x:=by rw [ZuG hm];exact g
theorem Zci {v d0 d1 d2 d3 d4:D} {x:Option (Nat×List D)} (h:ZcN false d4=some v) (g:Zdd (Zad theTabs F k1 (d0::d1::d2::d3::d4::(δ++[v])))=x):Zdd (Zad theTabs F (.len false (.x 4) k1) (d0::d1::d2::d3::d4::δ))=x:=by rw [ZuH h];exact g
end
def ZEs (N V S E B:Tree→Bool):List Tree→Bool
 | [x,y,z,w]=>(N x||V x||S x)&&(N y||E y)&&(N z||S z)&&B w
 | _=>false
theorem ZFF (N V S E B:Tree→Bool) (x y z w:Tree):ZEs N V S E B [x,y,z,w]=((N x||V x||S x)&&(N y||E y)&&(N z||S z)&&B w):=rfl
theorem ZEr {N V S E B:Tree→Bool} {l:List Tree} (h:l.length≠4):ZEs N V S E B l=false:=by
 unfold ZEs
 split
 · exact absurd rfl h
 · rfl
def St (hand:Zd3) (t:Tree):Prop:=∃ b,ML prg hand 41 t.cells=some (0,[.v (.bool b)])∧ML prg hand 90 t.cells=some (0,[.v (.bool b)])
section
variable {k a:Int} {s:ByteArray} {n:Int} {p:Option (List D)} {l:List Tree}
theorem ZF7 (h1:Both hand 72 4804 (.mk 10 a s n p l)):St hand (.mk 10 a s n p l):=by
 have h:=Zar 25 p (l.map Tree.d)
 have hlen:=Zbl h
 refine ⟨tv hand 72 (.mk 10 a s n p l),?_,?_⟩
 · rw [Zah ZqI,Tree.c]
   unfold Zn8
   refine Zbh rfl ?_
   simp only [Zad,dv,Ka,Kb,Kc,Kd,Kf,Kg,Kh,h1.c1];rfl
 · rw [Zah Zpt,Tree.c]
   unfold Zn0
   refine Zci hlen (Zbh rfl ?_)
   simp only [Zad,dv,Ka,Kb,Kc,Kd,Kf,Kg,Kh,h1.c2];rfl
theorem ZF6 (h1:Both hand 77 4817 (.mk 11 a s n p l)):St hand (.mk 11 a s n p l):=by
 have h:=Zar 25 p (l.map Tree.d)
 have hlen:=Zbl h
 refine ⟨tv hand 77 (.mk 11 a s n p l),?_,?_⟩
 · rw [Zah ZqI,Tree.c]
   unfold Zn8
   refine Zag rfl (by decide) (Zbh rfl ?_)
   simp only [Zad,dv,Ka,Kb,Kc,Kd,Kf,Kg,Kh,h1.c1];rfl
 · rw [Zah Zpt,Tree.c]
   unfold Zn0
   refine Zci hlen (Zag rfl (by decide) (Zbh rfl ?_))
   simp only [Zad,dv,Ka,Kb,Kc,Kd,Kf,Kg,Kh,h1.c2];rfl
theorem ZF5 (h1:Both hand 81 4816 (.mk 12 a s n p l)):St hand (.mk 12 a s n p l):=by
 have h:=Zar 25 p (l.map Tree.d)
 have hlen:=Zbl h
 refine ⟨tv hand 81 (.mk 12 a s n p l),?_,?_⟩
 · rw [Zah ZqI,Tree.c]
   unfold Zn8
   refine Zag rfl (by decide) (Zag rfl (by decide) (Zag rfl (by decide) (Zag rfl (by decide) (Zag rfl (by decide) (Zag rfl (by decide) (Zag rfl (by decide) (Zag rfl (by decide) (Zag rfl (by decide) (Zag rfl (by decide) (?_))))))))))
   simp only [Zad,dv,Ka,Kb,Kc,Kd,Kf,Kg,Kh,h1.c1];rfl
 · rw [Zah Zpt,Tree.c]
   unfold Zn0
   refine Zci hlen (Zag rfl (by decide) (Zag rfl (by decide) (Zbh rfl ?_)))
   simp only [Zad,dv,Ka,Kb,Kc,Kd,Kf,Kg,Kh,h1.c2];rfl
theorem ZF4 (h1:Both hand 81 4816 (.mk 13 a s n p l)):St hand (.mk 13 a s n p l):=by
 have h:=Zar 25 p (l.map Tree.d)
 have hlen:=Zbl h
 refine ⟨tv hand 81 (.mk 13 a s n p l),?_,?_⟩
 · rw [Zah ZqI,Tree.c]
   unfold Zn8
   refine Zag rfl (by decide) (Zag rfl (by decide) (Zag rfl (by decide) (Zag rfl (by decide) (Zag rfl (by decide) (Zag rfl (by decide) (Zag rfl (by decide) (Zag rfl (by decide) (Zag rfl (by decide) (Zag rfl (by decide) (?_))))))))))
   simp only [Zad,dv,Ka,Kb,Kc,Kd,Kf,Kg,Kh,h1.c1];rfl
 · rw [Zah Zpt,Tree.c]
   unfold Zn0
   refine Zci hlen (Zag rfl (by decide) (Zag rfl (by decide) (Zag rfl (by decide) (Zbh rfl ?_))))
   simp only [Zad,dv,Ka,Kb,Kc,Kd,Kf,Kg,Kh,h1.c2];rfl
theorem ZF3 (h1:Both hand 78 4814 (.mk 14 a s n p l)):St hand (.mk 14 a s n p l):=by
 have h:=Zar 25 p (l.map Tree.d)
 have hlen:=Zbl h
 refine ⟨tv hand 78 (.mk 14 a s n p l),?_,?_⟩
 · rw [Zah ZqI,Tree.c]
   unfold Zn8
   refine Zag rfl (by decide) (Zag rfl (by decide) (Zbh rfl ?_))
   simp only [Zad,dv,Ka,Kb,Kc,Kd,Kf,Kg,Kh,h1.c1];rfl
 · rw [Zah Zpt,Tree.c]
   unfold Zn0
   refine Zci hlen (Zag rfl (by decide) (Zag rfl (by decide) (Zag rfl (by decide) (Zag rfl (by decide) (Zbh rfl ?_)))))
   simp only [Zad,dv,Ka,Kb,Kc,Kd,Kf,Kg,Kh,h1.c2];rfl
theorem ZF2 (hg:good (.mk 15 a s n p l)) (i72:∀ u,u∈l→Both hand 72 4804 u):St hand (.mk 15 a s n p l):=by
 have i39:∀ u,u∈l→Both hand 39 4802 u:=fun u hu=>bEx u (Za0 hg hu).1
 have h:=Zar 25 p (l.map Tree.d)
 have hlen:=Zbl h
 have h79:=f79 (hand:=hand) 15 a s n (Zav 25 p (l.map Tree.d)) (ZcO hg)
 have h87:=t87 (hand:=hand) s (ZcO hg)
 have h65:=ZA2 15 a s n h (fun u hu=>(i39 u hu).1) fun u hu=>(i72 u hu).1
 refine ⟨loP s n&&sh2 (tv hand 39) (tv hand 72) l,?_,?_⟩
 · rw [Zah ZqI,Tree.c]
   unfold Zn8
   refine Zag rfl (by decide) (Zag rfl (by decide) (Zag rfl (by decide) (Zbh rfl ?_)))
   simp only [Zad,dv,Ka,Kb,Kc,Kd,Kf,Kg,Kh,brB,h79,h65]
   cases loP s n<;>rfl
 · rw [Zah Zpt,Tree.c]
   unfold Zn0 loP
   by_cases h2:l.length=2
   · match l,h2,h,i39,i72,hlen with
     | [x,y],_,h,i39,i72,hlen =>
     have hl:ZcN false (Zav 25 p ([x,y].map Tree.d))=some (.v (.int .i64 2)):=hlen
     rw [ZsI]
     generalize Zav 25 p ([x,y].map Tree.d)=d at *
     have b0:Zcp 25 d (.v (.int .i64 0))=true:=ZbP h (i:=0) (by simp)
     have w0_39:=i39 x (by simp)
     have b1:Zcp 25 d (.v (.int .i64 1))=true:=ZbP h (i:=1) (by simp)
     have w1_72:=i72 y (by simp)
     obtain ⟨k0,a0,s0,n0,p0,m0⟩:=x
     have g0:=ldN (i:=0) h rfl
     have u0_39:=w0_39.c1
     have v0_39:=w0_39.c2
     generalize tv hand 39 (Tree.mk k0 a0 s0 n0 p0 m0)=c0_39 at *
     obtain ⟨k1,a1,s1,n1,p1,m1⟩:=y
     have g1:=ldN (i:=1) h rfl
     have u1_72:=w1_72.c1
     have v1_72:=w1_72.c2
     generalize tv hand 72 (Tree.mk k1 a1 s1 n1 p1 m1)=c1_72 at *
     have e2:decide ((2:Int)=2)=true:=rfl
     refine Zci hl (Zag rfl (by decide) (Zag rfl (by decide) (Zag rfl (by decide) (Zag rfl (by decide) (Zag rfl (by decide) (Zbh rfl ?_))))))
     simp only [Zad,dv,ixD,Ka,Kb,Kc,Kd,Ke,Kf,Kg,Kh,Zau,ZdG,Zca,brB,cond_true,h87,b0,g0,v0_39,b1,g1,v1_72,Zaq,isE]
     cases ZaF s<;>cases Zbc s<;>cases decide (n=0)<;>cases c0_39<;>cases c1_72<;>rfl
   · have e2:decide ((l.length:Int)=2)=false:=decide_eq_false (by omega)
     rw [Zf3 h2]
     refine Zci hlen (Zag rfl (by decide) (Zag rfl (by decide) (Zag rfl (by decide) (Zag rfl (by decide) (Zag rfl (by decide) (Zbh rfl ?_))))))
     simp only [Zad,dv,ixD,Ka,Kb,Kc,Kd,Ke,Kf,Kg,if_false,Kj,Kh,Zau,ZdG,Zca,brB,h87,e2,Zaq,isE]
     cases ZaF s<;>cases Zbc s<;>cases decide (n=0)<;>rfl
theorem ZFZ (hs:s.data.toList.length<9223372036854775808):St hand (.mk 20 a s n p l):=by
 have hlen:=Zbl (Zar 25 p (l.map Tree.d))
 have h79:=f79 (hand:=hand) 20 a s n (Zav 25 p (l.map Tree.d)) hs
 have h87:=t87 (hand:=hand) s hs
 refine ⟨loP s n&&decide (l.length=0),?_,?_⟩
 · rw [Zah ZqI,Tree.c]
   unfold Zn8
   refine Zag rfl (by decide) (Zag rfl (by decide) (Zag rfl (by decide) (Zag rfl (by decide) (Zag rfl (by decide) (Zag rfl (by decide) (Zbh rfl ?_))))))
   simp only [Zad,dv,Ka,Kb,Kc,Kd,Ke,Kf,Kg,Kh,ZdG,brB,hlen,h79,dn0]
   cases loP s n<;>rfl
 · rw [Zah Zpt,Tree.c]
   unfold Zn0 loP
   refine Zci hlen (Zag rfl (by decide) (Zag rfl (by decide) (Zag rfl (by decide) (Zag rfl (by decide) (Zag rfl (by decide) (Zag rfl (by decide) (Zag rfl (by decide) (Zag rfl (by decide) (Zbh rfl ?_)))))))))
   simp only [Zad,dv,Ka,Kb,Kc,Kd,Ke,Kf,Kg,Kh,Zau,ZdG,Zca,brB,h87,dn0,Zaq,isE]
   cases ZaF s<;>cases Zbc s<;>cases decide (n=0)<;>rfl
theorem ZFY (hs:s.data.toList.length<9223372036854775808):St hand (.mk 21 a s n p l):=by
 have hlen:=Zbl (Zar 25 p (l.map Tree.d))
 have h79:=f79 (hand:=hand) 21 a s n (Zav 25 p (l.map Tree.d)) hs
 have h87:=t87 (hand:=hand) s hs
 refine ⟨loP s n&&decide (l.length=0),?_,?_⟩
 · rw [Zah ZqI,Tree.c]
   unfold Zn8
   refine Zag rfl (by decide) (Zag rfl (by decide) (Zag rfl (by decide) (Zag rfl (by decide) (Zag rfl (by decide) (Zag rfl (by decide) (Zag rfl (by decide) (Zbh rfl ?_)))))))
   simp only [Zad,dv,Ka,Kb,Kc,Kd,Ke,Kf,Kg,Kh,ZdG,brB,hlen,h79,dn0]
   cases loP s n<;>rfl
 · rw [Zah Zpt,Tree.c]
   unfold Zn0 loP
   refine Zci hlen (Zag rfl (by decide) (Zag rfl (by decide) (Zag rfl (by decide) (Zag rfl (by decide) (Zag rfl (by decide) (Zag rfl (by decide) (Zag rfl (by decide) (Zag rfl (by decide) (Zag rfl (by decide) (Zbh rfl ?_))))))))))
   simp only [Zad,dv,Ka,Kb,Kc,Kd,Ke,Kf,Kg,Kh,Zau,ZdG,Zca,brB,h87,dn0,Zaq,isE]
   cases ZaF s<;>cases Zbc s<;>cases decide (n=0)<;>rfl
theorem ZFX (hg:good (.mk 22 a s n p l)):St hand (.mk 22 a s n p l):=by
 have i39:∀ u,u∈l→Both hand 39 4802 u:=fun u hu=>bEx u (Za0 hg hu).1
 have h:=Zar 25 p (l.map Tree.d)
 have hlen:=Zbl h
 have h1:=Zvn h (Zb1 hg) fun u hu=>(i39 u hu).1
 have h2:=Zst h (Zb1 hg) fun u hu=>(i39 u hu).2.1
 rw [Zhl i39] at h2
 refine ⟨ZaF s&&decide (n=0)&&l.all (tv hand 39),?_,?_⟩
 · rw [Zah ZqI,Tree.c]
   unfold Zn8
   refine Zag rfl (by decide) (Zag rfl (by decide) (Zag rfl (by decide) (Zag rfl (by decide) (Zag rfl (by decide) (Zag rfl (by decide) (Zag rfl (by decide) (Zag rfl (by decide) (Zbh rfl ?_))))))))
   simp only [Zad,dv,Ka,Kb,Kc,Kd,Kf,Kg,Kh,Zau,Zca,brB,h1,Zaq,isE]
   cases ZaF s<;>cases decide (n=0)<;>rfl
 · rw [Zah Zpt,Tree.c]
   unfold Zn0
   refine Zci hlen (Zag rfl (by decide) (Zag rfl (by decide) (Zag rfl (by decide) (Zag rfl (by decide) (Zag rfl (by decide) (Zag rfl (by decide) (Zag rfl (by decide) (Zag rfl (by decide) (Zag rfl (by decide) (Zag rfl (by decide) (Zbh rfl ?_)))))))))))
   simp only [Zad,dv,Ka,Kb,Kc,Kd,Kf,Kg,Kh,Zau,Zca,brB,h2,Zaq,isE]
   cases ZaF s<;>cases decide (n=0)<;>rfl
theorem ZFW:St hand (.mk 23 a s n p l):=by
 have hlen:=Zbl (Zar 25 p (l.map Tree.d))
 refine ⟨ZaF s&&decide (n≤255)&&decide (l.length=0),?_,?_⟩
 · rw [Zah ZqI,Tree.c]
   unfold Zn8
   refine Zag rfl (by decide) (Zag rfl (by decide) (Zag rfl (by decide) (Zag rfl (by decide) (Zag rfl (by decide) (Zag rfl (by decide) (Zag rfl (by decide) (Zag rfl (by decide) (Zag rfl (by decide) (Zbh rfl ?_)))))))))
   simp only [Zad,dv,Ka,Kb,Kc,Kd,Kf,Kg,Kh,Zit,ZdG,Zca,brB,hlen,dn0,Zaq,isE]
   cases ZaF s<;>cases decide (n≤255)<;>rfl
 · rw [Zah Zpt,Tree.c]
   unfold Zn0
   refine Zci hlen (Zag rfl (by decide) (Zag rfl (by decide) (Zag rfl (by decide) (Zag rfl (by decide) (Zag rfl (by decide) (Zag rfl (by decide) (Zag rfl (by decide) (Zag rfl (by decide) (Zag rfl (by decide) (Zag rfl (by decide) (Zag rfl (by decide) (Zbh rfl ?_))))))))))))
   simp only [Zad,dv,Ka,Kb,Kc,Kd,Kf,Kg,Kh,Zit,ZdG,Zca,brB,dn0,Zaq,isE]
   cases ZaF s<;>cases decide (n≤255)<;>rfl
theorem ZA9 (hg:good (.mk k a s n p l)) (h10:k≠10) (h11:k≠11) (h12:k≠12) (h13:k≠13) (h14:k≠14) (h15:k≠15) (h16:k≠16) (h17:k≠17) (h20:k≠20) (h21:k≠21) (h22:k≠22) (h23:k≠23):St hand (.mk k a s n p l):=by
 have h:=Zar 25 p (l.map Tree.d)
 have hlen:=Zbl h
 have h81:=f81 (hand:=hand) k a s n p l hg
 have e81:ZAC (tv hand 119) (tv hand 120) (tv hand 39) k s n l=false:=by
  unfold ZAC
  rw [if_neg h12,if_neg h13,Bool.and_false]
 rw [e81,Tree.c] at h81
 refine ⟨false,?_,?_⟩
 · rw [Zah ZqI,Tree.c]
   unfold Zn8
   refine Zag rfl h10 (Zag rfl h11 (Zag rfl h14 (Zag rfl h15 (Zag rfl h16 (Zag rfl h17 (Zag rfl h20 (Zag rfl h21 (Zag rfl h22 (Zag rfl h23 (?_))))))))))
   simp only [Zad,dv,Ka,Kb,Kc,Kd,Kf,Kg,Kh,h81];rfl
 · rw [Zah Zpt,Tree.c]
   unfold Zn0
   refine Zci hlen (Zag rfl h10 (Zag rfl h11 (Zag rfl h12 (Zag rfl h13 (Zag rfl h14 (Zag rfl h15 (Zag rfl h16 (Zag rfl h17 (Zag rfl h20 (Zag rfl h21 (Zag rfl h22 (Zag rfl h23 (?_)))))))))))))
   simp only [Zad,dv,Ka,Kb,Kc,Kd];rfl
end
section
variable {k a:Int} {s:ByteArray} {n:Int} {p:Option (List D)} {l:List Tree}
set_option maxHeartbeats 4000000 in
theorem ZF1 (hg:good (.mk 16 a s n p l)) (i72:∀ u,u∈l→Both hand 72 4804 u):St hand (.mk 16 a s n p l):=by
 have i39:∀ u,u∈l→Both hand 39 4802 u:=fun u hu=>bEx u (Za0 hg hu).1
 have i80:∀ u,u∈l→Both hand 80 4815 u:=fun u _=>ZEQ u
 have i77:∀ u,u∈l→Both hand 77 4817 u:=fun u hu=>ZFJ u (Za0 hg hu).1
 have i81:∀ u,u∈l→Both hand 81 4816 u:=fun u hu=>Zpd u (Za0 hg hu)
 have h:=Zar 25 p (l.map Tree.d)
 have hlen:=Zbl h
 have h79:=f79 (hand:=hand) 16 a s n (Zav 25 p (l.map Tree.d)) (ZcO hg)
 have h87:=t87 (hand:=hand) s (ZcO hg)
 unfold St
 rw [Zah ZqI,Zah Zpt,Tree.c]
 by_cases h4:l.length=4
 · clear hg
   match l,h4,h,i39,i72,i80,i77,i81,hlen,h79 with
   | [x,y,z,w],_,h,i39,i72,i80,i77,i81,hlen,h79 =>
   have hl:ZcN false (Zav 25 p ([x,y,z,w].map Tree.d))=some (.v (.int .i64 4)):=hlen
   have e4:decide ((4:Int)=4)=true:=rfl
   generalize Zav 25 p ([x,y,z,w].map Tree.d)=d at *
   have b0:Zcp 25 d (.v (.int .i64 0))=true:=ZbP h (i:=0) (by simp)
   have w0_80:=i80 x (by simp)
   have w0_77:=i77 x (by simp)
   have w0_81:=i81 x (by simp)
   have b1:Zcp 25 d (.v (.int .i64 1))=true:=ZbP h (i:=1) (by simp)
   have w1_80:=i80 y (by simp)
   have w1_39:=i39 y (by simp)
   have b2:Zcp 25 d (.v (.int .i64 2))=true:=ZbP h (i:=2) (by simp)
   have w2_80:=i80 z (by simp)
   have w2_81:=i81 z (by simp)
   have b3:Zcp 25 d (.v (.int .i64 3))=true:=ZbP h (i:=3) (by simp)
   have w3_72:=i72 w (by simp)
   obtain ⟨k0,a0,s0,n0,p0,m0⟩:=x
   have g0:=ldN (i:=0) h rfl
   have u0_80:=w0_80.c1
   have v0_80:=w0_80.c2
   have u0_77:=w0_77.c1
   have v0_77:=w0_77.c2
   have u0_81:=w0_81.c1
   have v0_81:=w0_81.c2
   generalize tv hand 80 (Tree.mk k0 a0 s0 n0 p0 m0)=c0_80 at *
   generalize tv hand 77 (Tree.mk k0 a0 s0 n0 p0 m0)=c0_77 at *
   generalize tv hand 81 (Tree.mk k0 a0 s0 n0 p0 m0)=c0_81 at *
   obtain ⟨k1,a1,s1,n1,p1,m1⟩:=y
   have g1:=ldN (i:=1) h rfl
   have u1_80:=w1_80.c1
   have v1_80:=w1_80.c2
   have u1_39:=w1_39.c1
   have v1_39:=w1_39.c2
   generalize tv hand 80 (Tree.mk k1 a1 s1 n1 p1 m1)=c1_80 at *
   generalize tv hand 39 (Tree.mk k1 a1 s1 n1 p1 m1)=c1_39 at *
   obtain ⟨k2,a2,s2,n2,p2,m2⟩:=z
   have g2:=ldN (i:=2) h rfl
   have u2_80:=w2_80.c1
   have v2_80:=w2_80.c2
   have u2_81:=w2_81.c1
   have v2_81:=w2_81.c2
   generalize tv hand 80 (Tree.mk k2 a2 s2 n2 p2 m2)=c2_80 at *
   generalize tv hand 81 (Tree.mk k2 a2 s2 n2 p2 m2)=c2_81 at *
   obtain ⟨k3,a3,s3,n3,p3,m3⟩:=w
   have g3:=ldN (i:=3) h rfl
   have u3_72:=w3_72.c1
   have v3_72:=w3_72.c2
   generalize tv hand 72 (Tree.mk k3 a3 s3 n3 p3 m3)=c3_72 at *
   refine ⟨loP s n&&((c0_80||c0_77||c0_81)&&(c1_80||c1_39)&&(c2_80||c2_81)&&c3_72),?_,?_⟩
   · unfold Zn8
     refine Zag rfl (by decide) (Zag rfl (by decide) (Zag rfl (by decide) (Zag rfl (by decide) (Zbh rfl ?_))))
     simp (config:={ maxSteps:=4000000 }) only [Zad,dv,ixD,Ka,Kb,Kc,Kd,Ke,Kf,Kg,if_true,if_false,Kj,Kh,Ki,ZaR,ZhR,ZkH,ZkG,Zau,Zit,ZdG,ZgB,Zca,Zww,ZcM,brB,cond_true,cond_false,Kk,Bool.not_true,hl,h79,b0,g0,u0_80,u0_77,u0_81,b1,g1,u1_80,u1_39,b2,g2,u2_80,u2_81,b3,g3,u3_72]
     cases loP s n
     · rfl
     cases c0_80<;>cases c0_77<;>cases c0_81<;>cases c1_80<;>cases c1_39<;>cases c2_80<;>cases c2_81<;>cases c3_72<;>rfl
   · unfold Zn0 loP
     refine Zci hl (Zag rfl (by decide) (Zag rfl (by decide) (Zag rfl (by decide) (Zag rfl (by decide) (Zag rfl (by decide) (Zag rfl (by decide) (Zbh rfl ?_)))))))
     simp (config:={ maxSteps:=4000000 }) only [Zad,dv,ixD,Ka,Kb,Kc,Kd,Ke,Kf,Kg,if_true,if_false,Kj,Kh,Ki,ZaR,ZhR,ZkH,ZkG,Zau,Zit,ZdG,ZgB,Zca,Zww,ZcM,brB,cond_true,cond_false,Kk,Bool.not_true,hl,h87,b0,g0,v0_80,v0_77,v0_81,b1,g1,v1_80,v1_39,b2,g2,v2_80,v2_81,b3,g3,v3_72,Zaq,isE]
     cases decide (n=0)
     · rfl
     cases Zbc s
     · cases ZaF s
       · rfl
       cases c0_80<;>cases c0_77<;>cases c0_81<;>cases c1_80<;>cases c1_39<;>cases c2_80<;>cases c2_81<;>cases c3_72<;>rfl
     · cases c0_80<;>cases c0_77<;>cases c0_81<;>cases c1_80<;>cases c1_39<;>cases c2_80<;>cases c2_81<;>cases c3_72<;>rfl
 · have e4:decide ((l.length:Int)=4)=false:=decide_eq_false (by omega)
   refine ⟨false,?_,?_⟩
   · unfold Zn8
     refine Zag rfl (by decide) (Zag rfl (by decide) (Zag rfl (by decide) (Zag rfl (by decide) (Zbh rfl ?_))))
     simp (config:={ maxSteps:=4000000 }) only [Zad,dv,ixD,Ka,Kb,Kc,Kd,Ke,Kf,Kg,if_true,if_false,Kj,Kh,Ki,ZaR,ZhR,ZkH,ZkG,Zau,Zit,ZdG,ZgB,Zca,Zww,ZcM,brB,cond_true,cond_false,Kk,hlen,h79,e4,Bool.not_false]
     cases loP s n<;>rfl
   · unfold Zn0
     refine Zci hlen (Zag rfl (by decide) (Zag rfl (by decide) (Zag rfl (by decide) (Zag rfl (by decide) (Zag rfl (by decide) (Zag rfl (by decide) (Zbh rfl ?_)))))))
     simp (config:={ maxSteps:=4000000 }) only [Zad,dv,ixD,Ka,Kb,Kc,Kd,Ke,Kf,Kg,if_true,if_false,Kj,Kh,Ki,ZaR,ZhR,ZkH,ZkG,Zau,Zit,ZdG,ZgB,Zca,Zww,ZcM,brB,cond_true,cond_false,Kk,h87,e4,Bool.not_false,Zaq,isE]
     cases ZaF s<;>cases Zbc s<;>cases decide (n=0)<;>rfl
end
section
variable {k a:Int} {s:ByteArray} {n:Int} {p:Option (List D)} {l:List Tree}
theorem ZF0 (hg:good (.mk 17 a s n p l)) (i123:∀ u,u∈l→Both hand 123 4811 u) (i72:∀ u,u∈l→Zkw (Both hand 72 4804) u):St hand (.mk 17 a s n p l):=by
 have h82:=f82 hg i123 i72
 have i39:∀ u,u∈l→Both hand 39 4802 u:=fun u hu=>bEx u (Za0 hg hu).1
 have h:=Zar 25 p (l.map Tree.d)
 have h87:=t87 (hand:=hand) s (ZcO hg)
 have hll:=Zb1 hg
 refine ⟨loP s n&&swP (tv hand 39) (tv hand 123) (dP hand) l,?_,?_⟩
 · rw [Tree.c] at h82
   rw [Zah ZqI,Tree.c]
   unfold Zn8
   refine Zag rfl (by decide) (Zag rfl (by decide) (Zag rfl (by decide) (Zag rfl (by decide) (Zag rfl (by decide) (Zbh rfl ?_)))))
   simp only [Zad,dv,Ka,Kb,Kc,Kd,Kf,Kg,Kh,h82];rfl
 · rw [Zah Zpt,Tree.c]
   unfold Zn0 loP
   clear h82 hg
   match l,hll,h,i39,i123,i72 with
   | [],hll,h,i39,i123,i72 =>
    have hlen:ZcN false (Zav 25 p [])=some (.v (.int .i64 0)):=Zbl h
    have e1:decide ((0:Int)<1)=true:=rfl
    refine Zci hlen (Zag rfl (by decide) (Zag rfl (by decide) (Zag rfl (by decide) (Zag rfl (by decide) (Zag rfl (by decide) (Zag rfl (by decide) (Zag rfl (by decide) (Zbh rfl ?_))))))))
    simp only [Zad,dv,ixD,Ka,Kb,Kc,Kd,Ke,Kf,Kg,if_true,Kh,Zau,Zca,ZcM,brB,h87,Zlg,e1,Zaq,isE]
    cases ZaF s<;>cases Zbc s<;>cases decide (n=0)<;>rfl
   | x::m,hll,h,i39,i123,i72 =>
    have hlen:ZcN false (Zav 25 p ((x::m).map Tree.d))=some (.v (.int .i64 ((m.length+1:Nat):Int))):=Zbl h
    have q1:=ZDu (hand:=hand) h hll (fun u hu=>i123 u (List.mem_cons_of_mem _ hu)) (fun u hu=>i72 u (List.mem_cons_of_mem _ hu))
    have q2:=ZDt (hand:=hand) h hll (fun u hu=>i123 u (List.mem_cons_of_mem _ hu)) (fun u hu=>i72 u (List.mem_cons_of_mem _ hu))
    have e1:decide (((m.length+1:Nat):Int)<1)=false:=decide_eq_false (by omega)
    show _=some (0,[D.v (.bool (decide (n=0)&&(Zbc s||ZaF s)&&(tv hand 39 x&&swM (tv hand 123) (dP hand) m)))])
    generalize swM (tv hand 123) (dP hand) m=M at *
    have b0:Zcp 25 (Zav 25 p ((x::m).map Tree.d)) (.v (.int .i64 0))=true:=ZbP h (i:=0) (by simp)
    have w0:=i39 x (by simp)
    generalize Zav 25 p ((x::m).map Tree.d)=d at *
    obtain ⟨k0,a0,s0,n0,p0,m0⟩:=x
    have g0:=ldN (i:=0) h rfl
    have v0:=w0.c2
    generalize tv hand 39 (Tree.mk k0 a0 s0 n0 p0 m0)=c at *
    refine Zci hlen (Zag rfl (by decide) (Zag rfl (by decide) (Zag rfl (by decide) (Zag rfl (by decide) (Zag rfl (by decide) (Zag rfl (by decide) (Zag rfl (by decide) (Zbh rfl ?_))))))))
    simp only [Zad,dv,ixD,Ka,Kb,Kc,Kd,Ke,Kf,Kg,if_false,Kj,Kh,Zau,Zca,ZcM,brB,cond_true,h87,Zlg,e1,b0,g0,v0,q1,q2,Zaq,isE]
    cases ZaF s<;>cases Zbc s<;>cases decide (n=0)<;>cases c<;>cases M<;>rfl
end
def Gd (hand:Zd3) (t:Tree):Prop:=Both hand 41 4803 t∧Both hand 72 4804 t∧Both hand 78 4814 t∧Both hand 123 4811 t∧Zkw (Both hand 72 4804) t
theorem ZFK:∀ t:Tree,good t→Gd hand t:=by
 apply Tree.ind
 intro k a s n p l ih hg
 have ih':∀ u,u∈l→Gd hand u:=fun u hu=>ih u hu (Za0 hg hu)
 have i72:∀ u,u∈l→Both hand 72 4804 u:=fun u hu=>(ih' u hu).2.1
 have i78:∀ u,u∈l→Both hand 78 4814 u:=fun u hu=>(ih' u hu).2.2.1
 have i123:∀ u,u∈l→Both hand 123 4811 u:=fun u hu=>(ih' u hu).2.2.2.1
 have ik:∀ u,u∈l→Zkw (Both hand 72 4804) u:=fun u hu=>(ih' u hu).2.2.2.2
 have b72:=ZGM hg fun u hu=>(ih' u hu).1
 have b78:=bIf hg i72 i78
 have b123:=ZER hg i72
 refine ⟨?_,b72,b78,b123,i72⟩
 have hst:St hand (.mk k a s n p l):=by
  by_cases h10:k=10
  · subst h10;exact ZF7 b72
  by_cases h11:k=11
  · subst h11;exact ZF6 (ZFJ _ hg.1)
  by_cases h12:k=12
  · subst h12;exact ZF5 (Zpd _ hg)
  by_cases h13:k=13
  · subst h13;exact ZF4 (Zpd _ hg)
  by_cases h14:k=14
  · subst h14;exact ZF3 b78
  by_cases h15:k=15
  · subst h15;exact ZF2 hg i72
  by_cases h16:k=16
  · subst h16;exact ZF1 hg i72
  by_cases h17:k=17
  · subst h17;exact ZF0 hg i123 ik
  by_cases h20:k=20
  · subst h20;exact ZFZ (ZcO hg)
  by_cases h21:k=21
  · subst h21;exact ZFY (ZcO hg)
  by_cases h22:k=22
  · subst h22;exact ZFX hg
  by_cases h23:k=23
  · subst h23;exact ZFW
  exact ZA9 hg h10 h11 h12 h13 h14 h15 h16 h17 h20 h21 h22 h23
 obtain ⟨b,h1,h2⟩:=hst
 exact ZbO h1 (ZEA _ h2) rfl
theorem ZA1 {l:List Tree} {d:D} (h:KG 25 (l.map Tree.d) d) (hl:l.length<140737488355328) (ih:∀ t,t∈l→Ok hand 11601 t):ML prg hand 6701 [d]=some (0,[.v (.bool (l.all (tv hand 11601)))]):=by
 rw [Zah ZBj]
 unfold ZwL
 simp only [Zad,dv,Ka,Kb,Kc,Kd,Kf,Kh,Zbl h]
 refine (congrArg Zdd (Zct (tv hand 11601) l (fun i a hi ha=>?_) ?_)).trans rfl
 · have r1:=ih a (List.mem_of_getElem? ha)
   cases a with
   | mk k' a' s' n' p' m' =>
   have r2:=r1.c
   unfold Zi8
   simp only [Zad,dv,ixD,Ka,Kb,Kc,Kd,Ke,Kf,Kg,if_true,Kh,Ki,ZcM,brB,cond_true,Kk,ltY hi,ZbP h hi,ldN h ha,r2,Ziu (Nat.lt_trans hi hl)]
   exact Zq7 _ _ _
 · unfold Zi8
   simp only [Zad,dv,ixD,Ka,Kb,Kc,Kd,Ke,Kf,Kg,if_false,Kj,Kh,Ki,brB,Kk,ltN]
section
variable {k a:Int} {s:ByteArray} {n:Int} {p:Option (List D)} {l:List Tree}
theorem ZCy (hg:good (.mk k a s n p l)):Both hand 11601 4805 (.mk k a s n p l):=by
 have i40:∀ u,u∈l→Both hand 40 4801 u:=fun u hu=>bTy u (Za0 hg hu).1
 have h:=Zar 25 p (l.map Tree.d)
 have hlen:=Zbl h
 have h63:=t63 (hand:=hand) k a s n (Zav 25 p (l.map Tree.d)) (ZcO hg)
 have h87:=t87 (hand:=hand) s (ZcO hg)
 have h65:=ZA6 k a s n h fun u hu=>(i40 u hu).1
 refine ZbO (b:=decide (k=3)&&Zbc s&&decide (n=0)&&(decide (l.length=1)&&l.all (tv hand 40))) (c:=decide (k=3)&&Zbc s&&decide (n=0)&&(decide (l.length=1)&&l.all (tv hand 40))) ?_ ?_ rfl
 · rw [Zah Zyb,Tree.c]
   unfold Zso
   simp only [Zad,dv,Ka,Kb,Kc,Kd,Kf,Kg,Kh,ZaR,brB,h63,h65]
   cases decide (k=3)<;>cases Zbc s<;>cases decide (n=0)<;>rfl
 · rw [Zah Zxg,Tree.c]
   unfold Zsd
   by_cases hm:l.length=1
   · match l,hm,h,i40,hlen with
     | [x],_,h,i40,hlen =>
     have hl:ZcN false (Zav 25 p ([x].map Tree.d))=some (.v (.int .i64 1)):=hlen
     have b0:Zcp 25 (Zav 25 p ([x].map Tree.d)) (.v (.int .i64 0))=true:=ZbP h (i:=0) (by simp)
     have w0:=i40 x (by simp)
     simp only [List.length_cons,List.length_nil,Nat.zero_add,Kl,Bool.true_and,List.all_cons,List.all_nil,Bool.and_true]
     generalize Zav 25 p ([x].map Tree.d)=d at *
     obtain ⟨k0,a0,s0,n0,p0,m0⟩:=x
     have g0:=ldN (i:=0) h rfl
     have v0:=w0.c2
     simp only [Zad,dv,ixD,Ka,Kb,Kc,Kd,Ke,Kf,Kg,if_true,Kh,ZaR,Zau,ZdG,brB,cond_true,hl,h87,b0,g0,v0,Kl]
     cases decide (k=3)<;>cases Zbc s<;>cases decide (n=0)<;>rfl
   · have e1:decide ((l.length:Int)=1)=false:=decide_eq_false (by omega)
     rw [decide_eq_false hm]
     simp only [Zad,dv,ixD,Ka,Kb,Kc,Kd,Ke,Kf,Kg,if_false,Kj,Kh,ZaR,Zau,ZdG,brB,hlen,h87,e1]
     cases decide (k=3)<;>cases Zbc s<;>cases decide (n=0)<;>rfl
theorem ZnT (hg:good (.mk k a s n p l)):∀ u,u∈l→Both hand 11601 4805 u:=fun u hu=>by
 have:=Za0 hg hu
 obtain ⟨k',a',s',n',p',m'⟩:=u
 exact ZCy this
theorem ZGH (hg:good (.mk k a s n p l)):Both hand 11602 4806 (.mk k a s n p l):=by
 have ik:∀ u,u∈l→Both hand 11601 4805 u:=ZnT hg
 have h:=Zar 25 p (l.map Tree.d)
 have hlen:=Zbl h
 have h63:=t63 (hand:=hand) k a s n (Zav 25 p (l.map Tree.d)) (ZcO hg)
 have h87:=t87 (hand:=hand) s (ZcO hg)
 have h1:=ZA1 h (Zb1 hg) fun u hu=>(ik u hu).1
 have h2:=ZAZ h (Zb1 hg) fun u hu=>(ik u hu).2.1
 rw [Zhl ik] at h2
 refine ZbO (b:=decide (k=2)&&Zbc s&&decide (n=0)&&l.all (tv hand 11601)) (c:=decide (k=2)&&Zbc s&&decide (n=0)&&l.all (tv hand 11601)) ?_ ?_ rfl
 · rw [Zah Zya,Tree.c]
   unfold Zsn
   simp only [Zad,dv,Ka,Kb,Kc,Kd,Kf,Kg,Kh,ZaR,brB,h63,h1]
   cases decide (k=2)<;>cases Zbc s<;>cases decide (n=0)<;>rfl
 · rw [Zah Zxf,Tree.c]
   unfold Zsc
   simp only [Zad,dv,Ka,Kb,Kc,Kd,Kf,Kg,Kh,ZaR,Zau,brB,hlen,h87,h2]
   cases decide (k=2)<;>cases Zbc s<;>cases decide (n=0)<;>rfl
theorem ZGJ (hg:good (.mk k a s n p l)):Both hand 11603 4821 (.mk k a s n p l):=by
 have ik:∀ u,u∈l→Both hand 11601 4805 u:=ZnT hg
 have h:=Zar 25 p (l.map Tree.d)
 have hlen:=Zbl h
 have h63:=t63 (hand:=hand) k a s n (Zav 25 p (l.map Tree.d)) (ZcO hg)
 have h87:=t87 (hand:=hand) s (ZcO hg)
 have h1:=ZA1 h (Zb1 hg) fun u hu=>(ik u hu).1
 have h2:=ZAZ h (Zb1 hg) fun u hu=>(ik u hu).2.1
 rw [Zhl ik] at h2
 refine ZbO (b:=decide (k=5)&&ZaF s&&decide (n=0)&&l.all (tv hand 11601)) (c:=decide (k=5)&&ZaF s&&decide (n=0)&&l.all (tv hand 11601)) ?_ ?_ rfl
 · rw [Zah Zx9,Tree.c]
   unfold Zsm
   simp only [Zad,dv,Ka,Kb,Kc,Kd,Kf,Kg,Kh,ZaR,Zau,Zca,brB,Zaq,isE,h1]
   cases decide (k=5)<;>cases ZaF s<;>cases decide (n=0)<;>rfl
 · rw [Zah Zw2,Tree.c]
   unfold ZrZ
   simp only [Zad,dv,Ka,Kb,Kc,Kd,Kf,Kg,Kh,ZaR,Zau,Zca,brB,hlen,Zaq,isE,h2]
   cases decide (k=5)<;>cases ZaF s<;>cases decide (n=0)<;>rfl
theorem ZGG (hg:good (.mk k a s n p l)):Both hand 11604 4820 (.mk k a s n p l):=by
 have ik:∀ u,u∈l→Both hand 40 4801 u:=fun u hu=>bTy u (Za0 hg hu).1
 have h:=Zar 25 p (l.map Tree.d)
 have hlen:=Zbl h
 have h63:=t63 (hand:=hand) k a s n (Zav 25 p (l.map Tree.d)) (ZcO hg)
 have h87:=t87 (hand:=hand) s (ZcO hg)
 have h1:=ZDo h (Zb1 hg) fun u hu=>(ik u hu).1
 have h2:=ZDm h (Zb1 hg) fun u hu=>(ik u hu).2.1
 rw [Zhl ik] at h2
 refine ZbO (b:=decide (k=6)&&ZaF s&&decide (n=0)&&l.all (tv hand 40)) (c:=decide (k=6)&&ZaF s&&decide (n=0)&&l.all (tv hand 40)) ?_ ?_ rfl
 · rw [Zah Zx8,Tree.c]
   unfold Zsl
   simp only [Zad,dv,Ka,Kb,Kc,Kd,Kf,Kg,Kh,ZaR,Zau,Zca,brB,Zaq,isE,h1]
   cases decide (k=6)<;>cases ZaF s<;>cases decide (n=0)<;>rfl
 · rw [Zah Zw3,Tree.c]
   unfold Zr0
   simp only [Zad,dv,Ka,Kb,Kc,Kd,Kf,Kg,Kh,ZaR,Zau,Zca,brB,hlen,Zaq,isE,h2]
   cases decide (k=6)<;>cases ZaF s<;>cases decide (n=0)<;>rfl
theorem ZjF {P:Tree→Prop} (h:∀ k a s n p l,good (.mk k a s n p l)→P (.mk k a s n p l)) (t:Tree) (hg:good t):P t:=by
 obtain ⟨k,a,s,n,p,l⟩:=t
 exact h k a s n p l hg
def fnP (P T B:Tree→Bool):List Tree→Bool
 | [x,y,z]=>P x&&T y&&B z
 | _=>false
theorem ZCc (P T B:Tree→Bool) (x y z:Tree):fnP P T B [x,y,z]=(P x&&T y&&B z):=rfl
theorem ZxC {P T B:Tree→Bool} {l:List Tree} (h:l.length≠3):fnP P T B l=false:=by
 unfold fnP
 split
 · exact absurd rfl h
 · rfl
theorem ZGK (hg:good (.mk k a s n p l)):Both hand 11605 4807 (.mk k a s n p l):=by
 have i1:∀ u,u∈l→Both hand 11603 4821 u:=fun u hu=>ZjF (P:=Both hand 11603 4821) (fun _ _ _ _ _ _ h=>ZGJ h) u (Za0 hg hu)
 have i2:∀ u,u∈l→Both hand 11604 4820 u:=fun u hu=>ZjF (P:=Both hand 11604 4820) (fun _ _ _ _ _ _ h=>ZGG h) u (Za0 hg hu)
 have i3:∀ u,u∈l→Both hand 72 4804 u:=fun u hu=>(ZFK u (Za0 hg hu)).2.1
 have h:=Zar 25 p (l.map Tree.d)
 have hlen:=Zbl h
 have h63:=t63 (hand:=hand) k a s n (Zav 25 p (l.map Tree.d)) (ZcO hg)
 have h87:=t87 (hand:=hand) s (ZcO hg)
 clear hg
 refine ZbO (b:=decide (k=4)&&Zbc s&&decide (n=0)&&fnP (tv hand 11603) (tv hand 11604) (tv hand 72) l) (c:=decide (k=4)&&Zbc s&&decide (n=0)&&fnP (tv hand 11603) (tv hand 11604) (tv hand 72) l) ?_ ?_ rfl
 · rw [Zah Zx7,Tree.c]
   unfold Zsk
   by_cases h3:l.length=3
   · match l,h3,h,i1,i2,i3,hlen,h63 with
     | [x,y,z],_,h,i1,i2,i3,hlen,h63 =>
     have hl:ZcN false (Zav 25 p ([x,y,z].map Tree.d))=some (.v (.int .i64 3)):=hlen
     rw [ZCc]
     generalize Zav 25 p ([x,y,z].map Tree.d)=d at *
     have b0:Zcp 25 d (.v (.int .i64 0))=true:=ZbP h (i:=0) (by simp)
     have w0_11603:=i1 x (by simp)
     have b1:Zcp 25 d (.v (.int .i64 1))=true:=ZbP h (i:=1) (by simp)
     have w1_11604:=i2 y (by simp)
     have b2:Zcp 25 d (.v (.int .i64 2))=true:=ZbP h (i:=2) (by simp)
     have w2_72:=i3 z (by simp)
     obtain ⟨k0,a0,s0,n0,p0,m0⟩:=x
     have g0:=ldN (i:=0) h rfl
     have u0_11603:=w0_11603.c1
     have v0_11603:=w0_11603.c2
     generalize tv hand 11603 (Tree.mk k0 a0 s0 n0 p0 m0)=c0_11603 at *
     obtain ⟨k1,a1,s1,n1,p1,m1⟩:=y
     have g1:=ldN (i:=1) h rfl
     have u1_11604:=w1_11604.c1
     have v1_11604:=w1_11604.c2
     generalize tv hand 11604 (Tree.mk k1 a1 s1 n1 p1 m1)=c1_11604 at *
     obtain ⟨k2,a2,s2,n2,p2,m2⟩:=z
     have g2:=ldN (i:=2) h rfl
     have u2_72:=w2_72.c1
     have v2_72:=w2_72.c2
     generalize tv hand 72 (Tree.mk k2 a2 s2 n2 p2 m2)=c2_72 at *
     have e3:decide ((3:Int)=3)=true:=rfl
     simp only [Zad,dv,ixD,Ka,Kb,Kc,Kd,Ke,Kf,Kg,Kh,ZaR,ZgB,ZcM,brB,cond_true,hl,h63,b0,g0,u0_11603,b1,g1,u1_11604,b2,g2,u2_72]
     cases decide (k=4)<;>cases Zbc s<;>cases decide (n=0)<;>cases c0_11603<;>cases c1_11604<;>cases c2_72<;>rfl
   · have e3:decide ((l.length:Int)=3)=false:=decide_eq_false (by omega)
     rw [ZxC h3]
     simp only [Zad,dv,ixD,Ka,Kb,Kc,Kd,Ke,Kf,Kg,if_true,Kh,ZaR,ZgB,brB,hlen,h63,e3,Bool.not_false]
     cases decide (k=4)<;>cases Zbc s<;>cases decide (n=0)<;>rfl
 · rw [Zah Zxe,Tree.c]
   unfold Zsb
   by_cases h3:l.length=3
   · match l,h3,h,i1,i2,i3,hlen,h63 with
     | [x,y,z],_,h,i1,i2,i3,hlen,h63 =>
     have hl:ZcN false (Zav 25 p ([x,y,z].map Tree.d))=some (.v (.int .i64 3)):=hlen
     rw [ZCc]
     generalize Zav 25 p ([x,y,z].map Tree.d)=d at *
     have b0:Zcp 25 d (.v (.int .i64 0))=true:=ZbP h (i:=0) (by simp)
     have w0_11603:=i1 x (by simp)
     have b1:Zcp 25 d (.v (.int .i64 1))=true:=ZbP h (i:=1) (by simp)
     have w1_11604:=i2 y (by simp)
     have b2:Zcp 25 d (.v (.int .i64 2))=true:=ZbP h (i:=2) (by simp)
     have w2_72:=i3 z (by simp)
     obtain ⟨k0,a0,s0,n0,p0,m0⟩:=x
     have g0:=ldN (i:=0) h rfl
     have u0_11603:=w0_11603.c1
     have v0_11603:=w0_11603.c2
     generalize tv hand 11603 (Tree.mk k0 a0 s0 n0 p0 m0)=c0_11603 at *
     obtain ⟨k1,a1,s1,n1,p1,m1⟩:=y
     have g1:=ldN (i:=1) h rfl
     have u1_11604:=w1_11604.c1
     have v1_11604:=w1_11604.c2
     generalize tv hand 11604 (Tree.mk k1 a1 s1 n1 p1 m1)=c1_11604 at *
     obtain ⟨k2,a2,s2,n2,p2,m2⟩:=z
     have g2:=ldN (i:=2) h rfl
     have u2_72:=w2_72.c1
     have v2_72:=w2_72.c2
     generalize tv hand 72 (Tree.mk k2 a2 s2 n2 p2 m2)=c2_72 at *
     have e3:decide ((3:Int)=3)=true:=rfl
     simp only [Zad,dv,ixD,Ka,Kb,Kc,Kd,Ke,Kf,Kg,Kh,ZaR,Zau,ZdG,brB,cond_true,hl,h87,b0,g0,v0_11603,b1,g1,v1_11604,b2,g2,v2_72]
     cases decide (k=4)<;>cases Zbc s<;>cases decide (n=0)<;>cases c0_11603<;>cases c1_11604<;>cases c2_72<;>rfl
   · have e3:decide ((l.length:Int)=3)=false:=decide_eq_false (by omega)
     rw [ZxC h3]
     simp only [Zad,dv,ixD,Ka,Kb,Kc,Kd,Ke,Kf,Kg,if_false,Kj,Kh,ZaR,Zau,ZdG,brB,hlen,h87,e3]
     cases decide (k=4)<;>cases Zbc s<;>cases decide (n=0)<;>rfl
theorem ZGI (hg:good (.mk k a s n p l)):Both hand 38 4808 (.mk k a s n p l):=by
 have i1:∀ u,u∈l→Both hand 11602 4806 u:=fun u hu=>ZjF (P:=Both hand 11602 4806) (fun _ _ _ _ _ _ h=>ZGH h) u (Za0 hg hu)
 have i2:∀ u,u∈l→Both hand 11605 4807 u:=fun u hu=>ZjF (P:=Both hand 11605 4807) (fun _ _ _ _ _ _ h=>ZGK h) u (Za0 hg hu)
 have h:=Zar 25 p (l.map Tree.d)
 have hlen:=Zbl h
 have hl:=Zb1 hg
 clear hg
 generalize hd:Zav 25 p (l.map Tree.d)=d at *
 have key:∀ z5 z6 z7:D,ZbJ (fun v=>Zad theTabs (ML prg hand) Zlo (.v (.int .u8 k)::.v (.int .i64 a)::.v (.string s)::.v (.int .u64 n)::d::z5::z6::z7::.v (.int .i64 (l.length:Int))::v)) [.v (.int .i64 0)]=some (.fin 0 [.v (.bool (l.all fun u=>tv hand 11602 u||tv hand 11605 u))]):=by
  intro z5 z6 z7
  refine Zct (fun u=>tv hand 11602 u||tv hand 11605 u) l (fun i u hi hu=>?_) ?_
  · have w1:=i1 u (List.mem_of_getElem? hu)
    have w2:=i2 u (List.mem_of_getElem? hu)
    obtain ⟨k',a',s',n',p',m'⟩:=u
    have u1:=w1.c1
    have u2:=w2.c1
    unfold Zlo
    simp only [Zad,dv,ixD,Ka,Kb,Kc,Kd,Ke,Kf,Kg,if_true,Kh,Ki,brB,cond_true,Kk,ltY hi,ZbP h hi,ldN h hu,u1,u2,Ziu (Nat.lt_trans hi hl)]
    cases tv hand 11602 (Tree.mk k' a' s' n' p' m')<;>cases tv hand 11605 (Tree.mk k' a' s' n' p' m')<;>rfl
  · unfold Zlo
    simp only [Zad,dv,ixD,Ka,Kb,Kc,Kd,Ke,Kf,Kg,if_false,Kj,Kh,Ki,brB,Kk,ltN]
 have key2:ZbJ (fun v=>Zad theTabs (ML prg hand) ZeZ (.v (.int .u8 k)::.v (.int .i64 a)::.v (.string s)::.v (.int .u64 n)::d::.v (.int .i64 (l.length:Int))::v)) [.v (.int .i64 0)]=some (.fin 0 [.v (.bool ((l.all fun u=>tv hand 11602 u||tv hand 11605 u)&&(decide (k=1)&&ZaF s&&decide (n=0))))]):=by
  have:=Zdz (f:=fun v=>Zad theTabs (ML prg hand) ZeZ (.v (.int .u8 k)::.v (.int .i64 a)::.v (.string s)::.v (.int .u64 n)::d::.v (.int .i64 (l.length:Int))::v)) (oF:=.fin 0 [.v (.bool false)]) (oT:=.fin 0 [.v (.bool (decide (k=1)&&ZaF s&&decide (n=0)))]) l (fun u=>tv hand 11602 u||tv hand 11605 u) (fun i=>[.v (.int .i64 (i:Int))]) (fun i u hu=>?_) ?_
  · refine this.trans ?_
    cases (l.all fun u=>tv hand 11602 u||tv hand 11605 u)<;>rfl
  · have hi:=(List.getElem?_eq_some_iff.1 hu).1
    have w1:=i1 u (List.mem_of_getElem? hu)
    have w2:=i2 u (List.mem_of_getElem? hu)
    obtain ⟨k',a',s',n',p',m'⟩:=u
    have v1:=w1.c2
    have v2:=w2.c2
    unfold ZeZ
    simp only [Zad,dv,ixD,Ka,Kb,Kc,Kd,Ke,Kf,Kg,if_true,Kh,Ki,ZaR,Zau,Zca,ZcM,brB,cond_true,Kk,ltY hi,ZbP h hi,ldN h hu,v1,v2,Ziu (Nat.lt_trans hi hl)]
    cases tv hand 11602 (Tree.mk k' a' s' n' p' m')<;>cases tv hand 11605 (Tree.mk k' a' s' n' p' m')<;>rfl
  · unfold ZeZ
    simp only [Zad,dv,ixD,Ka,Kb,Kc,Kd,Ke,Kf,Kg,if_false,Kj,Kh,Ki,ZaR,Zau,Zca,brB,Kk,ltN,Zaq,isE]
    cases decide (k=1)<;>cases ZaF s<;>cases decide (n=0)<;>rfl
 generalize (l.all fun u=>tv hand 11602 u||tv hand 11605 u)=R at *
 refine ZbO (b:=R&&(decide (k=1)&&ZaF s&&decide (n=0))) (c:=R&&(decide (k=1)&&ZaF s&&decide (n=0))) ?_ ?_ rfl
 · rw [Zah ZGj,Tree.c,hd]
   unfold ZFd
   simp only [Zad,dv,Ka,Kb,Kc,Kd,Kf,Kg,Kh,ZaR,Zau,Zca,brB,hlen,key,Zaq,isE]
   cases R<;>cases decide (k=1)<;>cases ZaF s<;>cases decide (n=0)<;>rfl
 · rw [Zah Zxd,Tree.c,hd]
   unfold Zsa
   simp only [Zad,dv,Ka,Kb,Kc,Kd,Kf,Kg,Kh,hlen,key2];rfl
end
noncomputable def ZAM (hand:Zd3) (t:Tree):Int:=if t.num≤65536 then (if tv hand 38 t||tv hand 39 t||tv hand 40 t||tv hand 41 t then 0 else 50) else 3
theorem ZCz (t:Tree) (hg:good t):ML prg hand 21 t.cells=some (0,[.v (.int .i64 (ZAM hand t))])∧ML prg hand 25 t.cells=some (0,[.v (.int .i64 (ZAM hand t))]):=by
 have h37:=t37 (hand:=hand) t hg.1 65536 (by omega)
 have h47:=t47 (hand:=hand) t hg.1
 have c1:=bEx (hand:=hand) t hg.1
 have c2:=bTy (hand:=hand) t hg.1
 have c3:=(ZFK (hand:=hand) t hg).1
 have c0:Both hand 38 4808 t:=ZjF (P:=Both hand 38 4808) (fun _ _ _ _ _ _ h=>ZGI h) t hg
 unfold ZAM
 generalize t.num=N at *
 obtain ⟨k,a,s,n,p,l⟩:=t
 have u0:=c0.c1;have v0:=c0.c2
 have u1:=c1.c1;have v1:=c1.c2
 have u2:=c2.c1;have v2:=c2.c2
 have u3:=c3.c1;have v3:=c3.c2
 generalize tv hand 38 (Tree.mk k a s n p l)=q0 at *
 generalize tv hand 39 (Tree.mk k a s n p l)=q1 at *
 generalize tv hand 40 (Tree.mk k a s n p l)=q2 at *
 generalize tv hand 41 (Tree.mk k a s n p l)=q3 at *
 rw [Tree.c] at h37 h47
 simp only [Kc,Kd] at h37
 rw [show ((65536:Nat):Int)=65536 from rfl,show 65536+1=65537 from rfl] at h37
 have e1:decide (((min N 65537:Nat):Int) > 65536) = !decide (N≤65536):=by rw [←decide_not];exact decide_eq_decide.2 (by omega)
 have fin:∀ b,(if N≤65536 then (if b=true then (0:Int) else 50) else 3)=if decide (N≤65536)=true then (if b=true then 0 else 50) else 3:=fun b=>by by_cases h:N≤65536<;>simp [h]
 rw [fin,Zah ZGl,Zah ZFt,Tree.c]
 constructor
 · unfold ZFf
   simp only [Zad,dv,Ka,Kb,Kc,Kd,Ke,Kf,Kg,Kh,ZcM,brB,h37,ZrD,e1,u0,u1,u2,u3]
   cases decide (N≤65536)<;>cases q0<;>cases q1<;>cases q2<;>cases q3<;>rfl
 · unfold ZDg
   simp only [Zad,dv,Ka,Kb,Kc,Kd,Ke,Kf,Kg,Kh,ZcM,brB,h47,ZrD,e1,v0,v1,v2,v3]
   cases decide (N≤65536)<;>cases q0<;>cases q1<;>cases q2<;>cases q3<;>rfl
def Zd2 (j:Nat):Bool:=[25,47,85,87,89,90,94,95,96,125,126,127,4801,4802,4803,4804,4805,4806,4807,4808,4809,4810,4811,4812,4813,4814,4815,4816,4817,4818,4819,4820,4821,9101,9102,9103,9105,9110,9113].contains j
theorem ZD9:okT theTabs Zd2 ZDg=true:=by kernel_rfl
theorem ZD8:okT theTabs Zd2 ZDe=true:=by kernel_rfl
theorem ZD7:okT theTabs Zd2 ZE4=true:=by kernel_rfl
theorem ZD6:okT theTabs Zd2 ZDc=true:=by kernel_rfl
theorem ZD5:okT theTabs Zd2 ZCJ=true:=by kernel_rfl
theorem ZD4:okT theTabs Zd2 Zn0=true:=by kernel_rfl
theorem ZD3:okT theTabs Zd2 ZDb=true:=by kernel_rfl
theorem ZD2:okT theTabs Zd2 ZxS=true:=by kernel_rfl
theorem ZD1:okT theTabs Zd2 ZDa=true:=by kernel_rfl
theorem ZBH:okT theTabs Zd2 ZxU=true:=by kernel_rfl
theorem ZBG:okT theTabs Zd2 ZAV=true:=by kernel_rfl
theorem ZBF:okT theTabs Zd2 ZxT=true:=by kernel_rfl
theorem Zy8:okT theTabs Zd2 Zsh=true:=by kernel_rfl
theorem Zy7:okT theTabs Zd2 Zsg=true:=by kernel_rfl
theorem Zy6:okT theTabs Zd2 Zsf=true:=by kernel_rfl
theorem Zy5:okT theTabs Zd2 Zse=true:=by kernel_rfl
theorem Zy4:okT theTabs Zd2 Zsd=true:=by kernel_rfl
theorem Zy3:okT theTabs Zd2 Zsc=true:=by kernel_rfl
theorem Zy2:okT theTabs Zd2 Zsb=true:=by kernel_rfl
theorem Zy1:okT theTabs Zd2 Zsa=true:=by kernel_rfl
theorem Zy0:okT theTabs Zd2 Zr9=true:=by kernel_rfl
theorem ZyZ:okT theTabs Zd2 Zr8=true:=by kernel_rfl
theorem ZyY:okT theTabs Zd2 Zpl=true:=by kernel_rfl
theorem ZyX:okT theTabs Zd2 Zr7=true:=by kernel_rfl
theorem ZyW:okT theTabs Zd2 Zr6=true:=by kernel_rfl
theorem ZyV:okT theTabs Zd2 Zr5=true:=by kernel_rfl
theorem ZyU:okT theTabs Zd2 Zr4=true:=by kernel_rfl
theorem ZyT:okT theTabs Zd2 Zr3=true:=by kernel_rfl
theorem ZyS:okT theTabs Zd2 Zpk=true:=by kernel_rfl
theorem ZyR:okT theTabs Zd2 Zr2=true:=by kernel_rfl
theorem ZyQ:okT theTabs Zd2 Zr1=true:=by kernel_rfl
theorem ZyP:okT theTabs Zd2 Zr0=true:=by kernel_rfl
theorem ZyO:okT theTabs Zd2 ZrZ=true:=by kernel_rfl
theorem ZyN:okT theTabs Zd2 ZrY=true:=by kernel_rfl
theorem ZyM:okT theTabs Zd2 ZrX=true:=by kernel_rfl
theorem ZyL:okT theTabs Zd2 ZrW=true:=by kernel_rfl
theorem ZyK:okT theTabs Zd2 ZrV=true:=by kernel_rfl
theorem ZyJ:okT theTabs Zd2 ZrU=true:=by kernel_rfl
theorem ZyI:okT theTabs Zd2 ZrT=true:=by kernel_rfl
theorem Zyc:∀ j,Zd2 j=true→∃ t,(Zam prg.eng j).map (Zbr prg.cfg)=some t∧okT prg.T Zd2 t=true:=by
 intro j h
 have h':j∈[25,47,85,87,89,90,94,95,96,125,126,127,4801,4802,4803,4804,4805,4806,4807,4808,4809,4810,4811,4812,4813,4814,4815,4816,4817,4818,4819,4820,4821,9101,9102,9103,9105,9110,9113]:=by unfold Zd2 at h;exact List.contains_iff_mem.1 h
 simp only [List.mem_cons,List.not_mem_nil,or_false] at h'
 rcases h' with rfl | rfl | rfl | rfl | rfl | rfl | rfl | rfl | rfl | rfl | rfl | rfl | rfl | rfl | rfl | rfl | rfl | rfl | rfl | rfl | rfl | rfl | rfl | rfl | rfl | rfl | rfl | rfl | rfl | rfl | rfl | rfl | rfl | rfl | rfl | rfl | rfl | rfl | rfl
 · exact ⟨_,ZFt,ZD9⟩
 · exact ⟨_,ZFr,ZD8⟩
 · exact ⟨_,ZFp,ZD7⟩
 · exact ⟨_,ZFo,ZD6⟩
 · exact ⟨_,ZDx,ZD5⟩
 · exact ⟨_,Zpt,ZD4⟩
 · exact ⟨_,ZFn,ZD3⟩
 · exact ⟨_,ZFm,ZD2⟩
 · exact ⟨_,ZFl,ZD1⟩
 · exact ⟨_,ZBu,ZBH⟩
 · exact ⟨_,ZBt,ZBG⟩
 · exact ⟨_,ZBs,ZBF⟩
 · exact ⟨_,Zxk,Zy8⟩
 · exact ⟨_,Zxj,Zy7⟩
 · exact ⟨_,Zxi,Zy6⟩
 · exact ⟨_,Zxh,Zy5⟩
 · exact ⟨_,Zxg,Zy4⟩
 · exact ⟨_,Zxf,Zy3⟩
 · exact ⟨_,Zxe,Zy2⟩
 · exact ⟨_,Zxd,Zy1⟩
 · exact ⟨_,Zxc,Zy0⟩
 · exact ⟨_,Zxb,ZyZ⟩
 · exact ⟨_,ZsK,ZyY⟩
 · exact ⟨_,Zxa,ZyX⟩
 · exact ⟨_,Zw9,ZyW⟩
 · exact ⟨_,Zw8,ZyV⟩
 · exact ⟨_,Zw7,ZyU⟩
 · exact ⟨_,Zw6,ZyT⟩
 · exact ⟨_,ZsJ,ZyS⟩
 · exact ⟨_,Zw5,ZyR⟩
 · exact ⟨_,Zw4,ZyQ⟩
 · exact ⟨_,Zw3,ZyP⟩
 · exact ⟨_,Zw2,ZyO⟩
 · exact ⟨_,Zw1,ZyN⟩
 · exact ⟨_,Zw0,ZyM⟩
 · exact ⟨_,ZwZ,ZyL⟩
 · exact ⟨_,ZwY,ZyK⟩
 · exact ⟨_,ZwX,ZyJ⟩
 · exact ⟨_,ZwW,ZyI⟩
mutual
def Zds:Tree→Tree
 | .mk k a s n _ l=>.mk k a s n none (Zmw l)
def Zmw:List Tree→List Tree
 | []=>[]
 | t::l=>Zds t::Zmw l
end
theorem ZfC:∀ l,Zmw l=l.map Zds
 | []=>by rw [Zmw];rfl
 | t::l=>by rw [Zmw,ZfC l];rfl
theorem ZrO {l m:List D} (h:Srn l m) (p:Option (List D)):Sr (Zav 25 none l) (Zav 25 p m):=by
 cases h with
 | nil=>cases p with
  | none=>exact .v _
  | some x=>exact .nil x
 | cons a b c d g gs=>cases p with
  | none=>exact .nd (z:=[]) (.cons a b c d g gs) .nil
  | some x=>exact .nd (z:=x) (.cons a b c d g gs) .nil
theorem ZtP {f:Tree→Tree}:∀ {l:List Tree},(∀ u,u∈l→Srs (Zds u).cells (f u).cells)→(∀ u,u∈l→∃ k a s n p p' m m',Zds u=.mk k a s n p m∧f u=.mk k a s n p' m')→Srn ((l.map Zds).map Tree.d) ((l.map f).map Tree.d)
 | [],_,_=>.nil
 | u::l,h,g=>by
  obtain ⟨k,a,s,n,p,p',m,m',e1,e2⟩:=g u (by simp)
  have h1:=h u (by simp)
  have ih:=ZtP (f:=f) (l:=l) (fun v hv=>h v (by simp [hv])) fun v hv=>g v (by simp [hv])
  rw [e1,e2,Tree.c,Tree.c] at h1
  rw [Ka,Ka,Ka,Ka,e1,e2]
  unfold Tree.d
  rw [Tree.c,Tree.c]
  cases h1 with | cons _ h1 =>
  cases h1 with | cons _ h1 =>
  cases h1 with | cons _ h1 =>
  cases h1 with | cons _ h1 =>
  cases h1 with | cons h5 _ =>
  exact .cons _ _ _ _ h5 ih
theorem ZqE:∀ t:Tree,Srs (Zds t).cells t.cells:=by
 apply Tree.ind
 intro k a s n p l ih
 have h:=ZtP (f:=id) (l:=l) ih fun u _=>by
  obtain ⟨k,a,s,n,p,m⟩:=u
  exact ⟨k,a,s,n,_,p,_,m,by rw [Zds],rfl⟩
 rw [List.map_id] at h
 rw [Zds,Tree.c,Tree.c,ZfC]
 exact .cons (.v _) (.cons (.v _) (.cons (.v _) (.cons (.v _) (.cons (ZrO h p) .nil))))
theorem ZqF:∀ t:Tree,Srs (Zds t).cells (Zbp t).cells:=by
 apply Tree.ind
 intro k a s n p l ih
 have h:=ZtP (f:=Zbp) (l:=l) ih fun u _=>by
  obtain ⟨k,a,s,n,p,m⟩:=u
  exact ⟨k,a,s,n,_,_,_,_,by rw [Zds],by rw [Zbp]⟩
 rw [Zds,Zbp,Tree.c,Tree.c,ZfC,Zg0]
 exact .cons (.v _) (.cons (.v _) (.cons (.v _) (.cons (.v _) (.cons (ZrO h _) .nil))))
theorem ZpM {f:Tree→Tree}:∀ {l:List Tree},(∀ u,u∈l→(f u).num=u.num)→ZfK (l.map f)=ZfK l
 | [],_=>rfl
 | u::l,h=>by rw [Ka,ZfK,ZfK,h u (by simp),ZpM fun v hv=>h v (by simp [hv])]
theorem ZpZ {f:Tree→Tree} (hf:∀ k a s n p l,∃ p',f (.mk k a s n p l)=.mk k a s n p' (l.map f)):∀ t:Tree,(f t).num=t.num∧(t.fits→(f t).fits):=by
 apply Tree.ind
 intro k a s n p l ih
 obtain ⟨p',e⟩:=hf k a s n p l
 rw [e]
 refine ⟨by rw [Tree.num,Tree.num,ZpM fun u hu=>(ih u hu).1],fun h=>?_⟩
 rw [Tree.fits] at h ⊢
 refine ⟨h.1,by rw [List.length_map];exact h.2.1,ZjS fun u hu=>?_⟩
 obtain ⟨v,hv,rfl⟩:=List.mem_map.1 hu
 exact (ih v hv).2 (Za8 h.2.2 hv)
theorem Zrc {t:Tree} (h:good t):good (Zds t):=by
 have:=ZpZ (f:=Zds) (fun k a s n p l=>⟨none,by rw [Zds,ZfC]⟩) t
 exact ⟨this.2 h.1,by rw [this.1];exact h.2⟩
theorem Zm4 {t:Tree} (h:good t):good (Zbp t):=by
 have:=ZpZ (f:=Zbp) (fun k a s n p l=>⟨some [Zdb,Zdb],by rw [Zbp,Zg0]⟩) t
 exact ⟨this.2 h.1,by rw [this.1];exact h.2⟩
theorem ZCD {v:Int} {l:List D} (h:Srs [.v (.int .i64 v)] l):l=[.v (.int .i64 v)]:=by
 cases h with
 | cons h1 h2=>cases h2;rw [h1.inv rfl]
theorem Zwk (t:Tree) (hg:good t):ZAM hand (Zbp t)=ZAM hand t:=by
 have h0:=(ZCz (hand:=hand) (Zds t) (Zrc hg)).2
 have h1:=(ZCz (hand:=hand) t hg).2
 have h2:=(ZCz (hand:=hand) (Zbp t) (Zm4 hg)).2
 have hs:=ZEX (hand:=hand) Zyc 25 (by rfl)
 obtain ⟨r1,e1,_,f1⟩:=hs _ _ _ (ZqE t) h0
 obtain ⟨r2,e2,_,f2⟩:=hs _ _ _ (ZqF t) h0
 rw [h1] at e1
 rw [h2] at e2
 cases e1;cases e2
 have g1:=ZCD f1
 have g2:=ZCD f2
 simp only [List.cons.injEq,D.v.injEq,Value.int.injEq,true_and,and_true] at g1 g2
 rw [g1,g2]
theorem ZGL (a b:Int):ZeI theTabs .eql 28 (.v (.int .i64 a)) (.v (.int .i64 b))=some (.v (.bool (decide (a=b)))):=by kernel_rfl
theorem Zo3 (t:Tree) (hf:t.fits) (hw:hand 3030 []=some (0,[.v (.bool true)])):ML prg hand 3026 t.cells=some (0,[.v (.bool true)]):=by
 have h20:=t20 (hand:=hand) 70000 (by omega) t hf
 rw [show ((70000:Nat):Int)=70000 from rfl,show 70000+1=70001 from rfl] at h20
 have e1:decide (((min t.num 70001:Nat):Int) > 70000) = !decide (t.num≤70000):=by rw [←decide_not];exact decide_eq_decide.2 (by omega)
 have w1:ML prg hand 3030 []=some (0,[.v (.bool true)]):=by rw [ZAu rfl];exact hw
 by_cases hn:t.num≤70000
 · have hg:good t:=⟨hf,by omega⟩
   have l1:=t6 (hand:=hand) t hf hg.2
   have l2:=t9 (hand:=hand) t hf hg.2
   have c1:=(ZCz (hand:=hand) (Zbp t) (Zm4 hg)).1
   have c2:=(ZCz (hand:=hand) t hg).2
   rw [Zwk t hg] at c1
   generalize ZAM hand t=q at *
   rw [decide_eq_true hn] at e1
   obtain ⟨k,a,s,n,p,l⟩:=t
   rw [Zah Zxl]
   unfold Zsi
   rw [Zgo] at l1 l2 c1
   rw [Tree.c] at h20 l1 l2 c2 ⊢
   simp only [Kc,Kd] at h20 l2
   simp only [Zad,dv,Ka,Kb,Kc,Kd,Ke,Kf,Kg,if_true,if_false,Kj,Kh,brB,h20,ZrD,e1,Bool.not_true,l1,c1,c2,ZGL,Kl,l2,w1]
   rfl
 · rw [decide_eq_false hn] at e1
   obtain ⟨k,a,s,n,p,l⟩:=t
   rw [Zah Zxl]
   unfold Zsi
   rw [Tree.c] at h20 ⊢
   simp only [Kc,Kd] at h20
   simp only [Zad,dv,Ka,Kb,Kc,Kd,Ke,Kf,Kg,if_true,Kh,brB,h20,ZrD,e1,Bool.not_false]
   rfl
end
section
open Go Go.Proofs B
noncomputable def cxW (W:World):Cx:=⟨theTabs,[],Zcy W,fun _=>False,fun _=>True,fun b=>(Zcy W).next≤b,fun _ _=>trivial,fun _ h=>h⟩
theorem Zxr {E:SE} {va:List VA} (ho:E.ω=[]) (hv:∀ (i:Nat) (fr:Bool),va[i]?≠some (VA.ow fr)) (b:Nat):¬Priv E va b:=by
 rintro (h | ⟨i,fr,h,_⟩)
 · rw [ho] at h;cases h
 · exact hv i fr h
def Zrb:Zd3:=fun _ _=>some (0,[dB true])
theorem Zzp {W:World} {j n:Nat} {s:Sig} (hp:PrgOK Tryz.prog prg (G.extT G.tblX) Zrb) (hs:(j,s)∈prg.eng++prg.hnd) (hl:s.locs=[]) (ho:s.outs=[⟨1,false,.x n,[],s.va++[.sc]⟩]) (hn:n=s.va.length)
    {ds:List D} {w av:List Value} (hw:w.length=ds.length) (hva:s.va.length=ds.length) (hno:∀ (i:Nat) (fr:Bool),s.va[i]?≠some (VA.ow fr))
    (hvar:∀ (i:Nat) (a:VA) (d:D) (v:Value),s.va[i]?=some a→ds[i]?=some d→w[i]?=some v→VarOK (cxW W) (Zcy W) (Priv ⟨ds,w,[]⟩ s.va) a d v)
    (ha:DnL ⟨ds,w,[]⟩ s.args av) (hM:ML prg Zrb j ds=some (0,[dB true])):∃ H',Zaw Tryz.prog (G.extT G.tblX) s.f av (Zcy W)=some (.ret (.bool true),H'):=by
 have hnp:=Zxr (E:=⟨ds,w,[]⟩) rfl hno
 have hrel:SRel (cxW W) ⟨ds,w,[]⟩ ⟨s.args,s.locs,s.va⟩ av (Zcy W):=by
  rw [hl]
  exact { lw:=hw,la:=hva,lo:=rfl,var:=hvar,loc:=fun b sb a h=>by simp at h,tm:=ha,nd:=List.nodup_nil,
          own:=fun i j fi fj b h=>absurd h (hno i fi),own2:=fun i f b h=>absurd h (hno i f),fm:=⟨Nat.le_refl _,(ZhG Tryz.prog W).fresh,fun _ _ _=>rfl⟩,pn:=fun b hb=>absurd hb (hnp b) }
 obtain ⟨a,ws,os,v,H',h1,h2,h3,h4,h5⟩:=ZEY hp hs (cxW W) ⟨ds,w,[]⟩ av (Zcy W) 0 [dB true] rfl rfl rfl (fun b hb=>absurd hb (hnp b)) hrel hM
 rw [ho] at h1
 simp only [List.getElem?_cons_zero,Option.some.injEq] at h1
 subst h1
 dsimp only at h4
 have hlw:ws.length=1:=by
  have:=h4.lw
  simp only [List.length_append,List.length_cons,List.length_nil] at this
  omega
 obtain ⟨u,rfl⟩:∃ u,ws=[u]:=by
  match ws,hlw with
  | [u],_=>exact ⟨u,rfl⟩
 have hu:=h4.var n .sc (dB true) u (by rw [List.getElem?_append_right (by omega),hn,Nat.sub_self];rfl) (by rw [List.getElem?_append_right (by omega),hn,hva,Nat.sub_self];rfl) (by rw [List.getElem?_append_right (by omega),hn,hva,hw,Nat.sub_self];rfl)
 obtain ⟨e1,_,_⟩:=hu
 simp only [D.v.injEq] at e1
 have hv:=h4.tm.at_ 0 _ v rfl rfl
 rcases hv with hv | ⟨_,hv⟩
 · cases hv
 · have hv2:v=(w++[u]).getD n undef:=hv
   rw [ZaH (by rw [List.getElem?_append_right (by omega),hn,hva,hw,Nat.sub_self];rfl:(w++[u])[n]?=some u)] at hv2
   rw [hv2,←e1] at h3
   exact ⟨H',h3⟩
end
section
open Go Go.Proofs B G
theorem Zqx:Zkk prg.T (Zaw Tryz.prog (extT tblX)) (sSc 9 0) (Zrb 3030):=by
 intro C E args H k out _ _ _ _ hrel hM
 simp only [Zrb,Option.some.injEq,Prod.mk.injEq] at hM
 obtain ⟨rfl,rfl⟩:=hM
 have hr:E.ρ=[]:=List.eq_nil_of_length_eq_zero (by rw [←hrel.la];rfl)
 have hw:E.w=[]:=List.eq_nil_of_length_eq_zero (by rw [hrel.lw,hr];rfl)
 have ha:args=[]:=List.eq_nil_of_length_eq_zero (by rw [←hrel.tm.len];rfl)
 subst ha
 refine ⟨_,[.bool true],[],.bool true,H,rfl,rfl,Zoc (Zrl H),?_,fun b hb=>by cases hb⟩
 have h1:=hrel.newvar (d:=dB true) (v:=.bool true) (a:=.sc) rfl ⟨rfl,rfl,rfl⟩
 have h2:=h1.slots (ss:=[.x 0]) (vs:=[.bool true]) ⟨rfl,fun i s v h3 h4=>by
  match i with
  | 0 =>
   simp only [List.getElem?_cons_zero,Option.some.injEq] at h3 h4
   subst h3;subst h4
   refine .inr ⟨?_,?_⟩
   · show Nat.blt 0 (E.ρ++[dB true]).length=true
     rw [hr];rfl
   · show _=(E.w++[Value.bool true]).getD 0 undef
     rw [hw];rfl
  | _+1=>simp at h3⟩
 show SRel C ⟨E.ρ++[dB true],E.w++[.bool true],E.ω++[]⟩ _ _ H
 rw [List.append_nil]
 exact h2
def ZFN (P:Nat×Sig→Prop):List (Nat×Sig)→Prop
 | []=>True
 | p::l=>P p∧ZFN P l
theorem Zqt {P:Nat×Sig→Prop}:∀ {l:List (Nat×Sig)},ZFN P l→∀ p,p∈l→P p
 | q::l,h,p,hp=>by
  rcases List.mem_cons.1 hp with e | hp
  · rw [e];exact h.1
  · exact Zqt h.2 p hp
 | [],_,p,hp=>by cases hp
set_option maxRecDepth 100000 in
theorem ZCk:∀ p,p∈Zlb→Zam Zlb p.1=some p.2∧Nat.beq p.2.f 9=false :=
 Zqt (P:=fun p=>Zam Zlb p.1=some p.2∧Nat.beq p.2.f 9=false) ⟨⟨rfl,rfl⟩,⟨rfl,rfl⟩,⟨rfl,rfl⟩,⟨rfl,rfl⟩,⟨rfl,rfl⟩,⟨rfl,rfl⟩,⟨rfl,rfl⟩,⟨rfl,rfl⟩,⟨rfl,rfl⟩,⟨rfl,rfl⟩,⟨rfl,rfl⟩,⟨rfl,rfl⟩,⟨rfl,rfl⟩,⟨rfl,rfl⟩,⟨rfl,rfl⟩,⟨rfl,rfl⟩,⟨rfl,rfl⟩,⟨rfl,rfl⟩,⟨rfl,rfl⟩,⟨rfl,rfl⟩,⟨rfl,rfl⟩,⟨rfl,rfl⟩,⟨rfl,rfl⟩,⟨rfl,rfl⟩,⟨rfl,rfl⟩,⟨rfl,rfl⟩,⟨rfl,rfl⟩,⟨rfl,rfl⟩,⟨rfl,rfl⟩,⟨rfl,rfl⟩,⟨rfl,rfl⟩,⟨rfl,rfl⟩,⟨rfl,rfl⟩,⟨rfl,rfl⟩,⟨rfl,rfl⟩,⟨rfl,rfl⟩,⟨rfl,rfl⟩,⟨rfl,rfl⟩,⟨rfl,rfl⟩,⟨rfl,rfl⟩,⟨rfl,rfl⟩,⟨rfl,rfl⟩,⟨rfl,rfl⟩,⟨rfl,rfl⟩,⟨rfl,rfl⟩,⟨rfl,rfl⟩,⟨rfl,rfl⟩,⟨rfl,rfl⟩,⟨rfl,rfl⟩,⟨rfl,rfl⟩,⟨rfl,rfl⟩,⟨rfl,rfl⟩,⟨rfl,rfl⟩,⟨rfl,rfl⟩,⟨rfl,rfl⟩,⟨rfl,rfl⟩,⟨rfl,rfl⟩,⟨rfl,rfl⟩,⟨rfl,rfl⟩,⟨rfl,rfl⟩,⟨rfl,rfl⟩,⟨rfl,rfl⟩,⟨rfl,rfl⟩,⟨rfl,rfl⟩,⟨rfl,rfl⟩,⟨rfl,rfl⟩,⟨rfl,rfl⟩,⟨rfl,rfl⟩,⟨rfl,rfl⟩,⟨rfl,rfl⟩,⟨rfl,rfl⟩,⟨rfl,rfl⟩,⟨rfl,rfl⟩,⟨rfl,rfl⟩,⟨rfl,rfl⟩,⟨rfl,rfl⟩,⟨rfl,rfl⟩,⟨rfl,rfl⟩,⟨rfl,rfl⟩,⟨rfl,rfl⟩,⟨rfl,rfl⟩,⟨rfl,rfl⟩,⟨rfl,rfl⟩,⟨rfl,rfl⟩,⟨rfl,rfl⟩,⟨rfl,rfl⟩,⟨rfl,rfl⟩,⟨rfl,rfl⟩,trivial⟩
theorem ZBA:PrgOK Tryz.prog prg (extT tblX) Zrb where
 tab:=ZkK
 ent:=ZkL
 inl:=fun g h args H=>Zj4 (by
  cases hb:Nat.beq g 9 with
  | false=>rfl
  | true =>
   obtain rfl:=Nat.eq_of_beq_eq_true hb
   have h':inlTest.contains 9=true:=h
   cases h') args H
 eqT:=fun t h=>by cases h
 rnd:=fun K args H=>Zj4 (by
  have hsz:Tryz.prog.funcs.size=168:=by kernel_rfl
  cases h:Nat.beq (Tryz.prog.funcs.size+K) 9 with
  | false=>rfl
  | true=>have:=Nat.eq_of_beq_eq_true h;omega) args H
 eng:=fun j s h=>by
  obtain ⟨h1,h2⟩:=ZCk (j,s) h
  exact ⟨h1,fun args H=>Zj4 h2 args H⟩
 hnd:=fun j s h=>by
  have h':(j,s)∈ZpX:=h
  unfold ZpX at h'
  simp only [List.mem_cons,List.not_mem_nil,or_false,Prod.mk.injEq] at h'
  obtain ⟨rfl,rfl⟩:=h'
  exact ⟨rfl,Zqx⟩
end
end X
end Go.Proofs.YtmocfnfnhgognaaGreat
