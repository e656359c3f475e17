/-
  Joined by program out of B21, B22a, B22, B23, B24, B25, B26, B27, B28, B29, B30, B31, B32, B33, B34, B35, B36.
-/
import Derived.Test.YtmocfnfnhgognaaGreatM2
import Derived.RangeFuncLeaves
import Derived.RecoverIn
import Derived.ProofKit
import Derived.ReadAgain
namespace Go.Proofs.YtmocfnfnhgognaaGreat
namespace B
section
open Go
def RisingC (c:Nat→CallT):Prop:=∀ k k',k≤k'→CallT.le (c k) (c k')
theorem RisingC.at {c:Nat→CallT} (h:RisingC c) (f:FuncId) (args:List Value) (H:AHeap):Zu7 fun k=>c k f args H:=fun k k' r hk hr=>h k k' hk f args H r hr
noncomputable def ZAK (c:Nat→CallT):CallT:=fun f args H=>lim fun k=>c k f args H
theorem Zd6 {c:Nat→CallT} (h:RisingC c) {f:FuncId} {args:List Value} {H:AHeap} {r:AEnd×AHeap}:ZAK c f args H=some r↔∃ k,c k f args H=some r:=ZiK (h.at f args H)
theorem ZtZ {c:Nat→CallT} (h:RisingC c) (k:Nat):CallT.le (c k) (ZAK c):=fun _ _ _ _ hr=>(Zd6 h).2 ⟨k,hr⟩
section
variable {P:Program} {c:Nat→CallT}
theorem Zb8 (hc:RisingC c) {rnd:Bool} {ops:List Oper} {r:AExit×St}:∀ (is:List Nat) (s:St),ZaT P (ZAK c) rnd ops is s=some r→∃ k,ZaT P (c k) rnd ops is s=some r
 | [],s,h=>⟨0,h⟩
 | i::rest,s,h=>by
  unfold ZaT at h
  unfold ZaT
  cases ho:ops[i]? with
  | none=>rw [ho] at h;exact Zb8 hc rest s h
  | some o =>
   rw [ho] at h
   dsimp only at h ⊢
   split at h
   · rename_i hw
     simp only [if_pos hw]
     split at h
     · rename_i cc hop
       split at h
       case isFalse=>simp at h
       rename_i hcc
       simp only [if_pos hcc]
       split at h
       case h_2=>simp at h
       rename_i d hd
       exact Zb8 hc rest _ h
     · rename_i hnd
       split at h
       · exact Zb8 hc rest _ h
       · exact Zb8 hc rest _ h
       · rename_i f args H hev
         split at h
         · rename_i v H' hcall
           obtain ⟨k1,h1⟩:=(Zd6 hc).1 hcall
           obtain ⟨k2,h2⟩:=Zb8 hc rest _ h
           refine ⟨max k1 k2,?_⟩
           rw [hc k1 _ (by omega) _ _ _ _ h1]
           exact ZbH (hc k2 _ (by omega)) _ _ h2
         · rename_i v H' hcall
           obtain ⟨k1,h1⟩:=(Zd6 hc).1 hcall
           exact ⟨k1,by rw [h1];exact h⟩
         · simp at h
       · exact ⟨0,h⟩
       · simp at h
   · rename_i hw
     simp only [if_neg hw]
     exact Zb8 hc rest _ h
theorem ZfW {t:Tr} {x:Option (List Tr×AHeap×AExit×St)} {r:List Tr×AHeap×AExit×St} (h:Zfs t x=some r):∃ q,x=some q∧Zfs t (some q)=some r:=by
 cases x with
 | none=>simp [Zfs] at h
 | some q=>exact ⟨q,rfl,h⟩
theorem Zh6 (hc:RisingC c) {ops:List Oper} {dfs:List ADef}:∀ (plan:List Nat) (tm:List Value) (H:AHeap) (r:List Tr×AHeap×AExit×St),
    ZaB P (ZAK c) ops dfs plan tm H=some r→∃ k,ZaB P (c k) ops dfs plan tm H=some r:=by
 intro plan
 induction plan with
 | nil=>intro tm H r h;exact ⟨0,h⟩
 | cons j rest ih =>
  intro tm H r h
  unfold ZaB at h
  unfold ZaB
  cases ho:ops[j]? with
  | none=>rw [ho] at h;simp at h
  | some o =>
   rw [ho] at h
   dsimp only at h ⊢
   split at h
   · rename_i hw
     simp only [if_pos hw]
     split at h
     · obtain ⟨q,h1,h2⟩:=ZfW h
       obtain ⟨k,hk⟩:=ih _ _ _ h1
       exact ⟨k,by rw [hk];exact h2⟩
     · obtain ⟨q,h1,h2⟩:=ZfW h
       obtain ⟨k,hk⟩:=ih _ _ _ h1
       exact ⟨k,by rw [hk];exact h2⟩
     · split at h
       · rename_i v H' hcall
         obtain ⟨k1,h1⟩:=(Zd6 hc).1 hcall
         obtain ⟨q,h3,h4⟩:=ZfW h
         obtain ⟨k2,h2⟩:=ih _ _ _ h3
         refine ⟨max k1 k2,?_⟩
         rw [hc k1 _ (by omega) _ _ _ _ h1]
         dsimp only
         rw [Ze9 (hc k2 (max k1 k2) (by omega)) _ _ _ h2]
         exact h4
       · rename_i v H' hcall
         obtain ⟨k1,h1⟩:=(Zd6 hc).1 hcall
         exact ⟨k1,by rw [h1];exact h⟩
       · simp at h
     · exact ⟨0,h⟩
     · simp at h
   · rename_i hw
     simp only [if_neg hw]
     obtain ⟨q,h1,h2⟩:=ZfW h
     obtain ⟨k,hk⟩:=ih _ _ _ h1
     exact ⟨k,by rw [hk];exact h2⟩
theorem Znw (hc:RisingC c) {ops:List Oper} {s:St} {r:AExit×St} (h:ZbK P (ZAK c) ops s=some r):∃ k,ZbK P (c k) ops s=some r:=by
 unfold ZbK at h ⊢
 split at h
 · unfold Zdj at h ⊢
   split at h
   case h_2=>simp at h
   rename_i T He x s' hr
   obtain ⟨k,hk⟩:=Zh6 hc _ _ _ _ hr
   refine ⟨k,?_⟩
   rw [hk]
   exact h
 · unfold ZeG at h ⊢
   split at h
   case h_2=>simp at h
   rename_i T He x s' hr
   obtain ⟨k,hk⟩:=Zh6 hc _ _ _ _ hr
   refine ⟨k,?_⟩
   rw [hk]
   exact h
end
def Zet (P:Program) (H:AHeap) (tmps:List Value):ResultVar→Option Value
 | .tmp t=>some (tmps.getD t undef)
 | .cell a t=>match tmps.getD a undef with
  | .pointer (some ad)=>H.loadV P t ad
  | _=>none
def ZaW (P:Program) (H:AHeap) (tmps:List Value):List ResultVar→Option (List Value)
 | []=>some []
 | r::rs=>match Zet P H tmps r with
  | some v=>match ZaW P H tmps rs with
   | some vs=>some (v::vs)
   | none=>none
  | none=>none
def Zly:List Value→Value
 | [v]=>v
 | vs=>.tuple vs.toArray
def ZdT (fn:Func) (args:List Value) (H:AHeap):St:=⟨args++List.replicate (fn.ntmps-args.length) undef,[],H⟩
abbrev Mode:=Option (Value×Bool)
def Zbv (o:Oper):Bool :=
 match o.op with
 | .call c=>match c.callee with
  | .builtin .recover=>true
  | _=>false
 | _=>false
def Zcb:Mode→Value×Mode
 | some (v,false)=>(v,some (v,true))
 | m=>(.nilIface,m)
def ZdW:Mode→Mode
 | some (_,true)=>none
 | m=>m
def Zby (P:Program) (ops:List Oper):List Nat→Mode→St→Option (AExit×Mode×St)
 | [],m,s=>some (.normal,m,s)
 | i::rest,m,s=>match ops[i]? with
  | none=>Zby P ops rest m s
  | some o =>
   if Zat ops s.tmps o then
    if Zbv o then if o.op.operands.all Zaa then Zby P ops rest (Zcb m).2 { s with tmps:=ZbX o.dst (Zcb m).1 s.tmps } else none
    else match Zao P s.H (aev s.tmps) o with
     | some (.val v H)=>Zby P ops rest m { s with tmps:=ZbX o.dst v s.tmps,H:=H }
     | some (.skip H)=>Zby P ops rest m { s with tmps:=ZbX o.dst undef s.tmps,H:=H }
     | some (.panic v H)=>some (.panic v,m,{ s with H:=H })
     | _=>none
   else Zby P ops rest m { s with tmps:=ZbX o.dst undef s.tmps }
def Zfk (m:Mode):Option (AExit×St)→Option (AExit×Mode×St)
 | some (x,s)=>some (x,m,s)
 | none=>none
def ZbA (P:Program) (code:Code→St→Option (AExit×St)):Code→Mode→St→Option (AExit×Mode×St)
 | .seq a b,m,s=>match ZbA P code a m s with
  | some (.normal,m1,s1)=>ZbA P code b m1 s1
  | r=>r
 | .cond c a b,m,s=>if Zaa c then match ZdF (aev s.tmps c) with
     | some true=>ZbA P code a m s
     | some false=>ZbA P code b m s
     | none=>none
  else none
 | .region id ops draw,m,s=>if draw=false∧ops.toList.any Zbv=true then Zby P ops.toList (List.range ops.size) m s else Zfk m (code (.region id ops draw) s)
 | c,m,s=>Zfk m (code c s)
def Zd8 (P:Program) (fn:Func):Option (AExit×Mode×St)→Option (Mode×AHeap)
 | some (.normal,m,⟨tmps,[],H⟩)=>match ZaW P H tmps fn.results.toList with
  | some _=>some (ZdW m,H)
  | none=>none
 | some (.ret,m,⟨tmps,[],H⟩)=>match ZaW P H tmps fn.results.toList with
  | some _=>some (ZdW m,H)
  | none=>none
 | _=>none
def ZbL (P:Program) (code:Code→St→Option (AExit×St)) (d:ADef) (m:Mode) (H:AHeap):Option (Mode×AHeap) :=
 match P.funcs[d.f]? with
 | some fn=>match fn.body with
  | some c=>Zd8 P fn (ZbA P code c m (ZdT fn d.args H))
  | none=>none
 | none=>none
def ZaL (P:Program) (code:Code→St→Option (AExit×St)):List ADef→Mode→AHeap→Option (Mode×AHeap)
 | [],m,H=>some (m,H)
 | d::ds,m,H=>match ZbL P code d m H with
  | some (m1,H1)=>ZaL P code ds m1 H1
  | none=>none
def ZkD (P:Program) (rs:List ResultVar) (tmps:List Value):Option (Mode×AHeap)→Option (AEnd×AHeap)
 | some (none,H)=>match ZaW P H tmps rs with
  | some vs=>some (.ret (Zly vs),H)
  | none=>none
 | some (some (v,false),H)=>some (.panic v,H)
 | _=>none
def ZkO:Option (Mode×AHeap)→Option (AEnd×AHeap)
 | some (some (v,false),H)=>some (.panic v,H)
 | _=>none
theorem Zgi {y:Option (Mode×AHeap)} {r:AEnd×AHeap} (h:ZkO y=some r):∃ v H,y=some (some (v,false),H)∧r=(.panic v,H):=by
 unfold ZkO at h
 split at h
 · simp only [Option.some.injEq] at h;exact ⟨_,_,rfl,h.symm⟩
 · cases h
def Zb6 (P:Program) (code:Code→St→Option (AExit×St)) (rs:List ResultVar):Option (AExit×St)→Option (AEnd×AHeap)
 | some (.normal,⟨tmps,[],H⟩)=>match ZaW P H tmps rs with
  | some vs=>some (.ret (Zly vs),H)
  | none=>none
 | some (.ret,⟨tmps,[],H⟩)=>match ZaW P H tmps rs with
  | some vs=>some (.ret (Zly vs),H)
  | none=>none
 | some (.panic v,⟨_,[],H⟩)=>some (.panic v,H)
 | some (.normal,⟨tmps,d::ds,H⟩)=>ZkD P rs tmps (ZaL P code (d::ds) none H)
 | some (.ret,⟨tmps,d::ds,H⟩)=>ZkD P rs tmps (ZaL P code (d::ds) none H)
 | some (.panic v,⟨t::tmps,d::ds,H⟩)=>ZkD P rs (t::tmps) (ZaL P code (d::ds) (some (v,false)) H)
 | some (.panic v,⟨[],d::ds,H⟩)=>ZkO (ZaL P code (d::ds) (some (v,false)) H)
 | _=>none
def ZnZ (a b:Code→St→Option (AExit×St)):Prop:=∀ c s r,a c s=some r→b c s=some r
theorem ZhJ {P:Program} {a b:Code→St→Option (AExit×St)} (h:ZnZ a b):∀ (c:Code) (m:Mode) (s:St) (r:AExit×Mode×St),ZbA P a c m s=some r→ZbA P b c m s=some r:=by
 have keep:∀ (c:Code) (m:Mode) (s:St) (r:AExit×Mode×St),Zfk m (a c s)=some r→Zfk m (b c s)=some r:=by
  intro c m s r hr
  cases he:a c s with
  | none=>rw [he] at hr;simp [Zfk] at hr
  | some q=>rw [h c s q he];rw [he] at hr;exact hr
 intro c
 induction c with
 | seq c1 c2 ih1 ih2 =>
  intro m s r hr
  rw [ZbA] at hr ⊢
  split at hr
  · rename_i m1 s1 h1
    rw [ih1 _ _ _ h1]
    exact ih2 _ _ _ hr
  · rename_i hne
    cases he:ZbA P a c1 m s with
    | none=>rw [he] at hr;simp at hr
    | some q =>
     rw [he] at hr
     rw [ih1 _ _ _ he]
     obtain rfl:q=r:=by simpa using hr
     split
     · rename_i m1 s1 h1;exact absurd (he.trans h1) (hne _ _)
     · rfl
 | cond x c1 c2 ih1 ih2 =>
  intro m s r hr
  rw [ZbA] at hr ⊢
  split at hr
  case isFalse=>simp at hr
  rename_i hok
  rw [if_pos hok]
  split at hr
  · exact ih1 _ _ _ hr
  · exact ih2 _ _ _ hr
  · simp at hr
 | region id ops draw =>
  intro m s r hr
  rw [ZbA] at hr ⊢
  split at hr
  · rename_i hc;rw [if_pos hc];exact hr
  · rename_i hc;rw [if_neg hc];exact keep _ _ _ _ hr
 | skip=>intro m s r hr;exact keep _ _ _ _ hr
 | block _ _ _=>intro m s r hr;exact keep _ _ _ _ hr
 | loop _ _=>intro m s r hr;exact keep _ _ _ _ hr
 | exit _=>intro m s r hr;exact keep _ _ _ _ hr
 | ret=>intro m s r hr;exact keep _ _ _ _ hr
 | label _=>intro m s r hr;exact keep _ _ _ _ hr
 | rangeFunc _ _ _ _ _ _=>intro m s r hr;exact keep _ _ _ _ hr
 | scope _ _=>intro m s r hr;exact keep _ _ _ _ hr
 | goto _=>intro m s r hr;exact keep _ _ _ _ hr
 | refuse _=>intro m s r hr;exact keep _ _ _ _ hr
theorem Zga {P:Program} {a b:Code→St→Option (AExit×St)} (h:ZnZ a b) {d:ADef} {m:Mode} {H:AHeap} {r:Mode×AHeap} (hr:ZbL P a d m H=some r):ZbL P b d m H=some r:=by
 unfold ZbL at hr ⊢
 split at hr
 case h_2=>simp at hr
 rename_i fn hf
 try rw [hf]
 try dsimp only
 split at hr
 case h_2=>simp at hr
 rename_i c hc
 try rw [hc]
 try dsimp only
 cases he:ZbA P a c m (ZdT fn d.args H) with
 | none=>rw [he] at hr;simp [Zd8] at hr
 | some q=>rw [ZhJ h _ _ _ _ he];rw [he] at hr;exact hr
theorem Zcv {P:Program} {a b:Code→St→Option (AExit×St)} (h:ZnZ a b):∀ (ds:List ADef) (m:Mode) (H:AHeap) (r:Mode×AHeap),ZaL P a ds m H=some r→ZaL P b ds m H=some r
 | [],_,_,_,hr=>hr
 | d::ds,m,H,r,hr=>by
  unfold ZaL at hr ⊢
  split at hr
  · rename_i m1 H1 h1
    rw [Zga h h1]
    exact Zcv h ds _ _ _ hr
  · simp at hr
theorem Zj7 {P:Program} {rs:List ResultVar} {tm:List Value} {x y:Option (Mode×AHeap)} (h:∀ q,x=some q→y=some q) {r:AEnd×AHeap} (hr:ZkD P rs tm x=some r):ZkD P rs tm y=some r:=by
 cases x with
 | none=>simp [ZkD] at hr
 | some q=>rw [h q rfl];exact hr
theorem Zgp {P:Program} {a b:Code→St→Option (AExit×St)} (h:ZnZ a b) {rs:List ResultVar} {x:Option (AExit×St)} {r:AEnd×AHeap} (hr:Zb6 P a rs x=some r):Zb6 P b rs x=some r:=by
 unfold Zb6 at hr ⊢
 split at hr
 · exact hr
 · exact hr
 · exact hr
 · exact Zj7 (Zcv h _ _ _) hr
 · exact Zj7 (Zcv h _ _ _) hr
 · exact Zj7 (Zcv h _ _ _) hr
 · obtain ⟨v,H,h1,rfl⟩:=Zgi hr
   show ZkO (ZaL P b _ _ _)=_
   rw [Zcv h _ _ _ _ h1];rfl
 · simp at hr
structure CodeLim (row:Nat→Code→St→Option (AExit×St)) (top:Code→St→Option (AExit×St)):Prop where
 up:∀ k k',k≤k'→ZnZ (row k) (row k')
 ex:∀ c s r,top c s=some r→∃ k,row k c s=some r
theorem Zrn {P:Program} {row:Nat→Code→St→Option (AExit×St)} {top:Code→St→Option (AExit×St)} (h:CodeLim row top):∀ (c:Code) (m:Mode) (s:St) (r:AExit×Mode×St),ZbA P top c m s=some r→∃ k,ZbA P (row k) c m s=some r:=by
 have keep:∀ (c:Code) (m:Mode) (s:St) (r:AExit×Mode×St),Zfk m (top c s)=some r→∃ k,Zfk m (row k c s)=some r:=by
  intro c m s r hr
  cases he:top c s with
  | none=>rw [he] at hr;simp [Zfk] at hr
  | some q=>obtain ⟨k,hk⟩:=h.ex c s q he;exact ⟨k,by rw [hk];rw [he] at hr;exact hr⟩
 intro c
 induction c with
 | seq c1 c2 ih1 ih2 =>
  intro m s r hr
  rw [ZbA] at hr
  split at hr
  · rename_i m1 s1 h1
    obtain ⟨k1,h1⟩:=ih1 _ _ _ h1
    obtain ⟨k2,h2⟩:=ih2 _ _ _ hr
    refine ⟨max k1 k2,?_⟩
    rw [ZbA,ZhJ (h.up k1 (max k1 k2) (by omega)) _ _ _ _ h1]
    exact ZhJ (h.up k2 (max k1 k2) (by omega)) _ _ _ _ h2
  · rename_i hne
    cases he:ZbA P top c1 m s with
    | none=>rw [he] at hr;simp at hr
    | some q =>
     obtain ⟨k,hk⟩:=ih1 _ _ _ he
     refine ⟨k,?_⟩
     rw [ZbA,hk]
     rw [he] at hr
     obtain rfl:q=r:=by simpa using hr
     split
     · rename_i m1 s1 h1;exact absurd (he.trans h1) (hne _ _)
     · rfl
 | cond x c1 c2 ih1 ih2 =>
  intro m s r hr
  rw [ZbA] at hr
  split at hr
  case isFalse=>simp at hr
  rename_i hok
  split at hr
  · rename_i hb
    obtain ⟨k,hk⟩:=ih1 _ _ _ hr
    exact ⟨k,by rw [ZbA,if_pos hok,hb];exact hk⟩
  · rename_i hb
    obtain ⟨k,hk⟩:=ih2 _ _ _ hr
    exact ⟨k,by rw [ZbA,if_pos hok,hb];exact hk⟩
  · simp at hr
 | region id ops draw =>
  intro m s r hr
  rw [ZbA] at hr
  split at hr
  · rename_i hc;exact ⟨0,by rw [ZbA,if_pos hc];exact hr⟩
  · rename_i hc
    obtain ⟨k,hk⟩:=keep _ _ _ _ hr
    exact ⟨k,by rw [ZbA,if_neg hc];exact hk⟩
 | skip=>intro m s r hr;exact keep _ _ _ _ hr
 | block _ _ _=>intro m s r hr;exact keep _ _ _ _ hr
 | loop _ _=>intro m s r hr;exact keep _ _ _ _ hr
 | exit _=>intro m s r hr;exact keep _ _ _ _ hr
 | ret=>intro m s r hr;exact keep _ _ _ _ hr
 | label _=>intro m s r hr;exact keep _ _ _ _ hr
 | rangeFunc _ _ _ _ _ _=>intro m s r hr;exact keep _ _ _ _ hr
 | scope _ _=>intro m s r hr;exact keep _ _ _ _ hr
 | goto _=>intro m s r hr;exact keep _ _ _ _ hr
 | refuse _=>intro m s r hr;exact keep _ _ _ _ hr
theorem ZeY {P:Program} {row:Nat→Code→St→Option (AExit×St)} {top:Code→St→Option (AExit×St)} (h:CodeLim row top):∀ (ds:List ADef) (m:Mode) (H:AHeap) (r:Mode×AHeap),ZaL P top ds m H=some r→∃ k,ZaL P (row k) ds m H=some r
 | [],_,_,_,hr=>⟨0,hr⟩
 | d::ds,m,H,r,hr=>by
  unfold ZaL at hr
  split at hr
  case h_2=>simp at hr
  rename_i m1 H1 h1
  obtain ⟨k2,h2⟩:=ZeY h ds _ _ _ hr
  have key:∃ k1,ZbL P (row k1) d m H=some (m1,H1):=by
   unfold ZbL at h1
   split at h1
   case h_2=>simp at h1
   rename_i fn hf
   split at h1
   case h_2=>simp at h1
   rename_i c hc
   cases he:ZbA P top c m (ZdT fn d.args H) with
   | none=>rw [he] at h1;simp [Zd8] at h1
   | some q =>
    obtain ⟨k,hk⟩:=Zrn h _ _ _ _ he
    refine ⟨k,?_⟩
    unfold ZbL
    rw [hf];dsimp only
    rw [hc];dsimp only
    rw [hk];rw [he] at h1;exact h1
  obtain ⟨k1,h1⟩:=key
  refine ⟨max k1 k2,?_⟩
  unfold ZaL
  rw [Zga (h.up k1 (max k1 k2) (by omega)) h1]
  exact Zcv (h.up k2 (max k1 k2) (by omega)) _ _ _ _ h2
theorem ZoJ {P:Program} {row:Nat→Code→St→Option (AExit×St)} {top:Code→St→Option (AExit×St)} (h:CodeLim row top) {rs:List ResultVar} {x:Option (AExit×St)} {r:AEnd×AHeap} (hr:Zb6 P top rs x=some r):∃ k,Zb6 P (row k) rs x=some r:=by
 have key:∀ (tm:List Value) (ds:List ADef) (m:Mode) (H:AHeap),ZkD P rs tm (ZaL P top ds m H)=some r→∃ k,ZkD P rs tm (ZaL P (row k) ds m H)=some r:=by
  intro tm ds m H he
  cases hu:ZaL P top ds m H with
  | none=>rw [hu] at he;simp [ZkD] at he
  | some q =>
   obtain ⟨k,hk⟩:=ZeY h _ _ _ _ hu
   exact ⟨k,by rw [hk];rw [hu] at he;exact he⟩
 unfold Zb6 at hr
 split at hr
 · exact ⟨0,hr⟩
 · exact ⟨0,hr⟩
 · exact ⟨0,hr⟩
 · obtain ⟨k,hk⟩:=key _ _ _ _ hr;exact ⟨k,hk⟩
 · obtain ⟨k,hk⟩:=key _ _ _ _ hr;exact ⟨k,hk⟩
 · obtain ⟨k,hk⟩:=key _ _ _ _ hr;exact ⟨k,hk⟩
 · obtain ⟨v,H,h1,rfl⟩:=Zgi hr
   obtain ⟨k,hk⟩:=ZeY h _ _ _ _ h1
   refine ⟨k,?_⟩
   show ZkO (ZaL P (row k) _ _ _)=_
   rw [hk];rfl
 · simp at hr
def Ze6 (ps:List Tmp) (args tmps:List Value):List Value:=(ps.zip args).foldl (fun tmps p=>tmps.set p.1 p.2) tmps
def Zfb (K:Nat):Option (AExit×St)→Option (AEnd×AHeap)
 | some (x,s2)=>match Zia x with
  | some j=>match s2.H.get K with
   | some (.loop r2)=>some (.ret (.bool j.isNone),s2.H.set K (.loop { r2 with state:=if j.isNone then .ready else .done,pending:=j }))
   | _=>none
  | none=>none
 | none=>none
def Zdv (K:Nat) (x:Option (AExit×St)) (k:St→Option (AExit×St)):Option (AEnd×AHeap) :=
 match x with
 | some (.normal,s1)=>match s1.H.get K with
  | some (.loop r1)=>if r1.state=.ready then Zfb K (k ⟨s1.tmps,s1.dfs,s1.H.set K (.loop { r1 with state:=.busy })⟩) else none
  | _=>none
 | _=>none
noncomputable def ZdD (P:Program) (call:CallT) (k:Nat) (K:Nat) (args:List Value) (H:AHeap):Option (AEnd×AHeap) :=
 match H.get K with
 | some (.loop r)=>Zdv K (Zae P call true k r.assign ⟨Ze6 r.params.toList args r.tmps,[],H⟩) (fun s=>Zae P call true k r.body s)
 | _=>none
noncomputable def Zco (P:Program) (call:CallT) (k:Nat) (f:FuncId) (args:List Value) (H:AHeap):Option (AEnd×AHeap) :=
 match P.funcs[f]? with
 | some fn=>match fn.body with
  | some c=>Zb6 P (fun c s=>Zae P call false k c s) fn.results.toList (Zae P call false k c (ZdT fn args H))
  | none=>none
 | none=>ZdD P call k (f-P.funcs.size) args H
noncomputable def Zbs (P:Program) (ext:CallT):Nat→CallT
 | 0=>ext
 | k+1=>fun f args H=>match ext f args H with
  | some r=>some r
  | none=>Zco P (Zbs P ext k) k f args H
noncomputable def Zaw (P:Program) (ext:CallT):CallT:=ZAK (Zbs P ext)
noncomputable def Zap (P:Program) (ext:CallT) (rnd:Bool) (c:Code) (s:St):Option (AExit×St):=lim fun k=>Zae P (Zbs P ext k) rnd k c s
section
variable {P:Program} {ext:CallT}
theorem Zjm {K:Nat} {x x':Option (AExit×St)} {k k':St→Option (AExit×St)} {r:AEnd×AHeap} (hx:∀ q,x=some q→x'=some q) (hk:∀ s q,k s=some q→k' s=some q) (h:Zdv K x k=some r):Zdv K x' k'=some r:=by
 unfold Zdv at h ⊢
 split at h
 case h_2=>simp at h
 rename_i s1
 rw [hx _ rfl]
 dsimp only
 split at h
 case h_2=>simp at h
 rename_i r1 hr1
 split at h
 case isFalse=>simp at h
 rename_i hst
 try rw [hr1]
 try dsimp only
 rw [if_pos hst]
 generalize (⟨s1.tmps,s1.dfs,s1.H.set K (.loop { r1 with state:=.busy })⟩:St)=s at h
 cases he:k s with
 | none=>rw [he] at h;simp [Zfb] at h
 | some q=>rw [hk _ _ he];rw [he] at h;exact h
theorem ZkA {call call':CallT} {k k':Nat} (hle:CallT.le call call') (hk:k≤k') {K:Nat} {args:List Value} {H:AHeap} {r:AEnd×AHeap} (h:ZdD P call k K args H=some r):ZdD P call' k' K args H=some r:=by
 unfold ZdD at h ⊢
 split at h
 case h_2=>simp at h
 exact Zjm (fun q hq=>Za2 _ _ _ _ _ _ _ hle hk hq) (fun s q hq=>Za2 _ _ _ _ _ _ _ hle hk hq) h
theorem Zl6 {call call':CallT} {k k':Nat} (hle:CallT.le call call') (hk:k≤k') {f:FuncId} {args:List Value} {H:AHeap} {r:AEnd×AHeap} (h:Zco P call k f args H=some r):Zco P call' k' f args H=some r:=by
 unfold Zco at h ⊢
 split at h
 case h_2=>exact ZkA hle hk h
 rename_i fn hf
 split at h
 case h_2=>simp at h
 rename_i c hb
 try rw [hf]
 try dsimp only
 try rw [hb]
 try dsimp only
 cases he:Zae P call false k c (ZdT fn args H) with
 | none=>rw [he] at h;simp [Zb6] at h
 | some q=>rw [he] at h;rw [Za2 _ _ _ _ _ _ _ hle hk he];exact Zgp (fun _ _ _ h=>Za2 _ _ _ _ _ _ _ hle hk h) h
theorem Za1:RisingC (Zbs P ext):=by
 have step:∀ k,CallT.le (Zbs P ext k) (Zbs P ext (k+1)):=by
  intro k
  induction k with
  | zero=>intro f args H r h;unfold Zbs;rw [show ext f args H=some r from h]
  | succ k ih =>
   intro f args H r h
   rw [Zbs] at h ⊢
   dsimp only at h ⊢
   split at h
   · exact h
   · exact Zl6 ih (Nat.le_succ _) h
 intro k k' hk
 induction k' with
 | zero=>obtain rfl:k=0:=by omega
         exact CallT.le_refl _
 | succ k' ih =>
  rcases Nat.lt_or_ge k (k'+1) with h | h
  · exact fun f args H r hr=>step k' _ _ _ _ (ih (by omega) _ _ _ _ hr)
  · obtain rfl:k=k'+1:=by omega
    exact CallT.le_refl _
theorem ZcX {rnd:Bool} {c:Code} {s:St}:Zu7 fun k=>Zae P (Zbs P ext k) rnd k c s:=fun k k' r hk h=>Za2 _ _ _ _ _ _ _ (Za1 k k' hk) hk h
theorem Zcw {f:FuncId} {args:List Value} {H:AHeap} {r:AEnd×AHeap}:Zaw P ext f args H=some r↔∃ k,Zbs P ext k f args H=some r:=Zd6 Za1
theorem Zan {rnd:Bool} {c:Code} {s:St} {r:AExit×St}:Zap P ext rnd c s=some r↔∃ k,Zae P (Zbs P ext k) rnd k c s=some r:=ZiK ZcX
theorem ZhX {rnd:Bool} {s:St}:Zap P ext rnd .skip s=some (.normal,s):=Zan.2 ⟨0,by rw [Zae]⟩
theorem Zh0 {rnd:Bool} {id:Nat} {s:St}:Zap P ext rnd (.exit id) s=some (.exit id,s):=Zan.2 ⟨0,by rw [Zae]⟩
theorem Zja {rnd:Bool} {s:St}:Zap P ext rnd .ret s=some (.ret,s):=Zan.2 ⟨0,by rw [Zae]⟩
theorem ZgL {rnd:Bool} {l:Nat} {s:St}:Zap P ext rnd (.label l) s=some (.normal,s):=Zan.2 ⟨0,by rw [Zae]⟩
theorem Zkn {rnd:Bool} {id:Nat} {ops:Array Oper} {s:St}:Zap P ext rnd (.region id ops false) s=ZaT P (Zaw P ext) rnd ops.toList (List.range ops.size) s:=by
 refine Zc6 fun r=>?_
 rw [Zan]
 constructor
 · rintro ⟨k,hk⟩
   rw [Zae] at hk
   exact ZbH (ZtZ Za1 k) _ _ (by simpa using hk)
 · intro h
   obtain ⟨k,hk⟩:=Zb8 Za1 _ _ h
   exact ⟨k,by rw [Zae];simpa using hk⟩
theorem ZdM {rnd:Bool} {id:Nat} {ops:Array Oper} {s:St}:Zap P ext rnd (.region id ops true) s=ZbK P (Zaw P ext) ops.toList s:=by
 refine Zc6 fun r=>?_
 rw [Zan]
 constructor
 · rintro ⟨k,hk⟩
   rw [Zae] at hk
   exact Zio (ZtZ Za1 k) (by simpa using hk)
 · intro h
   obtain ⟨k,hk⟩:=Znw Za1 h
   exact ⟨k,by rw [Zae];simpa using hk⟩
def Zgg (x:Option (AExit×St)) (k:St→Option (AExit×St)):Option (AExit×St) :=
 match x with
 | some (.normal,s1)=>k s1
 | r=>r
def ZfO (id:Nat) (x:Option (AExit×St)):Option (AExit×St) :=
 match x with
 | some (.exit i,s1)=>if i=id then some (.normal,s1) else some (.exit i,s1)
 | r=>r
theorem ZbC {x:Option (AExit×St)} {k:St→Option (AExit×St)} {r:AExit×St}:Zgg x k=some r↔(∃ s1,x=some (.normal,s1)∧k s1=some r)∨(x=some r∧r.1≠.normal):=by
 unfold Zgg
 split
 · rename_i s1
   constructor
   · intro h;exact .inl ⟨s1,rfl,h⟩
   · rintro (⟨s2,h1,h2⟩ | ⟨h1,h2⟩)
     · simp at h1;subst h1;exact h2
     · simp at h1;subst h1;exact absurd rfl h2
 · rename_i hne
   constructor
   · intro h
     refine .inr ⟨h,?_⟩
     intro hr
     obtain ⟨r1,r2⟩:=r
     simp only at hr
     subst hr
     exact hne _ h
   · rintro (⟨s2,h1,h2⟩ | ⟨h1,h2⟩)
     · exact absurd h1 (hne _)
     · exact h1
theorem Zc4 {call:CallT} {rnd:Bool} {k:Nat} {a b:Code} {s:St}:Zae P call rnd k (.seq a b) s=Zgg (Zae P call rnd k a s) fun s1=>Zae P call rnd k b s1:=by
 rw [Zae];unfold Zgg;rfl
theorem Zgh {rnd:Bool} {a b:Code} {s:St}:Zap P ext rnd (.seq a b) s=Zgg (Zap P ext rnd a s) fun s1=>Zap P ext rnd b s1:=by
 refine Zc6 fun r=>?_
 rw [Zan,ZbC]
 constructor
 · rintro ⟨k,hk⟩
   rw [Zc4,ZbC] at hk
   rcases hk with ⟨s1,h1,h2⟩ | ⟨h1,h2⟩
   · exact .inl ⟨s1,Zan.2 ⟨k,h1⟩,Zan.2 ⟨k,h2⟩⟩
   · exact .inr ⟨Zan.2 ⟨k,h1⟩,h2⟩
 · rintro (⟨s1,h1,h2⟩ | ⟨h1,h2⟩)
   · obtain ⟨k1,h1⟩:=Zan.1 h1
     obtain ⟨k2,h2⟩:=Zan.1 h2
     refine ⟨max k1 k2,?_⟩
     rw [Zc4,ZbC]
     exact .inl ⟨s1,ZcX _ _ _ (by omega) h1,ZcX _ _ _ (by omega) h2⟩
   · obtain ⟨k1,h1⟩:=Zan.1 h1
     refine ⟨k1,?_⟩
     rw [Zc4,ZbC]
     exact .inr ⟨h1,h2⟩
theorem Zh1 {rnd:Bool} {c:Operand} {a b:Code} {s:St} {t:Bool} (hok:Zaa c=true) (hc:aev s.tmps c=.bool t):Zap P ext rnd (.cond c a b) s=if t then Zap P ext rnd a s else Zap P ext rnd b s:=by
 refine Zc6 fun r=>?_
 have h:∀ k,Zae P (Zbs P ext k) rnd k (.cond c a b) s=if t then Zae P (Zbs P ext k) rnd k a s else Zae P (Zbs P ext k) rnd k b s:=by
  intro k;rw [Zae,hok,hc];cases t<;>rfl
 rw [Zan]
 simp only [h]
 cases t
 · simp only [Bool.false_eq_true,if_false];exact Zan.symm
 · simp only [if_true];exact Zan.symm
theorem ZgM {rnd:Bool} {id:Nat} {a:Code} {s:St}:Zap P ext rnd (.block id a) s=ZfO id (Zap P ext rnd a s):=by
 refine Zc6 fun r=>?_
 have h:∀ k,Zae P (Zbs P ext k) rnd k (.block id a) s=ZfO id (Zae P (Zbs P ext k) rnd k a s):=by
  intro k;rw [Zae];rfl
 rw [Zan]
 simp only [h]
 constructor
 · rintro ⟨k,hk⟩
   cases he:Zae P (Zbs P ext k) rnd k a s with
   | none=>rw [he] at hk;simp [ZfO] at hk
   | some q=>rw [Zan.2 ⟨k,he⟩];rw [he] at hk;exact hk
 · intro hh
   cases he:Zap P ext rnd a s with
   | none=>rw [he] at hh;simp [ZfO] at hh
   | some q =>
    obtain ⟨k,hk⟩:=Zan.1 he
    exact ⟨k,by rw [hk];rw [he] at hh;exact hh⟩
theorem ZeE {call:CallT} {rnd:Bool} {k:Nat} {a:Code} {s:St}:Zae P call rnd (k+1) (.loop a) s=Zgg (Zae P call rnd k a s) fun s1=>Zae P call rnd k (.loop a) s1:=by
 rw [Zae];unfold Zgg;rfl
theorem ZdL {rnd:Bool} {a:Code} {s:St}:Zap P ext rnd (.loop a) s=Zgg (Zap P ext rnd a s) fun s1=>Zap P ext rnd (.loop a) s1:=by
 refine Zc6 fun r=>?_
 rw [Zan,ZbC]
 constructor
 · rintro ⟨k,hk⟩
   cases k with
   | zero=>rw [Zae] at hk;simp at hk
   | succ k =>
    rw [ZeE,ZbC] at hk
    have up:∀ c s r,Zae P (Zbs P ext (k+1)) rnd k c s=some r→Zap P ext rnd c s=some r:=fun c s r h=>Zan.2 ⟨k+1,Za2 _ _ _ _ _ _ _ (CallT.le_refl _) (Nat.le_succ _) h⟩
    rcases hk with ⟨s1,h1,h2⟩ | ⟨h1,h2⟩
    · exact .inl ⟨s1,up _ _ _ h1,up _ _ _ h2⟩
    · exact .inr ⟨up _ _ _ h1,h2⟩
 · rintro (⟨s1,h1,h2⟩ | ⟨h1,h2⟩)
   · obtain ⟨k1,h1⟩:=Zan.1 h1
     obtain ⟨k2,h2⟩:=Zan.1 h2
     refine ⟨max k1 k2+1,?_⟩
     rw [ZeE,ZbC]
     exact .inl ⟨s1,Za2 _ _ _ _ _ _ _ (Za1 _ _ (by omega)) (by omega) h1,Za2 _ _ _ _ _ _ _ (Za1 _ _ (by omega)) (by omega) h2⟩
   · obtain ⟨k1,h1⟩:=Zan.1 h1
     refine ⟨k1+1,?_⟩
     rw [ZeE,ZbC]
     exact .inr ⟨Za2 _ _ _ _ _ _ _ (Za1 _ _ (by omega)) (by omega) h1,h2⟩
theorem ZgJ {g:Operand} {ps:Array Tmp} {as body:Code} {s:St}:Zap P ext false (.rangeFunc g ps as body) s =
    match ZbV P s g ps as body with
    | some (f,args,H1)=>Zcc s.H.next s (Zaw P ext f args H1)
    | none=>none:=by
 refine Zc6 fun r=>?_
 rw [Zan]
 cases hrc:ZbV P s g ps as body with
 | none =>
  constructor
  · rintro ⟨k,hk⟩;rw [Zae] at hk;simp [hrc] at hk
  · intro h;simp at h
 | some q =>
  obtain ⟨f,args,H1⟩:=q
  constructor
  · rintro ⟨k,hk⟩
    rw [Zae] at hk
    simp only [Bool.false_eq_true,if_false,hrc] at hk
    dsimp only
    cases hc:Zbs P ext k f args H1 with
    | none=>rw [hc] at hk;simp [Zcc] at hk
    | some q=>rw [Zcw.2 ⟨k,hc⟩];rw [hc] at hk;exact hk
  · intro h
    dsimp only at h
    cases hc:Zaw P ext f args H1 with
    | none=>rw [hc] at h;simp [Zcc] at h
    | some q =>
     obtain ⟨k,hk⟩:=Zcw.1 hc
     refine ⟨k,?_⟩
     rw [Zae]
     simp only [Bool.false_eq_true,if_false,hrc]
     rw [hk];rw [hc] at h;exact h
theorem Zoc {f:FuncId} {args:List Value} {H:AHeap} {r:AEnd×AHeap} (h:ext f args H=some r):Zaw P ext f args H=some r:=Zcw.2 ⟨0,h⟩
theorem theCode_lim:CodeLim (fun k c s=>Zae P (Zbs P ext k) false k c s) (Zap P ext false) :=
 ⟨fun k k' hk _ _ _ h=>Za2 _ _ _ _ _ _ _ (Za1 k k' hk) hk h,fun _ _ _ h=>Zan.1 h⟩
theorem ZdN {f:FuncId} {fn:Func} {c:Code} {args:List Value} {H:AHeap} (hx:ext f args H=none) (hf:P.funcs[f]?=some fn) (hb:fn.body=some c) :
    Zaw P ext f args H=Zb6 P (Zap P ext false) fn.results.toList (Zap P ext false c (ZdT fn args H)):=by
 refine Zc6 fun r=>?_
 rw [Zcw]
 have hbody:∀ call k,Zco P call k f args H=Zb6 P (fun c s=>Zae P call false k c s) fn.results.toList (Zae P call false k c (ZdT fn args H)):=by
  intro call k;unfold Zco;rw [hf];dsimp only;rw [hb]
 constructor
 · rintro ⟨k,hk⟩
   cases k with
   | zero=>rw [Zbs,hx] at hk;simp at hk
   | succ k =>
    rw [Zbs] at hk
    simp only [hx] at hk
    rw [hbody] at hk
    cases he:Zae P (Zbs P ext k) false k c (ZdT fn args H) with
    | none=>rw [he] at hk;simp [Zb6] at hk
    | some q=>rw [Zan.2 ⟨k,he⟩];rw [he] at hk;exact Zgp (fun _ _ _ h=>Zan.2 ⟨k,h⟩) hk
 · intro hh
   cases he:Zap P ext false c (ZdT fn args H) with
   | none=>rw [he] at hh;simp [Zb6] at hh
   | some q =>
    obtain ⟨k,hk⟩:=Zan.1 he
    rw [he] at hh
    obtain ⟨k2,hk2⟩:=ZoJ (theCode_lim (P:=P) (ext:=ext)) hh
    refine ⟨max k k2+1,?_⟩
    rw [Zbs]
    simp only [hx]
    have hk':Zae P (Zbs P ext (max k k2)) false (max k k2) c (ZdT fn args H)=some q:=ZcX k (max k k2) _ (by omega) hk
    rw [hbody,hk']
    exact Zgp (theCode_lim.up k2 (max k k2) (by omega)) hk2
theorem ZgN {K:Nat} {r:ALoop} {args:List Value} {H:AHeap} (hx:ext (P.funcs.size+K) args H=none) (hr:H.get K=some (.loop r)) :
    Zaw P ext (P.funcs.size+K) args H=Zdv K (Zap P ext true r.assign ⟨Ze6 r.params.toList args r.tmps,[],H⟩) (fun s=>Zap P ext true r.body s):=by
 refine Zc6 fun q=>?_
 rw [Zcw]
 have hf:P.funcs[P.funcs.size+K]?=none:=Array.getElem?_eq_none (by omega)
 have hbody:∀ call k,Zco P call k (P.funcs.size+K) args H=Zdv K (Zae P call true k r.assign ⟨Ze6 r.params.toList args r.tmps,[],H⟩) (fun s=>Zae P call true k r.body s):=by
  intro call k;unfold Zco;rw [hf];dsimp only;rw [Nat.add_sub_cancel_left];unfold ZdD;rw [hr]
 constructor
 · rintro ⟨k,hk⟩
   cases k with
   | zero=>rw [Zbs,hx] at hk;simp at hk
   | succ k =>
    rw [Zbs] at hk
    simp only [hx] at hk
    rw [hbody] at hk
    exact Zjm (fun _ h=>Zan.2 ⟨k,h⟩) (fun _ _ h=>Zan.2 ⟨k,h⟩) hk
 · intro hh
   have key:∃ k,Zdv K (Zae P (Zbs P ext k) true k r.assign ⟨Ze6 r.params.toList args r.tmps,[],H⟩) (fun s=>Zae P (Zbs P ext k) true k r.body s)=some q:=by
    unfold Zdv at hh
    split at hh
    case h_2=>simp at hh
    rename_i s1 h1
    obtain ⟨k1,h1⟩:=Zan.1 h1
    split at hh
    case h_2=>simp at hh
    rename_i r1 hr1
    split at hh
    case isFalse=>simp at hh
    rename_i hst
    dsimp only at hh
    cases h2:Zap P ext true r.body ⟨s1.tmps,s1.dfs,s1.H.set K (.loop { r1 with state:=.busy })⟩ with
    | none=>rw [h2] at hh;simp [Zfb] at hh
    | some p =>
     obtain ⟨k2,h3⟩:=Zan.1 h2
     refine ⟨max k1 k2,?_⟩
     unfold Zdv
     rw [Za2 _ _ _ _ _ _ _ (Za1 k1 (max k1 k2) (by omega)) (Nat.le_max_left k1 k2) h1]
     try dsimp only
     try rw [hr1]
     try dsimp only
     rw [if_pos hst,Za2 _ _ _ _ _ _ _ (Za1 k2 (max k1 k2) (by omega)) (Nat.le_max_right k1 k2) h3]
     rw [h2] at hh;exact hh
   obtain ⟨k,hk⟩:=key
   refine ⟨k+1,?_⟩
   rw [Zbs]
   simp only [hx]
   rw [hbody];exact hk
end
end
section
open Go
def ModeRel (γ:Emb):Mode→FrameMode→Prop
 | none,.returning=>True
 | some (v,r),.panicking chain=>∃ v',chain=[{ v:=v',recovered:=r }]∧VRel γ v v'
 | _,_=>False
theorem ModeRel.mono {β γ:Emb} (le:Emb.le β γ) {m:Mode} {u:FrameMode} (h:ModeRel β m u):ModeRel γ m u:=by
 unfold ModeRel at h ⊢
 split at h
 · trivial
 · obtain ⟨v',h1,h2⟩:=h;exact ⟨v',h1,h2.mono le⟩
 · exact h.elim
theorem ModeRel.not_run {γ:Emb} {m:Mode} {u:FrameMode} (h:ModeRel γ m u):u≠.run:=by
 intro hu;subst hu
 cases m with
 | none=>exact h
 | some q=>exact h
theorem ModeRel.some_of {γ:Emb} {v v':Value} {r:Bool} (h:VRel γ v v'):ModeRel γ (some (v,r)) (.panicking [{ v:=v',recovered:=r }]):=⟨v',rfl,h⟩
theorem Zop {γ:Emb} {m:Mode} {u:FrameMode} (h:ModeRel γ m u) (c:Frame) (cs:List Frame) :
    ∃ u' v',ModeRel γ (Zcb m).2 u'∧VRel γ (Zcb m).1 v' ∧
     ((recoverD ({ c with mode:=u }::cs)=some (v',{ c with mode:=u' }::cs))∨(recoverD ({ c with mode:=u }::cs)=none∧u'=u∧v'=.nilIface)):=by
 cases m with
 | none =>
  cases u with
  | returning=>exact ⟨.returning,.nilIface,trivial,.closed rfl,.inr ⟨rfl,rfl,rfl⟩⟩
  | run=>exact h.elim
  | panicking chain=>exact h.elim
 | some q =>
  obtain ⟨v,r⟩:=q
  cases u with
  | returning=>exact h.elim
  | run=>exact h.elim
  | panicking chain =>
   obtain ⟨v',h1,h2⟩:=h
   subst h1
   cases r with
   | false=>exact ⟨.panicking [{ v:=v',recovered:=true }],v',ModeRel.some_of h2,h2,.inl rfl⟩
   | true=>exact ⟨.panicking [{ v:=v',recovered:=true }],.nilIface,ModeRel.some_of h2,.closed rfl,.inr ⟨rfl,rfl,rfl⟩⟩
theorem ZqJ {γ:Emb} {m:Mode} {u:FrameMode} (h:ModeRel γ m u):ModeRel γ (ZdW m) (settle u):=by
 cases m with
 | none =>
  cases u with
  | returning=>trivial
  | run=>exact h.elim
  | panicking chain=>exact h.elim
 | some q =>
  obtain ⟨v,r⟩:=q
  cases u with
  | returning=>exact h.elim
  | run=>exact h.elim
  | panicking chain =>
   obtain ⟨v',h1,h2⟩:=h
   subst h1
   cases r with
   | false=>exact ⟨v',rfl,h2⟩
   | true=>trivial
section
variable {P:Program} {N0:Fz} {call:CallT}
def OutS (P:Program) (N0:Fz) (β:Emb) (w:World) (c:Frame) (cs:List Frame) (x:AExit) (m:Mode) (s:St):Exit→Act→List Frame→World→Prop :=
 fun e a' cs' w'=>∃ N1 γ u',N1.b=N0.b∧(∀ b,N0.low b→N1.low b)∧Emb.le β γ∧SRelX P N1 γ x s a' w'∧Fr N0 w w'∧Zmj γ x e∧cs' = { c with mode:=u' }::cs∧ModeRel γ m u'
theorem OutS.trans {N1:Fz} {β γ:Emb} {w w1:World} {c:Frame} {cs:List Frame} {x:AExit} {m:Mode} {s:St} (hb:N1.b=N0.b) (hl:∀ b,N0.low b→N1.low b) (le:Emb.le β γ) (hf:Fr N0 w w1) {e:Exit} {a:Act} {cs':List Frame} {w':World}
    (h:OutS P N1 γ w1 c cs x m s e a cs' w'):OutS P N0 β w c cs x m s e a cs' w':=by
 obtain ⟨N2,δ,u',a1,a2,h1,h2,h3,h4,h5,h6⟩:=h
 exact ⟨N2,δ,u',a1.trans hb,fun b h=>a2 b (hl b h),le.trans h1,h2,hf.trans (h3.weaken hl),h4,h5,h6⟩
theorem Zol {ρ:Operand→Value} {o:Oper} (h:Zbv o=true) (w:World):(execOp ρ o).run P w=.ok .recover w:=by
 unfold Zbv at h
 split at h
 case h_2=>simp at h
 rename_i c hop
 split at h
 case h_2=>simp at h
 rename_i hc
 unfold execOp;rw [hop]
 simp only [resolve,hc,Sem.run_bind,Sem.run_pure,Result.andThen_ok,invoke,builtin]
theorem ZkB {n:Nat} {ops:Array Oper} {c:Frame} {cs:List Frame} {x:AExit} {m':Mode} {s':St}:∀ (is:List Nat) (m:Mode) (s:St) (β:Emb) (a:Act) (w:World) (u:FrameMode),
    Zby P ops.toList is m s=some (x,m',s')→SRel P N0 β s a w→ModeRel β m u→∀ Q:Exit→Act→List Frame→World→Prop,(∀ e a' cs' w',OutS P N0 β w c cs x m' s' e a' cs' w'→Q e a' cs' w') →
     wpOpsSIn (WF none) n P ops Q is a ({ c with mode:=u }::cs) w:=by
 intro is
 induction is with
 | nil =>
  intro m s β a w u he hs hm Q hQ
  simp only [Zby,Option.some.injEq,Prod.mk.injEq] at he
  obtain ⟨rfl,rfl,rfl⟩:=he
  exact hQ _ _ _ _ ⟨N0,β,u,rfl,fun _ h=>h,Emb.le.refl _,hs.x _,Fr.refl _ _,trivial,rfl,hm⟩
 | cons i rest ih =>
  intro m s β a w u he hs hm Q hQ
  unfold Zby at he
  rw [Array.getElem?_toList] at he
  unfold wpOpsSIn
  cases ho:ops[i]? with
  | none=>rw [ho] at he;exact ih m s β a w u he hs hm Q hQ
  | some o =>
   rw [ho] at he
   dsimp only at he ⊢
   rw [Zge hs.tmps]
   refine ⟨fun _ _=>trivial,?_⟩
   split at he
   · rename_i hw
     rw [if_pos hw]
     have hρ:∀ x,Zaa x=true→VRel β (aev s.tmps x) (a.eval x):=fun x hx=>ZhS hs.tmps hx
     split at he
     · rename_i hrec
       split at he
       case isFalse=>simp at he
       rw [Zol hrec]
       dsimp only
       obtain ⟨u',v',h1,h2,h3⟩:=Zop hm c cs
       have hs':SRel P N0 β { s with tmps:=ZbX o.dst (Zcb m).1 s.tmps } (a.put o.dst v') w:=⟨ZcY hs.tmps o.dst h2,by rw [ZbW];exact hs.dfs,hs.heap⟩
       rcases h3 with h3 | ⟨h3,h4,h5⟩
       · rw [h3];exact ih _ _ β _ w u' he hs' h1 Q hQ
       · rw [h3];subst h4;subst h5;exact ih _ _ β _ w u' he hs' h1 Q hQ
     · split at he
       · rename_i v H hev
         obtain ⟨v',w',γ,hR,le,hh,hv,hf⟩:=(Zbe hs.heap hρ hev).inv_val
         rw [hR]
         exact ih _ _ γ _ w' u he ⟨ZcY (hs.tmps.mono le) o.dst hv,by rw [ZbW];exact hs.dfs.mono le hf,hh⟩ (hm.mono le) Q fun e' a' cs' w'' ho'=>hQ _ _ _ _ (ho'.trans rfl (fun _ h=>h) le hf)
       · rename_i H hev
         obtain ⟨w',γ,hR,le,hh,hf⟩:=(Zbe hs.heap hρ hev).inv_skip
         rw [hR]
         exact ih _ _ γ _ w' u he ⟨ZcY (hs.tmps.mono le) o.dst (.closed rfl),by rw [ZbW];exact hs.dfs.mono le hf,hh⟩ (hm.mono le) Q fun e' a' cs' w'' ho'=>hQ _ _ _ _ (ho'.trans rfl (fun _ h=>h) le hf)
       · rename_i v H hev
         obtain ⟨v',w',γ,hR,le,hh,hv,hf⟩:=(Zbe hs.heap hρ hev).inv_panic
         rw [hR]
         simp only [Option.some.injEq,Prod.mk.injEq] at he
         obtain ⟨rfl,rfl,rfl⟩:=he
         exact hQ _ _ _ _ ⟨N0,γ,u,rfl,fun _ h=>h,le,⟨.inl (hs.tmps.mono le),hs.dfs.mono le hf,hh⟩,hf,⟨v',rfl,hv⟩,rfl,hm.mono le⟩
       · simp at he
   · rename_i hw
     rw [if_neg hw]
     exact ih _ _ β _ w u he ⟨ZcY hs.tmps o.dst (.closed rfl),by rw [ZbW];exact hs.dfs,hs.heap⟩ hm Q hQ
theorem OutS.normal {β:Emb} {w:World} {c:Frame} {cs:List Frame} {m:Mode} {s:St} {e:Exit} {a':Act} {cs':List Frame} {w':World} (h:OutS P N0 β w c cs .normal m s e a' cs' w') (hb:N0.b≤w.heap.size) :
    e=.normal∧∃ N1 γ u',N1.b=N0.b∧(∀ b,N0.low b→N1.low b)∧Emb.le β γ∧SRel P N1 γ s a' w'∧Fr N0 w w'∧N1.b≤w'.heap.size∧cs' = { c with mode:=u' }::cs∧ModeRel γ m u':=by
 obtain ⟨N1,γ,u',h1,h2,le,hs,hf,hx,hc,hm⟩:=h
 cases e<;>first | exact hx.elim | skip
 refine ⟨rfl,N1,γ,u',h1,h2,le,⟨?_,hs.dfs,hs.heap⟩,hf,by rw [h1];exact Nat.le_trans hb hf.size,hc,hm⟩
 rcases hs.tmps with h | ⟨_,v,hv⟩
 · exact h
 · cases hv
theorem ZoU (hcall:Zbn P call) (hmo:P.follows .mixedOrders=true) (k:Nat):∀ (b:Code) (n:Nat) (m:Mode) (s:St) (x:AExit) (m':Mode) (s':St) (N0:Fz) (β:Emb) (a:Act) (c:Frame) (cs:List Frame) (w:World) (u:FrameMode),
    ZbA P (fun c s=>Zae P call false k c s) b m s=some (x,m',s')→SRel P N0 β s a w→N0.b≤w.heap.size→ModeRel β m u→∀ Q:Exit→Act→List Frame→World→Prop,(∀ e a' cs' w',OutS P N0 β w c cs x m' s' e a' cs' w'→Q e a' cs' w') →
     b.wpSIn (WF none) n P Q a ({ c with mode:=u }::cs) w:=by
 have keep:∀ (b:Code) (n:Nat) (m:Mode) (s:St) (x:AExit) (m':Mode) (s':St) (N0:Fz) (β:Emb) (a:Act) (c:Frame) (cs:List Frame) (w:World) (u:FrameMode),
  Zfk m (Zae P call false k b s)=some (x,m',s')→SRel P N0 β s a w→N0.b≤w.heap.size→ModeRel β m u→∀ Q:Exit→Act→List Frame→World→Prop,(∀ e a' cs' w',OutS P N0 β w c cs x m' s' e a' cs' w'→Q e a' cs' w') →
   b.wpSIn (WF none) n P Q a ({ c with mode:=u }::cs) w:=by
  intro b n m s x m' s' N0 β a c cs w u he hs hb hm Q hQ
  cases hc:Zae P call false k b s with
  | none=>rw [hc] at he;simp [Zfk] at he
  | some q =>
   obtain ⟨x1,s1⟩:=q
   rw [hc] at he
   simp only [Zfk,Option.some.injEq,Prod.mk.injEq] at he
   obtain ⟨rfl,rfl,rfl⟩:=he
   refine wpSIn_of_wpIn rfl ((ZfY hcall hmo k).1 b none n s _ _ N0 β a w hc hs hb _ fun e a' w' ho=>?_)
   obtain ⟨N1,γ,g1,g2,le,hs1,hf,hx⟩:=ho
   exact hQ _ _ _ _ ⟨N1,γ,u,g1,g2,le,hs1,hf,hx,rfl,hm.mono le⟩
 intro b
 induction b with
 | seq c1 c2 ih1 ih2 =>
  intro n m s x m' s' N0 β a c cs w u he hs hb hm Q hQ
  rw [ZbA] at he
  refine wpSIn_seq ?_
  split at he
  · rename_i m1 s1 h1
    refine ih1 n m s _ _ _ N0 β a c cs w u h1 hs hb hm _ fun e a' cs' w' ho=>?_
    obtain ⟨rfl,N1,γ,u',g1,g2,le,hs1,hf,hb1,hc,hm1⟩:=ho.normal hb
    subst hc
    exact ih2 n m1 s1 _ _ _ N1 γ a' c cs w' u' he hs1 hb1 hm1 _ fun e2 a2 cs2 w2 ho2=>hQ _ _ _ _ (ho2.trans g1 g2 le hf)
  · rename_i hne
    cases hr:ZbA P (fun c s=>Zae P call false k c s) c1 m s with
    | none=>rw [hr] at he;simp at he
    | some q =>
     obtain ⟨x1,m1,s1⟩:=q
     rw [hr] at he
     obtain ⟨rfl,rfl,rfl⟩:=(by simpa using he:x1=x∧m1=m'∧s1=s')
     refine ih1 n m s _ _ _ N0 β a c cs w u hr hs hb hm _ fun e a' cs' w' ho=>?_
     have hq:=hQ _ _ _ _ ho
     obtain ⟨N1,γ,u',g1,g2,le,hs1,hf,hx,hc,hm1⟩:=ho
     cases e<;>first | exact hq | skip
     cases x1<;>first | exact hx.elim | skip
     exact absurd hr (hne _ _)
 | cond q c1 c2 ih1 ih2 =>
  intro n m s x m' s' N0 β a c cs w u he hs hb0 hm Q hQ
  rw [ZbA] at he
  split at he
  case isFalse=>simp at he
  rename_i hok
  have hv:=ZhS hs.tmps hok
  have hb:=ZhQ hv
  split at he
  · rename_i ht
    rw [ht] at hb
    have hbv:a.eval q=.bool true:=by
     cases hc:a.eval q<;>rw [hc] at hb<;>simp_all [ZdF]
    exact wpSIn_cond hbv (ih1 n m s _ _ _ N0 β a c cs w u he hs hb0 hm _ hQ)
  · rename_i ht
    rw [ht] at hb
    have hbv:a.eval q=.bool false:=by
     cases hc:a.eval q<;>rw [hc] at hb<;>simp_all [ZdF]
    exact wpSIn_cond hbv (ih2 n m s _ _ _ N0 β a c cs w u he hs hb0 hm _ hQ)
  · simp at he
 | region id ops draw =>
  intro n m s x m' s' N0 β a c cs w u he hs hb hm Q hQ
  rw [ZbA] at he
  split at he
  · rename_i hc
    obtain ⟨rfl,_⟩:=hc
    exact wpSIn_region (ZkB _ m s β a w u he hs hm Q hQ)
  · exact keep _ _ _ _ _ _ _ _ _ _ _ _ _ _ he hs hb hm Q hQ
 | skip=>intro n m s x m' s' N0 β a c cs w u he;exact keep _ _ _ _ _ _ _ _ _ _ _ _ _ _ he
 | block _ _ _=>intro n m s x m' s' N0 β a c cs w u he;exact keep _ _ _ _ _ _ _ _ _ _ _ _ _ _ he
 | loop _ _=>intro n m s x m' s' N0 β a c cs w u he;exact keep _ _ _ _ _ _ _ _ _ _ _ _ _ _ he
 | exit _=>intro n m s x m' s' N0 β a c cs w u he;exact keep _ _ _ _ _ _ _ _ _ _ _ _ _ _ he
 | ret=>intro n m s x m' s' N0 β a c cs w u he;exact keep _ _ _ _ _ _ _ _ _ _ _ _ _ _ he
 | label _=>intro n m s x m' s' N0 β a c cs w u he;exact keep _ _ _ _ _ _ _ _ _ _ _ _ _ _ he
 | rangeFunc _ _ _ _ _ _=>intro n m s x m' s' N0 β a c cs w u he;exact keep _ _ _ _ _ _ _ _ _ _ _ _ _ _ he
 | scope _ _=>intro n m s x m' s' N0 β a c cs w u he;exact keep _ _ _ _ _ _ _ _ _ _ _ _ _ _ he
 | goto _=>intro n m s x m' s' N0 β a c cs w u he;exact keep _ _ _ _ _ _ _ _ _ _ _ _ _ _ he
 | refuse _=>intro n m s x m' s' N0 β a c cs w u he;exact keep _ _ _ _ _ _ _ _ _ _ _ _ _ _ he
def Zhp (P:Program):List Deferred→World→(World→Prop)→Prop
 | [],w,K=>K w
 | d::ds,w,K=>∃ r w',d.target=.collected r∧(Instr.takeDeferred r).run P w=.ok [] w'∧Zhp P ds w' K
theorem Zgn {F:Fence} {n:Nat} {K:World→Prop}:∀ (ds:List Deferred) (w:World) (fr:Frame) (cs:List Frame),fr.mode≠.run→fr.defers=ds→F.fn fr.fn→F.room (cs.length+1+n)→Zhp P ds w K →
    ∃ w',K w'∧StepsIn (Machine.fenced P F) P (lone fr cs w) (lone { fr with defers:=[] } cs w')
 | [],w,fr,cs,_,hd,_,_,h=>by
  have:({ fr with defers:=[] }:Frame)=fr:=by rw [←hd]
  exact ⟨w,h,by rw [this];exact StepsIn.refl _⟩
 | d::ds,w,fr,cs,hm,hd,hF,hr,h=>by
  obtain ⟨r,w',htar,htake,hrest⟩:=h
  have h1:=step_collected (cs:=cs) hm hd htar htake
  have i1:(lone fr cs w).fenced P F:=fenced_out hF hr hm hd (fun g hg=>by rw [htar] at hg;simp [Target.leads] at hg)
  obtain ⟨w'',k,hs⟩:=Zgn ds w' { fr with defers:=[]++ds } cs hm rfl hF hr hrest
  exact ⟨w'',k,StepsIn.head i1 h1 hs⟩
def Zlf (P:Program) (fn:Func) (c₀:Frame) (cs:List Frame) (R:Ending→FrameMode→World→Prop):Exit→Act→List Frame→World→Prop
 | .normal,a,cs',w | .ret,a,cs',w =>
  ∃ u',cs' = { c₀ with mode:=u' }::cs∧Zhp P a.defers w fun w'=>∃ v,(results fn a.tmps).run P w'=.ok v w'∧R (.returned v) u' w'
 | _,_,_,_=>False
theorem ZhO {F:Fence} {n:Nat} {f:FuncId} {fn:Func} {c:Code} {args:Array Value} {u:FrameMode} {w:World} {R:Ending→FrameMode→World→Prop}
    (hf:P.funcs[f]?=some fn) (hb:fn.body=some c) (hF:F.fn f)
    (h:∀ (c₀:Frame) (cs:List Frame),c₀.mode=u →
     c.wpSIn F n P (Zlf P fn c₀ cs R) { tmps:=args++Array.replicate (fn.ntmps-args.size) undef,defers:=[] } (c₀::cs) w) :
    CallsDIn F n P f args u w R:=by
 refine ⟨hF,fun c₀ cs hu hroom=>?_⟩
 let b:Frame:={ (default:Frame) with fn:=f,kind:=.deferred,roundOf:=none }
 have henter:Frame.enter P f args .deferred =
     b.atR { tmps:=args++Array.replicate (fn.ntmps-args.size) undef,defers:=[] } [.code c]:=by
  simp [Frame.enter,Frame.atR,hf,hb,b]
 obtain ⟨e,a',cs',w',hl,hq,harr⟩:=h c₀ cs hu b [] rfl rfl hF hroom
 rw [←henter] at harr
 have hroom':F.room (cs'.length+1+n):=by rw [hl];exact hroom
 cases e with
 | normal =>
  obtain ⟨u',rfl,hme⟩:=hq
  obtain ⟨w'',⟨v,hr,hR⟩,hs⟩:=Zgn a'.defers w' { b.atR a' [] with mode:=.returning } _ (by simp) rfl hF hroom' hme
  exact ⟨.returned v,u',w'',_,hR,StepsIn.trans harr (StepsIn.trans (.one (fenced_calm (fr:=b.atR a' []) hF hroom' rfl) (stepR_end rfl)) hs),rfl,rfl,rfl,rfl,fn,hf,hr⟩
 | ret =>
  obtain ⟨u',rfl,hme⟩:=hq
  obtain ⟨todo,hs0⟩:=harr.1 rfl
  obtain ⟨w'',⟨v,hr,hR⟩,hs⟩:=Zgn a'.defers w' { b.atR a' todo with mode:=.returning } _ (by simp) rfl hF hroom' hme
  exact ⟨.returned v,u',w'',_,hR,StepsIn.trans hs0 hs,rfl,rfl,rfl,rfl,fn,hf,hr⟩
 | panic chain=>exact hq.elim
 | exit id=>exact hq.elim
 | goto l=>exact hq.elim
 | outgrown=>exact hq.elim
end
end
section
open Go
section
variable {P:Program} {call:CallT}
theorem Zb7 (hcall:Zbn P call) {rnd:Bool} {ops:List Oper} {x:AExit} {s':St}:∀ (is:List Nat) (s:St),ZaT P call rnd ops is s=some (x,s')→AHeap.le s.H s'.H
 | [],s,h=>by
  simp only [ZaT,Option.some.injEq,Prod.mk.injEq] at h
  obtain ⟨_,rfl⟩:=h
  exact AHeap.le_refl _
 | i::rest,s,h=>by
  unfold ZaT at h
  cases ho:ops[i]? with
  | none=>rw [ho] at h;exact Zb7 hcall rest s h
  | some o =>
   rw [ho] at h
   dsimp only at h
   split at h
   · rename_i hw
     split at h
     · rename_i c hop
       split at h
       case isFalse=>simp at h
       split at h
       case h_2=>simp at h
       have:=Zb7 hcall rest _ h
       exact this
     · rename_i hnd
       split at h
       · rename_i v H he
         exact AHeap.le_trans (Za3 he) (Zb7 hcall rest _ h)
       · rename_i H he
         exact AHeap.le_trans (Za3 he) (Zb7 hcall rest _ h)
       · rename_i f args H he
         split at h
         · rename_i v H' hc
           exact AHeap.le_trans (Za3 he) (AHeap.le_trans (hcall _ _ _ _ _ hc).1 (Zb7 hcall rest _ h))
         · rename_i v H' hc
           simp only [Option.some.injEq,Prod.mk.injEq] at h
           obtain ⟨_,rfl⟩:=h
           exact AHeap.le_trans (Za3 he) (hcall _ _ _ _ _ hc).1
         · simp at h
       · rename_i v H he
         simp only [Option.some.injEq,Prod.mk.injEq] at h
         obtain ⟨_,rfl⟩:=h
         exact Za3 he
       · simp at h
   · have:=Zb7 hcall rest _ h
     exact this
theorem Znv (hcall:Zbn P call) {ops:List Oper} {s:St} {x:AExit} {s':St} (h:ZbK P call ops s=some (x,s')):AHeap.le s.H s'.H:=by
 have key:∀ {l:List Oper} {plan:List Nat} {T:List Tr} {He:AHeap} {x1:AExit} {s1:St},ZaB P call l s.dfs plan s.tmps s.H=some (T,He,x1,s1)→AHeap.le s.H s1.H:=by
  intro l plan T He x1 s1 hr
  obtain ⟨tmE,rest,_,hch,hend⟩:=ZdO _ _ _ _ _ _ _ hr
  have h1:=(Chain.next hcall T hch).1
  rcases hend with ⟨_,_,rfl⟩ | ⟨j,r,v,H',_,_,rfl,hp⟩
  · exact h1
  · obtain ⟨o,_,_,hh⟩:=hp.ex
    rcases hh with ⟨f,args,H1,he,hc⟩ | he
    · exact AHeap.le_trans h1 (AHeap.le_trans (Za3 he) (hcall _ _ _ _ _ hc).1)
    · exact AHeap.le_trans h1 (Za3 he)
 unfold ZbK at h
 split at h
 · unfold Zdj at h
   split at h
   case h_2=>simp at h
   rename_i T He x1 s1 hr
   split at h
   case isFalse=>simp at h
   simp only [Option.some.injEq,Prod.mk.injEq] at h
   obtain ⟨_,rfl⟩:=h
   exact key hr
 · unfold ZeG at h
   split at h
   case h_2=>simp at h
   rename_i T He x1 s1 hr
   split at h
   case isFalse=>simp at h
   simp only [Option.some.injEq,Prod.mk.injEq] at h
   obtain ⟨_,rfl⟩:=h
   exact key hr
theorem Zdi (hcall:Zbn P call) {rnd:Bool}:∀ (k:Nat) (c:Code) (s:St) (x:AExit) (s':St),Zae P call rnd k c s=some (x,s')→AHeap.le s.H s'.H:=by
 intro k
 induction k using Nat.strongRecOn with
 | _ k ihk =>
  intro c
  induction c with
  | seq c1 c2 ih1 ih2 =>
   intro s x s' h
   rw [Zae] at h
   split at h
   · rename_i s1 h1
     exact AHeap.le_trans (ih1 _ _ _ h1) (ih2 _ _ _ h)
   · exact ih1 _ _ _ h
  | cond c c1 c2 ih1 ih2 =>
   intro s x s' h
   rw [Zae] at h
   split at h
   case isFalse=>simp at h
   split at h
   · exact ih1 _ _ _ h
   · exact ih2 _ _ _ h
   · simp at h
  | block id c1 ih1 =>
   intro s x s' h
   rw [Zae] at h
   split at h
   · rename_i i s1 h1
     have:=ih1 _ _ _ h1
     split at h<;>(obtain ⟨_,rfl⟩:=(by simpa using h);exact this)
   · exact ih1 _ _ _ h
  | loop c1 ih1 =>
   intro s x s' h
   cases k with
   | zero=>rw [Zae] at h;simp at h
   | succ k =>
    rw [Zae] at h
    split at h
    · rename_i s1 h1
      exact AHeap.le_trans (ihk k (by omega) _ _ _ _ h1) (ihk k (by omega) _ _ _ _ h)
    · exact ihk k (by omega) _ _ _ _ h
  | region id ops draw =>
   intro s x s' h
   rw [Zae] at h
   split at h
   · exact Znv hcall h
   · exact Zb7 hcall _ _ h
  | skip=>intro s x s' h;rw [Zae] at h;obtain ⟨_,rfl⟩:=(by simpa using h:AExit.normal=x∧s=s');exact AHeap.le_refl _
  | rangeFunc f ps as b _ _ =>
   intro s x s' h
   rw [Zae] at h
   split at h
   case isTrue=>simp at h
   split at h
   case h_2=>simp at h
   rename_i f0 args H1 hrc
   have h1:AHeap.le s.H H1:=by
    unfold ZbV at hrc
    repeat' (split at hrc)
    all_goals first | (simp at hrc;done) | skip
    simp only [Option.some.injEq,Prod.mk.injEq] at hrc
    obtain ⟨_,_,rfl⟩:=hrc
    exact AHeap.le_push _ _
   unfold Zcc at h
   split at h
   case h_2=>simp at h
   rename_i v H' hc
   split at h
   case h_2=>simp at h
   rename_i r hr
   split at h
   case isTrue=>simp at h
   split at h
   case h_2=>simp at h
   simp only [Option.some.injEq,Prod.mk.injEq] at h
   obtain ⟨_,rfl⟩:=h
   exact AHeap.le_trans h1 (AHeap.le_trans (hcall _ _ _ _ _ hc).1 (AHeap.le_set hr))
  | exit id=>intro s x s' h;rw [Zae] at h;obtain ⟨_,rfl⟩:=(by simpa using h:AExit.exit id=x∧s=s');exact AHeap.le_refl _
  | scope b _=>intro s x s' h;rw [Zae] at h;simp at h
  | label l=>intro s x s' h;rw [Zae] at h;obtain ⟨_,rfl⟩:=(by simpa using h:AExit.normal=x∧s=s');exact AHeap.le_refl _
  | goto l=>intro s x s' h;rw [Zae] at h;simp at h
  | ret=>intro s x s' h;rw [Zae] at h;obtain ⟨_,rfl⟩:=(by simpa using h:AExit.ret=x∧s=s');exact AHeap.le_refl _
  | refuse why=>intro s x s' h;rw [Zae] at h;simp at h
def Zjp (tmps:Array Value):ResultVar→Sem Value
 | .tmp t=>pure (tmps.getD t undef)
 | .cell a t=>asAddr (tmps.getD a undef) >>= fun ad=>loadVar t ad
def ZD0 (vs:Array Value):Value:=if h:vs.size=1 then vs[0] else .tuple vs
theorem ZqO (fn:Func) (tmps:Array Value):results fn tmps=fn.results.mapM (Zjp tmps) >>= fun vs=>pure (ZD0 vs):=by
 unfold results
 congr 1
theorem Zoo {N0:Fz} {β:Emb} {H:AHeap} {w:World} (h:HRel P N0 β H w) {tmps:List Value} {tmps':Array Value} (ht:VRels β tmps tmps'.toList):∀ {r:ResultVar} {v:Value},Zet P H tmps r=some v →
    ∃ v',(Zjp tmps' r).run P w=.ok v' w∧VRel β v v':=by
 have hget:∀ t,VRel β (tmps.getD t undef) (tmps'.getD t undef):=by
  intro t
  rw [List.getD_eq_getElem?_getD,Array.getD_eq_getD_getElem?,←Array.getElem?_toList]
  cases hg:tmps[t]? with
  | none =>
   have:tmps'.toList[t]?=none:=by
    have hl:=VRels.length ht
    rw [List.getElem?_eq_none_iff] at hg ⊢
    omega
   rw [this]
   exact .closed rfl
  | some v =>
   obtain ⟨v',h1,h2⟩:=VRels.get ht hg
   rw [h1];exact h2
 intro r v hr
 cases r with
 | tmp t =>
  simp only [Zet,Option.some.injEq] at hr
  subst hr
  exact ⟨_,rfl,hget t⟩
 | cell a t =>
  unfold Zet at hr
  dsimp only at hr
  split at hr
  · rename_i ad had
    have:=hget a
    rw [had] at this
    obtain ⟨c,hc,ha⟩:=this.inv_pointer
    obtain ⟨v',h1,h2⟩:=h.loadV_run hr ha
    refine ⟨v',?_,h2⟩
    show ((asAddr (tmps'.getD a undef) >>= fun ad=>loadVar t ad):Sem Value).run P w=_
    rw [hc]
    simp [asAddr,h1]
  · simp at hr
theorem Zh7 {N0:Fz} {β:Emb} {H:AHeap} {w:World} (h:HRel P N0 β H w) {tmps:List Value} {tmps':Array Value} (ht:VRels β tmps tmps'.toList):∀ {rs:List ResultVar} {vs:List Value},ZaW P H tmps rs=some vs →
    ∃ vs',(rs.mapM (Zjp tmps')).run P w=.ok vs' w∧VRels β vs vs'
 | [],vs,hr=>by
  simp only [ZaW,Option.some.injEq] at hr
  subst hr
  exact ⟨[],by simp,.nil⟩
 | r::rs,vs,hr=>by
  unfold ZaW at hr
  split at hr
  case h_2=>simp at hr
  rename_i v hv
  split at hr
  case h_2=>simp at hr
  rename_i vs0 hvs
  simp only [Option.some.injEq] at hr
  subst hr
  obtain ⟨v',h1,h2⟩:=Zoo h ht hv
  obtain ⟨vs',h3,h4⟩:=Zh7 h ht hvs
  refine ⟨v'::vs',?_,.cons h2 h4⟩
  simp only [List.mapM_cons,Sem.run_bind,h1,h3,Result.andThen_ok,Sem.run_pure]
theorem Zjo {N0:Fz} {β:Emb} {H:AHeap} {w:World} (h:HRel P N0 β H w) {fn:Func} {tmps:List Value} {tmps':Array Value} (ht:VRels β tmps tmps'.toList) {vs:List Value} (hr:ZaW P H tmps fn.results.toList=some vs) :
    ∃ v',(results fn tmps').run P w=.ok v' w∧VRel β (Zly vs) v':=by
 obtain ⟨vs',h1,h2⟩:=Zh7 h ht hr
 rw [ZqO,Array.mapM_eq_mapM_toList]
 simp only [Sem.run_bind,map_eq_pure_bind,h1,Result.andThen_ok,Sem.run_pure]
 refine ⟨_,rfl,?_⟩
 cases h2 with
 | nil=>exact .closed rfl
 | cons h g =>
  cases g with
  | nil=>exact h
  | cons h' g'=>exact .tuple (.cons h (.cons h' g'))
theorem Zla {β:Emb} {fn:Func} {args:List Value} {args':Array Value} (h:VRels β args args'.toList) (H:AHeap):VRels β (ZdT fn args H).tmps (args'++Array.replicate (fn.ntmps-args'.size) undef).toList:=by
 unfold ZdT
 have hl:=VRels.length h
 simp only [Array.length_toList] at hl
 simp only [Array.toList_append,Array.toList_replicate,hl]
 exact VRels.append h (VRels.replicate (.closed rfl) _)
theorem Zh9 {N0 N1:Fz} {γ:Emb} {H:AHeap} {K:World→Prop} (hlt:∀ b,N0.low b→b<N1.b):∀ (ds:List Deferred) (w:World),DRels P N1 γ w [] ds→HRel P N0 γ H w →
    (∀ w',HRel P N0 γ H w'→Fr N0 w w'→K w')→Zhp P ds w K
 | [],w,_,hh,h=>h w hh (Fr.refl _ _)
 | d::ds,w,hd,hh,h=>by
  cases hd with
  | mark h1 h2 h3 h4 g =>
   rename_i r
   have hf:Fr N0 w (w.putObj r (.deferred none)):=⟨by simp,fun b hb=>World.putObj_heap_other (by have:=hlt b hb;omega),rfl,rfl⟩
   exact ⟨r,_,rfl,run_takeDeferred h3,Zh9 hlt ds _ (g.put h4) (hh.putDeferred h3 _) fun w' hh' hf'=>h w' hh' (hf.trans hf')⟩
theorem Zcd {ops:List Oper} {x:AExit} {m':Mode} {s':St}:∀ (is:List Nat) (m:Mode) (s:St),Zby P ops is m s=some (x,m',s')→AHeap.le s.H s'.H
 | [],m,s,h=>by
  simp only [Zby,Option.some.injEq,Prod.mk.injEq] at h
  obtain ⟨_,_,rfl⟩:=h
  exact AHeap.le_refl _
 | i::rest,m,s,h=>by
  unfold Zby at h
  cases ho:ops[i]? with
  | none=>rw [ho] at h;exact Zcd rest m s h
  | some o =>
   rw [ho] at h
   dsimp only at h
   split at h
   · split at h
     · split at h
       · have:=Zcd rest _ _ h;exact this
       · simp at h
     · split at h
       · rename_i v H he
         exact AHeap.le_trans (Za3 he) (Zcd rest _ _ h)
       · rename_i H he
         exact AHeap.le_trans (Za3 he) (Zcd rest _ _ h)
       · rename_i v H he
         simp only [Option.some.injEq,Prod.mk.injEq] at h
         obtain ⟨_,_,rfl⟩:=h
         exact Za3 he
       · simp at h
   · have:=Zcd rest _ _ h
     exact this
theorem Zrm (hcall:Zbn P call) (k:Nat):∀ (c:Code) (m:Mode) (s:St) (x:AExit) (m':Mode) (s':St),ZbA P (fun c s=>Zae P call false k c s) c m s=some (x,m',s')→AHeap.le s.H s'.H:=by
 have keep:∀ (c:Code) (m:Mode) (s:St) (x:AExit) (m':Mode) (s':St),Zfk m (Zae P call false k c s)=some (x,m',s')→AHeap.le s.H s'.H:=by
  intro c m s x m' s' he
  cases hc:Zae P call false k c s with
  | none=>rw [hc] at he;simp [Zfk] at he
  | some q =>
   obtain ⟨x1,s1⟩:=q
   rw [hc] at he
   simp only [Zfk,Option.some.injEq,Prod.mk.injEq] at he
   obtain ⟨rfl,rfl,rfl⟩:=he
   exact Zdi hcall k _ _ _ _ hc
 intro c
 induction c with
 | seq c1 c2 ih1 ih2 =>
  intro m s x m' s' h
  rw [ZbA] at h
  split at h
  · rename_i m1 s1 h1
    exact AHeap.le_trans (ih1 _ _ _ _ _ h1) (ih2 _ _ _ _ _ h)
  · exact ih1 _ _ _ _ _ h
 | cond c c1 c2 ih1 ih2 =>
  intro m s x m' s' h
  rw [ZbA] at h
  split at h
  case isFalse=>simp at h
  split at h
  · exact ih1 _ _ _ _ _ h
  · exact ih2 _ _ _ _ _ h
  · simp at h
 | region id ops draw =>
  intro m s x m' s' h
  rw [ZbA] at h
  split at h
  · exact Zcd _ _ _ h
  · exact keep _ _ _ _ _ _ h
 | skip=>intro m s x m' s' h;exact keep _ _ _ _ _ _ h
 | block _ _ _=>intro m s x m' s' h;exact keep _ _ _ _ _ _ h
 | loop _ _=>intro m s x m' s' h;exact keep _ _ _ _ _ _ h
 | exit _=>intro m s x m' s' h;exact keep _ _ _ _ _ _ h
 | ret=>intro m s x m' s' h;exact keep _ _ _ _ _ _ h
 | label _=>intro m s x m' s' h;exact keep _ _ _ _ _ _ h
 | rangeFunc _ _ _ _ _ _=>intro m s x m' s' h;exact keep _ _ _ _ _ _ h
 | scope _ _=>intro m s x m' s' h;exact keep _ _ _ _ _ _ h
 | goto _=>intro m s x m' s' h;exact keep _ _ _ _ _ _ h
 | refuse _=>intro m s x m' s' h;exact keep _ _ _ _ _ _ h
theorem ZoH {fn:Func} {y:Option (AExit×Mode×St)} {m':Mode} {H':AHeap} (h:Zd8 P fn y=some (m',H')) :
    ∃ x m s vs,y=some (x,m,s)∧(x=.normal∨x=.ret)∧s.dfs=[]∧ZaW P s.H s.tmps fn.results.toList=some vs∧m'=ZdW m∧H'=s.H:=by
 unfold Zd8 at h
 split at h
 · split at h
   case h_2=>simp at h
   rename_i vs hvs
   simp only [Option.some.injEq,Prod.mk.injEq] at h
   obtain ⟨rfl,rfl⟩:=h
   exact ⟨_,_,_,vs,rfl,.inl rfl,rfl,hvs,rfl,rfl⟩
 · split at h
   case h_2=>simp at h
   rename_i vs hvs
   simp only [Option.some.injEq,Prod.mk.injEq] at h
   obtain ⟨rfl,rfl⟩:=h
   exact ⟨_,_,_,vs,rfl,.inr rfl,rfl,hvs,rfl,rfl⟩
 · simp at h
def Zu8 (P:Program) (N0:Fz) (β:Emb) (w:World) (m':Mode) (H':AHeap):Ending→FrameMode→World→Prop :=
 fun e u' w'=>∃ v γ,e=.returned v∧Emb.le β γ∧HRel P N0 γ H' w'∧Fr N0 w w'∧ModeRel γ m' (settle u')
theorem Zkb (hcall:Zbn P call) (hm:P.follows .mixedOrders=true) (k:Nat) {d:ADef} {m:Mode} {H:AHeap} {m':Mode} {H':AHeap} (h:ZbL P (fun c s=>Zae P call false k c s) d m H=some (m',H')) :
    AHeap.le H H'∧∀ (N0:Fz) (β:Emb) (w:World) (args':Array Value) (u:FrameMode),HRel P N0 β H w→VRels β d.args args'.toList→ModeRel β m u→∀ n,CallsDIn (WF none) n P d.f args' u w (Zu8 P N0 β w m' H'):=by
 unfold ZbL at h
 split at h
 case h_2=>simp at h
 rename_i fn hf
 split at h
 case h_2=>simp at h
 rename_i c hb
 obtain ⟨x,m1,s',vs,he,hxx,hd,hvs,rfl,rfl⟩:=ZoH h
 refine ⟨Zrm hcall k c _ _ _ _ _ he,fun N0 β w args' u hh ha hmr n=>?_⟩
 refine ZhO hf hb trivial fun c0 cs hu=>?_
 let N0':Fz:=⟨N0.low,w.heap.size⟩
 have hh':HRel P N0' β H w:=hh.weaken fun b hb=>hb
 have hc0:({ c0 with mode:=u }:Frame)=c0:=by subst hu;rfl
 have:=ZoU hcall hm k c n m _ _ _ _ N0' β { tmps:=args'++Array.replicate (fn.ntmps-args'.size) undef,defers:=[] } c0 cs w u he ⟨Zla ha H,.nil,hh'⟩ (Nat.le_refl _) hmr (Zlf P fn c0 cs (Zu8 P N0 β w (ZdW m1) s'.H)) ?_
 · rw [hc0] at this;exact this
 intro e' a' cs' w' ho
 obtain ⟨N1,γ,u',g1,g2,le,hs,hfr,hx,hcs,hm1⟩:=ho
 have hfr0:Fr N0 w w':=hfr.weaken (N1:=N0') fun b hb=>hb
 have hlt:∀ b,N0.low b→b<N1.b:=fun b hb=>by rw [g1];exact hh.base b hb
 have hh1:HRel P N0 γ s'.H w':=hs.heap.weaken fun b hb=>g2 b hb
 have hdd:DRels P N1 γ w' [] a'.defers:=by rw [←hd];exact hs.dfs
 have htm:VRels γ s'.tmps a'.tmps.toList:=by
  rcases hs.tmps with h | ⟨_,v,hv⟩
  · exact h
  · rcases hxx with h | h<;>(rw [h] at hv;cases hv)
 have fin:∃ u',cs' = { c0 with mode:=u' }::cs∧Zhp P a'.defers w' fun w''=>∃ v,(results fn a'.tmps).run P w''=.ok v w''∧Zu8 P N0 β w (ZdW m1) s'.H (.returned v) u' w'':=by
  refine ⟨u',hcs,Zh9 hlt _ _ hdd hh1 fun w'' hh2 hf2=>?_⟩
  obtain ⟨v',h1,h2⟩:=Zjo hh2 htm hvs
  exact ⟨v',h1,v',γ,rfl,le,hh2,hfr0.trans hf2,ZqJ hm1⟩
 rcases hxx with rfl | rfl
 · cases e'<;>first | exact hx.elim | skip
   exact fin
 · cases e'<;>first | exact hx.elim | skip
   exact fin
theorem ZhV (hcall:Zbn P call) (hm:P.follows .mixedOrders=true) (k:Nat):∀ (ds:List ADef) (m:Mode) (H:AHeap) (m':Mode) (H':AHeap),ZaL P (fun c s=>Zae P call false k c s) ds m H=some (m',H')→AHeap.le H H'
 | [],m,H,m',H',h=>by
  simp only [ZaL,Option.some.injEq,Prod.mk.injEq] at h
  obtain ⟨_,rfl⟩:=h
  exact AHeap.le_refl _
 | d::ds,m,H,m',H',h=>by
  unfold ZaL at h
  split at h
  · rename_i m1 H1 h1
    exact AHeap.le_trans (Zkb hcall hm k h1).1 (ZhV hcall hm k ds _ _ _ _ h)
  · simp at h
theorem ZeA (hcall:Zbn P call) (hm:P.follows .mixedOrders=true) (k:Nat) {N0 N1:Fz} {n:Nat} {fn:Func} {tmps:Array Value} {R:Ending→World→Prop} (hlt:∀ b,N0.low b→b<N1.b) (hlow:∀ b,N0.low b→N1.low b) {m':Mode} {H':AHeap} :
    ∀ (ds':List Deferred) (ds:List ADef) (m:Mode) (H:AHeap) (γ:Emb) (w:World) (u:FrameMode),DRels P N1 γ w ds ds'→HRel P N1 γ H w→ModeRel γ m u→ZaL P (fun c s=>Zae P call false k c s) ds m H=some (m',H') →
    (∀ δ u' w',Emb.le γ δ→HRel P N1 δ H' w'→Fr N0 w w'→ModeRel δ m' u'→LeavesIn (WF none) n P fn tmps R [] u' w')→LeavesInM (WF none) n P fn tmps R ds' u w
 | [],ds,m,H,γ,w,u,hd,hh,hmr,he,h=>by
  cases hd
  simp only [ZaL,Option.some.injEq,Prod.mk.injEq] at he
  obtain ⟨rfl,rfl⟩:=he
  exact h γ u w (Emb.le.refl _) hh (Fr.refl _ _) hmr
 | c::ds',ds,m,H,γ,w,u,hd,hh,hmr,he,h=>by
  cases hd with
  | mark h1 h2 h3 h4 g =>
   rename_i r
   have hf:Fr N0 w (w.putObj r (.deferred none)):=⟨by simp,fun b hb=>World.putObj_heap_other (by have:=hlt b hb;omega),rfl,rfl⟩
   exact ⟨hmr.not_run,.inl ⟨r,_,rfl,run_takeDeferred h3,ZeA hcall hm k hlt hlow ds' ds m H γ _ u (g.put h4) (hh.putDeferred h3 _) hmr he fun δ u' w' a1 a2 a3 a4=>h δ u' w' a1 a2 (hf.trans a3) a4⟩⟩
  | cons hdr g =>
   rename_i d ds
   unfold ZaL at he
   split at he
   case h_2=>simp at he
   rename_i m1 H1 h1
   obtain ⟨cap,htar,hargs⟩:=hdr.ex
   obtain ⟨fn',hfn',hen'⟩:=hdr.en
   refine ⟨hmr.not_run,.inr ⟨fun hx=>by simp [WF,Fence.wide] at hx,.func d.f,cap,d.f,c.args++cap,htar,?_,fun _ _=>trivial,?_⟩⟩
   · rw [htar];simp only [invoke,Zfu hfn' hen']
   · refine CallsDIn.mono ((Zkb hcall hm k h1).2 N1 γ w (c.args++cap) u hh hargs hmr _) ?_
     intro e u1 w1 hr
     obtain ⟨v,δ,rfl,le,hh1,hf1,hm1⟩:=hr
     exact ZeA hcall hm k hlt hlow ds' ds m1 H1 δ w1 _ (g.mono le hf1) hh1 hm1 he fun ε u' w' a1 a2 a3 a4=>h ε u' w' (le.trans a1) a2 ((hf1.weaken hlow).trans a3) a4
theorem ZqL {γ:Emb} {ps:Array Tmp} {args:List Value} {args':Array Value} {tmps:List Value} {tmps':Array Value} (ha:VRels γ args args'.toList) (ht:VRels γ tmps tmps'.toList) :
    VRels γ (Ze6 ps.toList args tmps) ((ps.zip args').foldl (fun tmps (t,a)=>tmps.setIfInBounds t a) tmps').toList:=by
 unfold Ze6
 rw [←Array.foldl_toList,Array.toList_zip]
 generalize args'.toList=as at ha
 generalize ps.toList=qs
 induction qs generalizing args as tmps tmps' with
 | nil=>exact ht
 | cons p qs ih =>
  cases ha with
  | nil=>exact ht
  | cons h g =>
   simp only [List.zip_cons_cons,List.foldl_cons]
   refine ih ?_ _ g
   rw [Array.toList_setIfInBounds]
   exact VRels.set ht p h
theorem ZoI {code:Code→St→Option (AExit×St)} {rs:List ResultVar} {y:Option (AExit×St)} {e:AEnd} {H':AHeap} (h:Zb6 P code rs y=some (e,H')) :
    ∃ x s,y=some (x,s)∧(((x=.normal∨x=.ret)∧ZkD P rs s.tmps (ZaL P code s.dfs none s.H)=some (e,H'))∨(∃ v,x=.panic v∧(s.dfs=[]∨s.tmps≠[]∨∃ v',e=.panic v')∧ZkD P rs s.tmps (ZaL P code s.dfs (some (v,false)) s.H)=some (e,H'))):=by
 unfold Zb6 at h
 split at h
 · exact ⟨_,_,rfl,.inl ⟨.inl rfl,h⟩⟩
 · exact ⟨_,_,rfl,.inl ⟨.inr rfl,h⟩⟩
 · exact ⟨_,_,rfl,.inr ⟨_,rfl,.inl rfl,h⟩⟩
 · exact ⟨_,_,rfl,.inl ⟨.inl rfl,h⟩⟩
 · exact ⟨_,_,rfl,.inl ⟨.inr rfl,h⟩⟩
 · exact ⟨_,_,rfl,.inr ⟨_,rfl,.inr (.inl (by simp)),h⟩⟩
 · obtain ⟨v,H,h1,h2⟩:=Zgi h
   simp only [Prod.mk.injEq] at h2
   obtain ⟨rfl,rfl⟩:=h2
   exact ⟨_,_,rfl,.inr ⟨_,rfl,.inr (.inr ⟨_,rfl⟩),by rw [h1];rfl⟩⟩
 · simp at h
theorem Zrp (hcall:Zbn P call) (hm:P.follows .mixedOrders=true) (k:Nat) {f:FuncId} {fn:Func} (hf:P.funcs[f]?=some fn) {args:List Value} {H:AHeap} {e:AEnd} {H':AHeap} (h:Zco P call k f args H=some (e,H')) :
    AHeap.le H H'∧∀ (N0:Fz) (β:Emb) (w:World) (args':Array Value),HRel P N0 β H w→VRels β args args'.toList→∀ n,CallsIn (WF none) n P f args' w (ZeP P N0 β w e H'):=by
 unfold Zco at h
 rw [hf] at h
 dsimp only at h
 split at h
 case h_2=>simp at h
 rename_i c hb
 obtain ⟨x,s',he,hcase⟩:=ZoI h
 have hnext:AHeap.le H s'.H:=Zdi hcall k c _ _ _ he
 have key:∃ (m m':Mode) (H2:AHeap),ZaL P (fun c s=>Zae P call false k c s) s'.dfs m s'.H=some (m',H2)∧H'=H2∧((m'=none∧(∀ v,x=.panic v→s'.tmps≠[])∧∃ vs,ZaW P H2 s'.tmps fn.results.toList=some vs∧e=.ret (Zly vs))∨(∃ v,m'=some (v,false)∧e=.panic v)) ∧
     (((x=.normal∨x=.ret)∧m=none)∨(∃ v,x=.panic v∧m=some (v,false))):=by
  have kk:∀ m,ZkD P fn.results.toList s'.tmps (ZaL P (fun c s=>Zae P call false k c s) s'.dfs m s'.H)=some (e,H')→∃ (m':Mode) (H2:AHeap),ZaL P (fun c s=>Zae P call false k c s) s'.dfs m s'.H=some (m',H2)∧H'=H2 ∧
      ((m'=none∧∃ vs,ZaW P H2 s'.tmps fn.results.toList=some vs∧e=.ret (Zly vs))∨(∃ v,m'=some (v,false)∧e=.panic v)):=by
   intro m hh
   cases hu:ZaL P (fun c s=>Zae P call false k c s) s'.dfs m s'.H with
   | none=>rw [hu] at hh;simp [ZkD] at hh
   | some q =>
    rw [hu] at hh
    unfold ZkD at hh
    split at hh
    · rename_i H2 hq
      split at hh
      case h_2=>simp at hh
      rename_i vs hvs
      simp only [Option.some.injEq,Prod.mk.injEq] at hh
      obtain ⟨rfl,rfl⟩:=hh
      exact ⟨none,H2,hq,rfl,.inl ⟨rfl,vs,hvs,rfl⟩⟩
    · rename_i v H2 hq
      simp only [Option.some.injEq,Prod.mk.injEq] at hh
      obtain ⟨rfl,rfl⟩:=hh
      exact ⟨some (v,false),H2,hq,rfl,.inr ⟨v,rfl,rfl⟩⟩
    · simp at hh
  rcases hcase with ⟨hx,hh⟩ | ⟨v,rfl,hne,hh⟩
  · obtain ⟨m',H2,a1,a2,a3⟩:=kk none hh
    refine ⟨none,m',H2,a1,a2,?_,.inl ⟨hx,rfl⟩⟩
    rcases a3 with ⟨b1,b2⟩ | b
    · exact .inl ⟨b1,fun v hv=>by rcases hx with h | h<;>(rw [h] at hv;cases hv),b2⟩
    · exact .inr b
  · obtain ⟨m',H2,a1,a2,a3⟩:=kk _ hh
    refine ⟨some (v,false),m',H2,a1,a2,?_,.inr ⟨v,rfl,rfl⟩⟩
    rcases a3 with ⟨b1,b2⟩ | b
    · refine .inl ⟨b1,fun _ _=>?_,b2⟩
      rcases hne with h | h | ⟨v',h⟩
      · rw [h] at a1;simp [ZaL] at a1;rw [b1] at a1;simp at a1
      · exact h
      · obtain ⟨vs,_,b3⟩:=b2
        rw [h] at b3;cases b3
    · exact .inr b
 obtain ⟨m,m',H2,hu,rfl,hend,hstart⟩:=key
 have hnext2:=ZhV hcall hm k _ _ _ _ _ hu
 refine ⟨AHeap.le_trans hnext hnext2,fun N0 β w args' hh ha n=>?_⟩
 refine callsIn_of_wp_marks hf hb trivial ?_
 let N0':Fz:=⟨N0.low,w.heap.size⟩
 have hh':HRel P N0' β H w:=hh.weaken fun b hb=>hb
 refine (ZfY hcall hm k).1 c none n _ _ _ N0' β _ w he ⟨Zla ha H,.nil,hh'⟩ (Nat.le_refl _) _ ?_
 intro e' a' w' ho
 obtain ⟨N1,γ,g1,g2,le,hs,hfr,hx⟩:=ho
 have hfr0:Fr N0 w w':=hfr.weaken (N1:=N0') fun b hb=>hb
 have hlt:∀ b,N0.low b→b<N1.b:=fun b hb=>by rw [g1];exact hh.base b hb
 have fin:∀ u,ModeRel γ m u→LeavesInM (WF none) n P fn a'.tmps (ZeP P N0 β w e H') a'.defers u w':=by
  intro u hu0
  refine ZeA hcall hm k hlt (fun b hb=>g2 b hb) _ _ _ _ _ _ _ hs.dfs hs.heap hu0 hu fun δ u' w'' le2 hh2 hf2 hm2=>?_
  have hh3:HRel P N0 δ H' w'':=hh2.weaken fun b hb=>g2 b hb
  rcases hend with ⟨rfl,hne,vs,hvs,rfl⟩ | ⟨v,rfl,rfl⟩
  · cases u'<;>first | exact hm2.elim | skip
    have htm:VRels δ s'.tmps a'.tmps.toList:=by
     rcases hs.tmps with h | ⟨h,v,hv⟩
     · exact h.mono le2
     · exact absurd h (hne v hv)
    obtain ⟨v',h1,h2⟩:=Zjo hh3 htm hvs
    exact ⟨v',h1,δ,le.trans le2,hh3,h2,hfr0.trans hf2⟩
  · cases u'<;>first | exact hm2.elim | skip
    exact ⟨δ,le.trans le2,hh3,hm2,hfr0.trans hf2⟩
 rcases hstart with ⟨hxx,rfl⟩ | ⟨v,rfl,rfl⟩
 · rcases hxx with rfl | rfl
   · cases e'<;>first | exact hx.elim | skip
     exact fin .returning trivial
   · cases e'<;>first | exact hx.elim | skip
     exact fin .returning trivial
 · cases e'<;>first | exact hx.elim | skip
   exact fin _ hx
theorem Zom {K:Nat} {x:Option (AExit×St)} {k:St→Option (AExit×St)} {e:AEnd} {H':AHeap} (h:Zdv K x k=some (e,H')):∃ s1 r1 y s2 j r2,x=some (.normal,s1)∧s1.H.get K=some (.loop r1)∧r1.state=.ready ∧
    k ⟨s1.tmps,s1.dfs,s1.H.set K (.loop { r1 with state:=.busy })⟩=some (y,s2)∧Zia y=some j∧s2.H.get K=some (.loop r2)∧e=.ret (.bool j.isNone)∧H'=s2.H.set K (.loop { r2 with state:=if j.isNone then .ready else .done,pending:=j }):=by
 unfold Zdv at h
 split at h
 case h_2=>simp at h
 rename_i s1
 split at h
 case h_2=>simp at h
 rename_i r1 hr1
 split at h
 case isFalse=>simp at h
 rename_i hst
 unfold Zfb at h
 split at h
 case h_2=>simp at h
 rename_i y s2 hk
 split at h
 case h_2=>simp at h
 rename_i j hj
 split at h
 case h_2=>simp at h
 rename_i r2 hr2
 simp only [Option.some.injEq,Prod.mk.injEq] at h
 exact ⟨s1,r1,y,s2,j,r2,rfl,hr1,hst,hk,hj,hr2,h.1.symm,h.2.symm⟩
theorem Zno (hcall:Zbn P call) (hm:P.follows .mixedOrders=true) (k:Nat) {K:Nat} {args:List Value} {H:AHeap} {e:AEnd} {H':AHeap} (h:ZdD P call k K args H=some (e,H')) :
    AHeap.le H H'∧∀ (N0:Fz) (β:Emb) (w:World) (l:Nat) (r':Loop) (args':Array Value),HRel P N0 β H w→β.loop K=some l→w.heap[l]?=some (.loop r')→VRels β args args'.toList →
     ∀ ro n,RoundIn (WF ro) n P l r'.fn ((r'.params.zip args').foldl (fun tmps (t,a)=>tmps.setIfInBounds t a) r'.tmps) r'.assign r'.body w (ZeP P N0 β w e H'):=by
 unfold ZdD at h
 split at h
 case h_2=>simp at h
 rename_i r hr
 obtain ⟨s1,r1,y,s2,j,r2,h1,hr1,hst,h2,hj,hr2,rfl,rfl⟩:=Zom h
 have n1:=Zdi hcall k _ _ _ _ h1
 have n2:=Zdi hcall k _ _ _ _ h2
 refine ⟨AHeap.le_trans n1 (AHeap.le_trans (AHeap.le_set hr1) (AHeap.le_trans n2 (AHeap.le_set hr2))),?_⟩
 intro N0 β w l r' args' hh hl hw ha ro n
 obtain ⟨q,q',a1,a2,a3,a4⟩:=hh.lp _ _ hl
 rw [hr] at a1
 obtain rfl:r=q:=by simpa using a1
 rw [hw] at a3
 obtain rfl:r'=q':=by simpa using a3
 refine roundIn_of_wpIn trivial ?_
 let N0':Fz:=⟨N0.low,w.heap.size⟩
 have hh':HRel P N0' β H w:=hh.weaken fun b hb=>hb
 rw [a4.assign,a4.body]
 refine (ZfY hcall hm k).1 r.assign (some l) n _ _ _ N0' β _ w h1 ⟨by rw [a4.params];exact ZqL ha a4.tmps,.nil,hh'⟩ (Nat.le_refl _) _ ?_
 intro e1 b1 w1 ho
 obtain ⟨rfl,N1,γ,g1,g2,le,hs1,hf1,hb1⟩:=ho.normal (Nat.le_refl _)
 have hl1:=le.loop _ _ hl
 obtain ⟨p,p',c1,c2,c3,c4⟩:=hs1.heap.lp _ _ hl1
 rw [hr1] at c1
 obtain rfl:r1=p:=by simpa using c1
 refine ⟨_,run_beginRound c3 (by rw [c4.state];exact hst),?_⟩
 obtain ⟨hh2,hf2⟩:=hs1.heap.setLoop (r:={ r1 with state:=.busy }) (r':={ p' with state:=.busy }) hl1 ⟨rfl,c4.pending,c4.tmps,c4.params,c4.assign,c4.body⟩
 refine (ZfY hcall hm k).1 r.body (some l) n _ _ _ N1 γ _ _ h2 ⟨hs1.tmps,hs1.dfs.mono (Emb.le.refl _) hf2,hh2⟩ (by simpa using hb1) _ ?_
 intro e2 b2 w3 ho2
 obtain ⟨N2,δ,g3,g4,le2,hs2,hf3,hx⟩:=ho2
 have hl2:=le2.loop _ _ hl1
 obtain ⟨p2,p2',d1,d2,d3,d4⟩:=hs2.heap.lp _ _ hl2
 rw [hr2] at d1
 obtain rfl:r2=p2:=by simpa using d1
 obtain ⟨hh4,hf4⟩:=hs2.heap.setLoop (r:={ r2 with state:=if j.isNone then .ready else .done,pending:=j }) (r':={ p2' with state:=if j.isNone then .ready else .done,pending:=j }) hl2 ⟨rfl,rfl,d4.tmps,d4.params,d4.assign,d4.body⟩
 have hfr:Fr N0 w (w3.putObj l (.loop { p2' with state:=if j.isNone then .ready else .done,pending:=j })) :=
  ((hf1.weaken (N1:=N0') fun b hb=>hb:Fr N0 w w1).trans (((hf2.trans hf3).weaken g2:Fr N0' _ _).weaken (N1:=N0') fun b hb=>hb)).trans (hf4.weaken fun b hb=>g4 b (g2 b hb))
 have fin:ZeP P N0 β w (.ret (.bool j.isNone)) (s2.H.set K (.loop { r2 with state:=if j.isNone then .ready else .done,pending:=j })) (.returned (.bool j.isNone)) (w3.putObj l (.loop { p2' with state:=if j.isNone then .ready else .done,pending:=j })) :=
  ⟨δ,le.trans le2,hh4.weaken fun b hb=>g4 b (g2 b hb),.closed rfl,hfr⟩
 have hrun:=run_endRound (P:=P) j d3
 cases y with
 | normal =>
  obtain rfl:none=j:=by simpa [Zia] using hj
  cases e2<;>first | exact hx.elim | skip
  exact ⟨_,_,hrun,fin⟩
 | ret =>
  obtain rfl:some Code.ret=j:=by simpa [Zia] using hj
  cases e2<;>first | exact hx.elim | skip
  exact ⟨_,_,hrun,fin⟩
 | exit i =>
  obtain rfl:some (Code.exit i)=j:=by simpa [Zia] using hj
  cases e2<;>first | exact hx.elim | skip
  obtain rfl:=(hx:i=_)
  exact ⟨_,_,hrun,fin⟩
 | panic v=>simp [Zia] at hj
theorem ZoV (hcall:Zbn P call) (hm:P.follows .mixedOrders=true) (k:Nat) {f:FuncId} {args:List Value} {H:AHeap} {e:AEnd} {H':AHeap} (h:Zco P call k f args H=some (e,H')) :
    AHeap.le H H'∧∀ (N0:Fz) (β:Emb) (w:World) (nx:Next),HRel P N0 β H w→Comes P β w f args nx→∀ (ro:Option Nat) (n:Nat),ZnY (WF ro) n P nx w (ZeP P N0 β w e H'):=by
 cases hf:P.funcs[f]? with
 | some fn =>
  obtain ⟨h1,h2⟩:=Zrp hcall hm k hf h
  refine ⟨h1,fun N0 β w nx hh hc ro n=>?_⟩
  cases hc with
  | fn hf' ha =>
   have:=h2 N0 β w _ hh ha n
   cases ro<;>exact this
  | round he _ _ _ _ =>
   rw [he,Array.getElem?_eq_none (by omega)] at hf;simp at hf
 | none =>
  unfold Zco at h
  rw [hf] at h
  obtain ⟨h1,h2⟩:=Zno hcall hm k h
  refine ⟨h1,fun N0 β w nx hh hc ro n=>?_⟩
  cases hc with
  | fn hf' ha=>rw [hf] at hf';simp at hf'
  | round he hl hw hs ha =>
   subst he
   rw [Nat.add_sub_cancel_left] at h2
   exact h2 N0 β w _ _ _ hh hl hw ha ro n
theorem Zuw {ext:CallT} (hext:Zbn P ext) (hm:P.follows .mixedOrders=true):∀ k,Zbn P (Zbs P ext k):=by
 intro k
 induction k with
 | zero=>exact hext
 | succ k ih =>
  intro f args H e H' h
  rw [Zbs] at h
  dsimp only at h
  split at h
  · rename_i q hq
    rw [h] at hq
    exact hext f args H e H' hq
  · exact ZoV ih hm k h
theorem ZkM {ext:CallT} (hext:Zbn P ext) (hm:P.follows .mixedOrders=true):Zbn P (Zaw P ext):=by
 intro f args H e H' h
 obtain ⟨k,hk⟩:=Zcw.1 h
 exact Zuw hext hm k f args H e H' hk
end
end
section
open Go
def ZlQ (W:World) (i:Nat):Bool:=match W.heap[i]? with
 | some (.cells _ _ _)=>true
 | _=>false
def ZcI (W:World):Emb where
 row i k:=if k=0∧ZlQ W i=true then some (i,0) else none
 map _:=none
 loop _:=none
 bsz b:=match W.heap[b]? with
  | some (.cells c _ _)=>c.size
  | _=>0
 bes _:=0
 live i:=decide (i<W.heap.size+1)
 nx:=W.heap.size+1
open Classical in
noncomputable def ZfQ (W:World) (v:Value):Value:=if VRel (ZcI W) v v then v else match v with
 | .slice (some _) 0 0=>.slice (some ⟨W.heap.size,0,none⟩) 0 0
 | _=>v
theorem ZlU {W:World} {v:Value} (h:VRel (ZcI W) v v):ZfQ W v=v:=by unfold ZfQ;rw [if_pos h]
open Classical in
noncomputable def Zer (W:World) (v:Value):Nat:=if VRel (ZcI W) (ZfQ W v) v then 0 else 1
noncomputable def Zcy (W:World):AHeap where
 next:=W.heap.size+1
 get i:=match W.heap[i]? with
  | some (.cells c e _)=>some (.arr (c.toList.map (ZfQ W)) (c.toList.map (Zer W)) 1 e true)
  | _=>none
theorem ZfM {W:World} {i:Nat} (h:ZlQ W i=true):∃ c e fz,W.heap[i]?=some (.cells c e fz):=by
 unfold ZlQ at h
 split at h
 · rename_i c e fz hb;exact ⟨c,e,fz,hb⟩
 · simp at h
theorem ZqH {W:World} (v:Value):Zer W v≤1:=by unfold Zer;split<;>omega
theorem Zmz {W:World} {v:Value} (h:Zer W v≤0):VRel (ZcI W) (ZfQ W v) v:=by
 unfold Zer at h
 split at h
 · assumption
 · omega
theorem Zgs {W:World} {i:Nat} {c:Array Value} {e:TypeId} {fz:Nat×Nat} (h:W.heap[i]?=some (.cells c e fz)) :
    (Zcy W).view i=some ⟨c.toList.map (ZfQ W),fun j=>(c.toList.map (Zer W)).getD j 0,1,e,true⟩:=by
 simp [AHeap.view,Zcy,h,AObj.view]
theorem ZsC {W:World} (l:List Value) (j:Nat):(l.map (Zer W)).getD j 0≤1:=by
 rw [List.getD_eq_getElem?_getD,List.getElem?_map]
 cases l[j]? with
 | none=>simp
 | some v=>simpa using ZqH v
theorem ZhG (P:Program) (W:World):HRel P ⟨fun b=>b<W.heap.size,0⟩ (ZcI W) (Zcy W) W:=by
 have hrow:∀ {i k b o:Nat},(ZcI W).row i k=some (b,o)→k=0∧b=i∧o=0∧ZlQ W i=true:=by
  intro i k b o h
  unfold ZcI at h
  dsimp only at h
  split at h
  · rename_i hc
    simp only [Option.some.injEq,Prod.mk.injEq] at h
    exact ⟨hc.1,h.1.symm,h.2.symm,hc.2⟩
  · simp at h
 have hview:∀ {i:Nat} {r:RowV},(Zcy W).view i=some r→∃ c e fz,W.heap[i]?=some (.cells c e fz)∧r=⟨c.toList.map (ZfQ W),fun j=>(c.toList.map (Zer W)).getD j 0,1,e,true⟩:=by
  intro i r h
  unfold AHeap.view Zcy at h
  dsimp only at h
  split at h
  · rename_i c e fz hb
    simp only [Option.bind_some,AObj.view,Option.some.injEq] at h
    exact ⟨c,e,fz,hb,h.symm⟩
  · simp at h
 constructor
 · intro i k b o r h1 h2
   obtain ⟨rfl,rfl,rfl,_⟩:=hrow h1
   obtain ⟨c,e,fz,hb,rfl⟩:=hview h2
   refine ⟨c,fz,{ blk:=hb,size:=by simp [ZcI,hb],elem:=fun h=>by simp at h,robes:=fun _=>rfl,cell:=?_,own:=fun h=>by simp at h,gen:=by simp }⟩
   intro j v hj hst
   dsimp only at hj hst
   rw [List.getElem?_map] at hj
   obtain ⟨u,hu,rfl⟩:=Option.map_eq_some_iff.1 hj
   rw [List.getD_eq_getElem?_getD,List.getElem?_map,hu] at hst
   exact ⟨u,by rw [Nat.zero_add,←Array.getElem?_toList];exact hu,Zmz (by simpa using hst)⟩
 · intro i b es h;simp [ZcI] at h
 · intro i k p h
   obtain ⟨b,o⟩:=p
   obtain ⟨_,_,_,hr⟩:=hrow h
   obtain ⟨c,e,fz,hb⟩:=ZfM hr
   exact ⟨_,Zgs hb⟩
 · intro i b h;simp [ZcI] at h
 · intro i h
   have h':W.heap.size+1≤i:=h
   have:W.heap[i]?=none:=Array.getElem?_eq_none (by omega)
   simp [Zcy,this]
 · intro i r h j
   obtain ⟨c,e,fz,_,rfl⟩:=hview h
   exact ZsC _ _
 · intro i k b o i' k' o' r r' h1 h2 h3 h4
   obtain ⟨_,rfl,_,_⟩:=hrow h1
   obtain ⟨_,e,_,_⟩:=hrow h2
   exact .inl e
 · intro i i' b h;simp [ZcI] at h
 · exact fun _ h=>h
 · rfl
 · intro i k p h
   obtain ⟨b,o⟩:=p
   obtain ⟨c,e,fz,hb⟩:=ZfM (hrow h).2.2.2
   have:=(Array.getElem?_eq_some_iff.1 hb).1
   show decide (i<W.heap.size+1)=true
   rw [decide_eq_true_eq];omega
 · intro i b h;simp [ZcI] at h
 · intro i h
   exact of_decide_eq_true (h:decide (i<W.heap.size+1)=true)
 · intro i b h;simp [ZcI] at h
 · intro i i' b h;simp [ZcI] at h
theorem ZAm {W:World} {a:Addr} (hs:a.spot=none) (hr:ZlQ W a.block=true):ARel (ZcI W) a a:=by
 refine ⟨a.block,0,?_,?_⟩
 · simp [ZcI,ZnV,hs,hr]
 · cases a;simp_all
theorem Zrd {W:World} {a:Addr} {len cap:Nat} (hs:a.spot=none) (hr:ZlQ W a.block=true) (hl:len≤cap):VRel (ZcI W) (.slice (some a) len cap) (.slice (some a) len cap) :=
 .slice (ZAm hs hr) hl (Nat.le_refl _) (fun h=>by simp [ZcI] at h)
theorem Zle {W:World} {a:Addr} {v:Value} (h:W.cell? a=some v):a.spot=none∧ZlQ W a.block=true:=by
 unfold World.cell? at h
 unfold ZlQ
 split at h
 · rename_i c e fz hb
   rw [hb]
   split at h
   · simp at h
   · rename_i hs
     exact ⟨by simpa using hs,rfl⟩
 · simp at h
theorem Zm3 {W:World} {a:Addr} {v:Value} (h:W.cell? a=some v) (hg:VRel (ZcI W) (ZfQ W v) v):(Zcy W).cell a=some (ZfQ W v):=by
 obtain ⟨hs,hr⟩:=Zle h
 obtain ⟨c,e,fz,hb⟩:=ZfM hr
 unfold World.cell? at h
 rw [hb] at h
 simp only [hs,Option.isSome_none,Bool.false_eq_true,if_false] at h
 have hj:c.toList[a.off]?=some v:=by rw [Array.getElem?_toList];exact h
 unfold AHeap.cell
 rw [Zgs hb]
 dsimp only
 rw [List.getElem?_map,hj]
 dsimp only [Option.map_some]
 rw [if_pos]
 rw [List.getD_eq_getElem?_getD,List.getElem?_map,hj]
 simp [Zer,hg]
theorem Zrh {W:World} {a:Addr}:VRel (ZcI W) (ZfQ W (.slice (some a) 0 0)) (.slice (some a) 0 0):=by
 unfold ZfQ
 split
 · assumption
 · exact .sliceZ (by simp [ZcI])
theorem ZlV (W:World) (a:Addr):∃ c,ZfQ W (.slice (some a) 0 0)=.slice (some c) 0 0:=by
 unfold ZfQ
 split
 · exact ⟨a,rfl⟩
 · exact ⟨_,rfl⟩
theorem ZnX {a:Addr} (hs:a.spot=none) (n:Nat):a.add n=Zck a n:=by
 unfold Addr.add Zck
 split
 · rename_i h;subst h;cases a;simp_all
 · rw [hs]
theorem Zid {W:World}:∀ {n:Nat} {a:Addr} {vs:List Value},a.spot=none→vs.length=n→(∀ i v,vs[i]?=some v→W.cell? (Zck a i)=some v∧VRel (ZcI W) (ZfQ W v) v)→(Zcy W).readN a n=some (vs.map (ZfQ W))
 | 0,a,vs,_,hl,_=>by rw [List.eq_nil_of_length_eq_zero hl];rfl
 | n+1,a,[],_,hl,_=>by simp at hl
 | n+1,a,v::vs,hs,hl,h=>by
  obtain ⟨h1,h2⟩:=h 0 v rfl
  unfold AHeap.readN
  have e0:Zck a 0=a:=by cases a;simp [Zck]
  rw [e0] at h1
  rw [Zm3 h1 h2]
  dsimp only
  rw [Zid (n:=n) (a:=Zck a 1) (vs:=vs) hs (by simpa using hl) fun i u hu=>?_]
  · rfl
  · have:=h (i+1) u (by simpa using hu)
    have e1:Zck (Zck a 1) i=Zck a (i+1):=by simp only [Zck];congr 1;omega
    rw [e1];exact this
theorem cells?_at {W:World} {base:Nat} {a:Addr} {n:Nat} {cs:List Value} (h:W.cells? base a n=some cs):cs.length=n∧∀ i v,cs[i]?=some v→W.cell? (a.add i)=some v:=by
 unfold World.cells? at h
 split at h
 · have hl:=mapM_some_length h
   refine ⟨by simpa using hl,fun i v hi=>?_⟩
   have hin:i<n:=by have:=(List.getElem?_eq_some_iff.1 hi).1;simp at hl;omega
   have key:∀ (l:List Nat) (f:Nat→Option Value) (r:List Value),l.mapM f=some r→∀ (i:Nat) (v:Value),r[i]?=some v→∃ x,l[i]?=some x∧f x=some v:=by
    intro l f
    induction l with
    | nil=>intro r hr i v hi;simp at hr;subst hr;simp at hi
    | cons x xs ih =>
     intro r hr i v hi
     rw [List.mapM_cons] at hr
     cases hx:f x with
     | none=>simp [hx] at hr
     | some y =>
      cases hxs:xs.mapM f with
      | none=>simp [hx,hxs] at hr
      | some ys =>
       simp [hx,hxs] at hr
       subst hr
       cases i with
       | zero=>simp at hi;subst hi;exact ⟨x,by simp,hx⟩
       | succ i=>simp only [List.getElem?_cons_succ] at hi ⊢;exact ih _ hxs _ _ hi
   obtain ⟨x,hx,hf⟩:=key _ _ _ h i v hi
   rw [List.getElem?_range hin] at hx
   obtain rfl:i=x:=by simpa using hx
   exact hf
 · simp at h
theorem ZEF {P:Program} {ext:CallT} (hext:Zbn P ext) (hm:P.follows .mixedOrders=true) {f:FuncId} {fn:Func} (hfn:P.funcs[f]?=some fn) {args:Array Value} {as:List Value} {W:World} {v:Value} {H':AHeap}
    (h:Zaw P ext f as (Zcy W)=some (.ret v,H')) (hv:Zab v=true) (ha:VRels (ZcI W) as args.toList) :
    Calls P f args W fun e W'=>e=.returned v∧Fr ⟨fun b=>b<W.heap.size,0⟩ W W':=by
 refine (callsIn_wide (n:=0)).1 ?_
 have hc:CallsIn (WF none) 0 P f args W _:=((ZkM hext hm) _ _ _ _ _ h).2 ⟨fun b=>b<W.heap.size,0⟩ (ZcI W) W (.enter f args) (ZhG P W) (.fn hfn ha) none 0
 refine CallsIn.mono hc ?_
 intro e W' hr
 obtain ⟨γ,le,hh,he,hf⟩:=hr
 cases e with
 | returned v'=>exact ⟨by rw [VRel.eq_of_closed he hv],hf⟩
 | panicked c=>exact he.elim
 | outgrown=>exact he.elim
section
open Go.ChangeShapes
variable {H:Type} {enc:TypeId×Value→H} {P:Program} {W W':World}
theorem Fr.keptBut (h:Fr ⟨fun b=>b<W.heap.size,0⟩ W W') (may:MemPlace→Prop):W.keptBut W' may:=by
 refine ⟨h.os,h.out,fun i hi=>?_⟩
 rw [h.low i hi]
 cases hb:W.heap[i]? with
 | none=>rfl
 | some o =>
  cases o<;>first | rfl | exact ⟨rfl,rfl,rfl,fun _ _=>rfl⟩ | exact .inr ⟨rfl,rfl⟩
theorem Fr.sameAt (h:Fr ⟨fun b=>b<W.heap.size,0⟩ W W') {p:MemPlace} (hp:p.block<W.heap.size):W.sameAt W' p:=by
 cases p with
 | cell b off =>
  show W'.cell? _=W.cell? _
  unfold World.cell?
  have:=h.low b hp
  simp only [this]
 | map b=>exact h.low b hp
theorem Zhn (h:Fr ⟨fun b=>b<W.heap.size,0⟩ W W') {base:Nat} {spare:Nat→Bool} {held:Bool}:∀ {ts:List TypeId} {vs:List Value} {ds:List (DataW H)} {ps:List MemPlace},(∀ p∈ps,p.block<W.heap.size) →
    DataW.TrodAll enc P W base spare held ts vs ds ps→DataW.TrodAll enc P W' base spare held ts vs ds ps
 | [],[],[],_,_,h=>h
 | [],[],_::_,_,_,h=>h
 | [],_::_,_,_,_,h=>h
 | _::_,[],_,_,_,h=>h
 | _::_,_::_,[],_,_,h=>h
 | _::_,_::_,_::_,_,hp,⟨p,q,⟨n,h1⟩,h2,e⟩=>by
  refine ⟨p,q,⟨n,DataW.trod_carry _ _ _ _ h1 fun x hx=>h.sameAt (hp x (by rw [e];simp [hx]))⟩,Zhn h (fun x hx=>hp x (by rw [e];simp [hx])) h2,e⟩
theorem Ztl {T:TypeId→Prop} (K:Kids P T) (hz:∀ t e,T t→P.underlying t=some (.slice e)→0<P.cellsOf e) {f:Func} {s:ChangeSpec} {fresh handsOn:Bool} {args:Array Value} {ds:List (DataW H)} {before:List MemPlace} {t:TypeId}
    (hW:DataW.Whole enc P f.params.toList s.vars false W args.toList ds [] before) (hT:∀ t∈f.params.toList,T t) (hvars:s.vars=[]) (hres:f.resultTypes = #[t]) (hb:P.underlying t=some .bool)
    (hr:(s.fn H (ds++[])).results=[.lit (.bool true)]) (hargs:(s.fn H (ds++[])).args=ds) (hgs:(s.fn H (ds++[])).vars=[]) (hf:Fr ⟨fun b=>b<W.heap.size,0⟩ W W') :
    s.post enc P f false fresh handsOn false W args (.bool true) W':=by
 have hW':=hW
 obtain ⟨p,q,h1,h2,h3,h4,h5⟩:=hW
 have hlt:∀ x∈before,x.block<W.heap.size:=fun x hx=>hW'.lt x hx
 have hq:q=[]:=by rw [hvars] at h2;exact h2
 subst hq
 rw [List.append_nil] at h3
 subst h3
 refine ⟨ds,[],before,[],before,[],hW',?_,?_,?_,hf.keptBut _,fun h=>by simp at h⟩
 · rw [hres,hr]
   refine ⟨[],[],⟨1,?_⟩,rfl,rfl⟩
   simp [DataW.trod,hb,Value.cells]
 · rw [hargs]
   refine Zhn hf hlt (DataW.TrodAll.respare K hz hT h1 fun x hx=>?_)
   simpa using hlt x hx
 · rw [hvars,hgs];rfl
end
end
section
open Go
section
variable {P:Program} {call:CallT}
noncomputable def opA (P:Program) (H:AHeap) (ρ:Operand→Value) (op:Op) (ty:TypeId):Option ARes:=Zao P H ρ ⟨none,op,ty, "",#[],none⟩
theorem ZaE (H:AHeap) (ρ:Operand→Value) (o:Oper):Zao P H ρ o=opA P H ρ o.op o.type:=by
 unfold opA
 have hx:∀ ρ',execOp ρ' o=execOp ρ' ⟨none,o.op,o.type, "",#[],none⟩:=fun ρ'=>by unfold execOp;rfl
 have hc:Zaz P ρ o=Zaz P ρ ⟨none,o.op,o.type, "",#[],none⟩:=by unfold Zaz;rw [hx]
 have hop:ZaG P H ρ o=ZaG P H ρ ⟨none,o.op,o.type, "",#[],none⟩:=by
  unfold ZaG;rw [hc]
 have hcall:∀ c,Zbm P H ρ o c=Zbm P H ρ ⟨none,o.op,o.type, "",#[],none⟩ c:=by
  intro c;unfold Zbm;rw [hc]
 unfold Zao
 simp only [hop,hcall]
def Zbd:Op→Bool
 | .defer _=>true
 | _=>false
def Za5 (call:CallT) (dst:Option Nat) (k:St→Option (AExit×St)) (s:St):Option ARes→Option (AExit×St)
 | some (.val v H)=>k ⟨ZbX dst v s.tmps,s.dfs,H⟩
 | some (.skip H)=>k ⟨ZbX dst undef s.tmps,s.dfs,H⟩
 | some (.enter f args H)=>match call f args H with
  | some (.ret v,H')=>k ⟨ZbX dst v s.tmps,s.dfs,H'⟩
  | some (.panic v,H')=>some (.panic v,⟨s.tmps,s.dfs,H'⟩)
  | none=>none
 | some (.panic v H)=>some (.panic v,⟨s.tmps,s.dfs,H⟩)
 | _=>none
def callA (dst:Option Nat) (k:St→Option (AExit×St)) (tmps:List Value) (dfs:List ADef):Option (AEnd×AHeap)→Option (AExit×St)
 | some (.ret v,H')=>k ⟨ZbX dst v tmps,dfs,H'⟩
 | some (.panic v,H')=>some (.panic v,⟨tmps,dfs,H'⟩)
 | none=>none
noncomputable def Zbq (P:Program) (call:CallT) (rnd:Bool) (all:List Oper):List Oper→St→Option (AExit×St)
 | [],s=>some (.normal,s)
 | o::rest,s =>
  if Zat all s.tmps o then
   if Zbd o.op then match o.op with
    | .defer c=>if rnd=false∧o.op.operands.all Zaa=true then match Zd1 P (aev s.tmps) c with
        | some d=>Zbq P call rnd all rest ⟨ZbX o.dst undef s.tmps,d::s.dfs,s.H⟩
        | none=>none
     else none
    | _=>none
   else Za5 call o.dst (Zbq P call rnd all rest) s (opA P s.H (aev s.tmps) o.op o.type)
  else Zbq P call rnd all rest ⟨ZbX o.dst undef s.tmps,s.dfs,s.H⟩
theorem Zik {rnd:Bool} {ops:List Oper}:∀ (n k:Nat) (s:St),k+n=ops.length→ZaT P call rnd ops (List.range' k n) s=Zbq P call rnd ops (ops.drop k) s
 | 0,k,s,h=>by
  rw [List.drop_eq_nil_of_le (by omega)]
  rfl
 | n+1,k,s,h=>by
  have hk:k<ops.length:=by omega
  rw [List.range'_succ,List.drop_eq_getElem_cons hk]
  have ih:=fun s=>Zik (rnd:=rnd) (ops:=ops) n (k+1) s (by omega)
  unfold ZaT Zbq
  rw [List.getElem?_eq_getElem hk]
  dsimp only
  split
  · cases hd:Zbd ops[k].op with
    | true =>
     simp only [if_true]
     cases hop:ops[k].op<;>rw [hop] at hd<;>simp [Zbd] at hd
     rename_i c
     simp only []
     split
     · cases hdd:Zd1 P (aev s.tmps) c with
       | none=>rfl
       | some d=>exact ih _
     · rfl
    | false =>
     simp only [Bool.false_eq_true,if_false]
     have hnd:∀ c,ops[k].op≠.defer c:=by intro c hc;rw [hc] at hd;simp [Zbd] at hd
     rw [←ZaE]
     split
     · rename_i c hc;exact absurd hc (hnd c)
     · cases hev:Zao P s.H (aev s.tmps) ops[k] with
       | none=>rfl
       | some r =>
        cases r<;>simp only [Za5]<;>first | exact ih _ | rfl | skip
        rename_i f args H
        cases call f args H with
        | none=>rfl
        | some q =>
         obtain ⟨e,H'⟩:=q
         cases e
         · exact ih _
         · rfl
  · exact ih _
theorem ZhZ {ext:CallT} {rnd:Bool} {id:Nat} {l:List Oper} {s:St}:Zap P ext rnd (.region id l.toArray false) s=Zbq P (Zaw P ext) rnd l l s:=by
 rw [Zkn]
 have:=Zik (P:=P) (call:=Zaw P ext) (rnd:=rnd) (ops:=l) l.length 0 s (by omega)
 rw [List.drop_zero] at this
 rw [←this,List.range_eq_range']
 simp
theorem Zb9 {dst:Option Nat} {k:St→Option (AExit×St)} {s:St} {v:Value} {H:AHeap}:Za5 call dst k s (some (.val v H))=k ⟨ZbX dst v s.tmps,s.dfs,H⟩:=rfl
theorem ZcA {dst:Option Nat} {k:St→Option (AExit×St)} {s:St} {H:AHeap}:Za5 call dst k s (some (.skip H))=k ⟨ZbX dst undef s.tmps,s.dfs,H⟩:=rfl
theorem ZdE {dst:Option Nat} {k:St→Option (AExit×St)} {s:St} {v:Value} {H:AHeap}:Za5 call dst k s (some (.panic v H))=some (.panic v,⟨s.tmps,s.dfs,H⟩):=rfl
theorem ZcW {dst:Option Nat} {k:St→Option (AExit×St)} {s:St} {f:FuncId} {args:List Value} {H:AHeap}:Za5 call dst k s (some (.enter f args H))=callA dst k s.tmps s.dfs (call f args H):=by
 unfold Za5 callA;rfl
theorem ZnH {dst:Option Nat} {k:St→Option (AExit×St)} {tm:List Value} {dfs:List ADef} {v:Value} {H:AHeap}:callA dst k tm dfs (some (.ret v,H))=k ⟨ZbX dst v tm,dfs,H⟩:=rfl
theorem ZAo {tm:List Value} {i:Nat}:aev tm (.tmp i)=tm.getD i undef:=rfl
theorem Ze2 {s:St} {k:St→Option (AExit×St)}:Zgg (some (.normal,s)) k=k s:=rfl
theorem Zi9 {s:St} {k:St→Option (AExit×St)}:Zgg (some (.ret,s)) k=some (.ret,s):=rfl
theorem Zhr {i:Nat} {s:St} {k:St→Option (AExit×St)}:Zgg (some (.exit i,s)) k=some (.exit i,s):=rfl
theorem Zgf {v:Value} {s:St} {k:St→Option (AExit×St)}:Zgg (some (.panic v,s)) k=some (.panic v,s):=rfl
theorem Zg5 {i j:Nat} {s:St}:ZfO i (some (.exit j,s))=if j=i then some (.normal,s) else some (.exit j,s):=rfl
end
end
section
open Go
def ZwC (H:AHeap):Option Value→Option ARes
 | some v=>some (.val v H)
 | none=>none
def Zvt:Option AHeap→Option ARes
 | some H=>some (.skip H)
 | none=>none
theorem Zal {α:Type} {P:Program} {a:α}:Zaf P (pure a:Sem α)=some a:=rfl
theorem Zac {α γ:Type} {P:Program}:∀ {s:Sem α} {f:α→Sem γ} {a:α},Zaf P s=some a→Zaf P (s >>= f)=Zaf P (f a)
 | .pure a,f,c,h=>by simp only [Zaf,Option.some.injEq] at h;subst h;rfl
 | .program k,f,c,h=>Zac (s:=k P) (f:=f) h
 | .mark m k,f,c,h=>Zac (s:=k) (f:=f) h
 | .load ..,_,_,h=>by simp [Zaf] at h
 | .store ..,_,_,h=>by simp [Zaf] at h
 | .new ..,_,_,h=>by simp [Zaf] at h
 | .shape ..,_,_,h=>by simp [Zaf] at h
 | .freeze ..,_,_,h=>by simp [Zaf] at h
 | .frozen ..,_,_,h=>by simp [Zaf] at h
 | .getObj ..,_,_,h=>by simp [Zaf] at h
 | .setObj ..,_,_,h=>by simp [Zaf] at h
 | .choose ..,_,_,h=>by simp [Zaf] at h
 | .sys ..,_,_,h=>by simp [Zaf] at h
 | .halt _,_,_,h=>by simp [Zaf] at h
theorem Zew {P:Program} {s:Sem Value} {v:Value} (h:Zaf P s=some v):Zaf P (do pure (Next.value (← s)):Sem Next)=some (.value v):=by
 rw [Zac h];rfl
section
variable {P:Program} {H:AHeap} {ρ:Operand→Value} {ty:TypeId}
theorem Zcj {op:Op} (h1:∀ c,op≠.call c) (h2:∀ t m k ok,op≠.lookup t m k ok) (h3:∀ t m k v,op≠.mapUpdate t m k v) (h4:∀ t m k v,op≠.insert t m k v) :
    opA P H ρ op ty=ZaG P H ρ ⟨none,op,ty, "",#[],none⟩:=by
 unfold opA Zao
 cases op<;>first | rfl | exact absurd rfl (h1 _) | exact absurd rfl (h2 _ _ _ _) | exact absurd rfl (h3 _ _ _ _) | exact absurd rfl (h4 _ _ _ _)
theorem ZpL {x:Operand} (hx:Zaa x=true):opA P H ρ (.move x) ty=some (.val (ρ x) H):=by
 rw [Zcj (by simp) (by simp) (by simp) (by simp)];unfold ZaG;simp [Op.operands,hx]
theorem Zk0 {x:Operand} (hx:Zaa x=true):opA P H ρ (.assign x) ty=some (.val (ρ x) H):=by
 rw [Zcj (by simp) (by simp) (by simp) (by simp)];unfold ZaG;simp [Op.operands,hx]
theorem ZlB {c a b:Operand} (hc:Zaa c=true) (ha:Zaa a=true) (hb:Zaa b=true) (hv:(ZdF (ρ c)).isSome=true) :
    opA P H ρ (.pick c a b) ty=if ZdF (ρ c)=some true then some (.val (ρ a) H) else some (.val (ρ b) H):=by
 rw [Zcj (by simp) (by simp) (by simp) (by simp)];unfold ZaG;simp only [Op.operands]
 simp [hc,ha,hb]
 cases h:ρ c<;>rw [h] at hv<;>simp_all [ZdF]
 rename_i b2;cases b2<;>simp
def Zzu (P:Program) (H:AHeap) (t:TypeId):Value→Option ARes
 | .pointer (some a)=>ZwC H (H.loadV P t a)
 | _=>none
theorem ZlC {t:TypeId} {x:Operand} (hx:Zaa x=true):opA P H ρ (.load t x) ty=Zzu P H t (ρ x):=by
 rw [Zcj (by simp) (by simp) (by simp) (by simp)];unfold ZaG;simp [Op.operands,hx,Zzu]
 cases ρ x<;>try rfl
theorem ZjJ {t:TypeId} {a:Addr}:Zzu P H t (.pointer (some a))=ZwC H (H.loadV P t a):=rfl
def ZsB (P:Program) (H:AHeap) (t:TypeId) (v:Value):Value→Option ARes
 | .pointer (some a)=>Zvt (H.storeV P t a v)
 | _=>none
theorem Zts {t:TypeId} {x y:Operand} (hx:Zaa x=true) (hy:Zaa y=true):opA P H ρ (.store t x y) ty=ZsB P H t (ρ y) (ρ x):=by
 rw [Zcj (by simp) (by simp) (by simp) (by simp)];unfold ZaG;simp [Op.operands,hx,hy,ZsB]
 cases ρ x<;>try rfl
theorem ZqG {t:TypeId} {a:Addr} {v:Value}:ZsB P H t v (.pointer (some a))=Zvt (H.storeV P t a v):=rfl
def ZgY (H:AHeap):Value→Option ARes
 | .pointer (some a)=>some (.val (.pointer (some a)) H)
 | .func (.func f) u v=>some (.val (.func (.func f) u v) H)
 | _=>none
theorem Zfh {x:Operand} (hx:Zaa x=true):opA P H ρ (.nilCheck x) ty=ZgY H (ρ x):=by
 rw [Zcj (by simp) (by simp) (by simp) (by simp)];unfold ZaG;simp [Op.operands,hx,ZgY]
 cases ρ x<;>try rfl
theorem ZlL {a:Addr}:ZgY H (.pointer (some a))=some (.val (.pointer (some a)) H):=rfl
theorem Zku {f:FuncId} {u v:Array Value}:ZgY H (.func (.func f) u v)=some (.val (.func (.func f) u v) H):=rfl
def ZfT (P:Program) (H:AHeap) (s:TypeId) (f:Nat):Value→Option ARes
 | .pointer (some a)=>match P.underlying s with
  | some (.struct fields)=>match fields[f]? with
   | some fd=>match P.info? fd.type with
    | some i=>if i.size=0 then none else some (.val (.pointer (some (Zck a fd.offset))) H)
    | none=>none
   | none=>none
  | _=>none
 | _=>none
theorem ZlE {s:TypeId} {x:Operand} {f:Nat} (hx:Zaa x=true):opA P H ρ (.fieldAddr s x f) ty=ZfT P H s f (ρ x):=by
 rw [Zcj (by simp) (by simp) (by simp) (by simp)];unfold ZaG;simp [Op.operands,hx,ZfT]
 cases h:P.underlying s with
 | none=>cases ρ x<;>try rfl
         rename_i a;cases a<;>rfl
 | some d=>cases d<;>cases ρ x<;>try rfl
           all_goals (rename_i a;cases a<;>rfl)
def Zl4 (H:AHeap) (ix:Nat):Value→Option ARes
 | .tuple vs=>ZwC H vs[ix]?
 | _=>none
theorem Zox {x:Operand} {ix:Nat} (hx:Zaa x=true):opA P H ρ (.extract x ix) ty=Zl4 H ix (ρ x):=by
 rw [Zcj (by simp) (by simp) (by simp) (by simp)];unfold ZaG;simp [Op.operands,hx,Zl4]
 cases ρ x<;>try rfl
theorem Zkz {ix:Nat} {vs:Array Value}:Zl4 H ix (.tuple vs)=ZwC H vs[ix]?:=rfl
def Zej (P:Program) (op:BinOp) (t:TypeId) (x y:Operand) (v w:Value):Option Value :=
 if Zab v&&Zab w then match Zaf P (do eqGuard op t x y v w;binOp op t v w) with
  | some r=>if Zab r then some r else none
  | none=>none
 else none
def Zgc (P:Program) (H:AHeap) (op:BinOp) (t:TypeId) (x y:Operand) (v w:Value):Option ARes :=
 match Zej P op t x y v w with
 | some r=>some (.val r H)
 | none=>match P.underlying t with
  | some d=>match ZjG d v w with
   | some b=>match op with
    | .eql=>some (.val (.bool b) H)
    | .neq=>some (.val (.bool (!b)) H)
    | _=>none
   | none=>none
  | none=>none
theorem Zjt {s:Sem Value}:Zaf P (do pure (Next.value (← s)):Sem Next)=(Zaf P s).map .value:=by
 cases h:Zaf P s with
 | some v=>rw [Zew h];rfl
 | none =>
  cases h2:Zaf P (do pure (Next.value (← s)):Sem Next) with
  | none=>rfl
  | some c =>
   obtain ⟨a,h3,_⟩:=Zb4 h2
   rw [h] at h3;simp at h3
theorem Zma {op:BinOp} {t:TypeId} {x y:Operand} {u:TypeId}:Zaz P ρ ⟨none,.binOp op t x y u,ty, "",#[],none⟩=Zej P op t x y (ρ x) (ρ y):=by
 unfold Zaz Zej
 have:execOp ρ ⟨none,.binOp op t x y u,ty, "",#[],none⟩=(do pure (Next.value (← (do eqGuard op t x y (ρ x) (ρ y);binOp op t (ρ x) (ρ y)))):Sem Next):=rfl
 rw [this,Zjt]
 simp only [Op.operands]
 simp only [List.all_toArray,List.all_cons,List.all_nil,Bool.and_true]
 cases Zaf P (do eqGuard op t x y (ρ x) (ρ y);binOp op t (ρ x) (ρ y))<;>rfl
theorem ZlG {op:BinOp} {t:TypeId} {x y:Operand} {u:TypeId} (hx:Zaa x=true) (hy:Zaa y=true):opA P H ρ (.binOp op t x y u) ty=Zgc P H op t x y (ρ x) (ρ y):=by
 rw [Zcj (by simp) (by simp) (by simp) (by simp)];unfold ZaG Zgc
 simp only [Zma]
 simp only [Op.operands,List.all_toArray,List.all_cons,List.all_nil,hx,hy,Bool.and_true,if_true]
 rfl
theorem ZA8 (s u:ByteArray):(s.toList == u.toList)=decide (s=u):=by
 rw [ByteArray.toList_eq,ByteArray.toList_eq]
 by_cases h:s=u
 · subst h;simp
 · have:s.data.toList≠u.data.toList:=by
    intro e
    apply h
    cases s;cases u
    simpa using e
   have h2:¬s.data=u.data:=fun e=>this (by rw [e])
   simp [h,h2]
theorem Zai {t:TypeId} {d:TypeDesc} (h:P.underlying t=some d):Zaf P (underlying t)=some d:=by
 unfold underlying
 have e:Zaf P (program:Sem Program)=some P:=rfl
 rw [Zac e]
 rw [h]
 rfl
section
variable {t:TypeId} {x y:Operand} {k:IntKind} {a b:Int}
theorem Zbi {op:BinOp} {v w r:Value} (h:Zej P op t x y v w=some r):Zgc P H op t x y v w=some (.val r H):=by unfold Zgc;rw [h]
theorem ZAf:Zgc P H .lss t x y (.int k a) (.int k b)=some (.val (.bool (decide (a<b))) H):=Zbi (by simp [Zej,Zab,Zal,go_sem])
theorem ZAg:Zgc P H .leq t x y (.int k a) (.int k b)=some (.val (.bool (decide (a≤b))) H):=Zbi (by simp [Zej,Zab,Zal,go_sem])
theorem ZAh:Zgc P H .gtr t x y (.int k a) (.int k b)=some (.val (.bool (decide (b<a))) H):=Zbi (by simp [Zej,Zab,Zal,go_sem])
theorem ZAi:Zgc P H .geq t x y (.int k a) (.int k b)=some (.val (.bool (decide (b≤a))) H):=Zbi (by simp [Zej,Zab,Zal,go_sem])
theorem ZAj:Zgc P H .eql t x y (.int k a) (.int k b)=some (.val (.bool (decide (a=b))) H):=Zbi (by
 have:eqGuard .eql t x y (.int k a) (.int k b)=pure ():=rfl
 simp [Zej,Zab,Zal,go_sem,this];rfl)
theorem ZAd:Zgc P H .neq t x y (.int k a) (.int k b)=some (.val (.bool (!decide (a=b))) H):=Zbi (by
 have:eqGuard .neq t x y (.int k a) (.int k b)=pure ():=rfl
 simp [Zej,Zab,Zal,go_sem,this];rfl)
theorem ZAk:Zgc P H .add t x y (.int k a) (.int k b)=some (.val (.int k (k.wrap (a+b))) H):=Zbi (by simp [Zej,Zab,Zal,go_sem])
theorem ZAa:Zgc P H .sub t x y (.int k a) (.int k b)=some (.val (.int k (k.wrap (a-b))) H):=Zbi (by simp [Zej,Zab,Zal,go_sem])
theorem ZAe:Zgc P H .mul t x y (.int k a) (.int k b)=some (.val (.int k (k.wrap (a*b))) H):=Zbi (by simp [Zej,Zab,Zal,go_sem])
theorem ZAb (hb:b≠0):Zgc P H .rem t x y (.int k a) (.int k b)=some (.val (.int k (a.tmod b)) H):=Zbi (by simp [Zej,Zab,Zal,go_sem,hb])
theorem ZAc (hb:b≠0):Zgc P H .quo t x y (.int k a) (.int k b)=some (.val (.int k (k.wrap (a.tdiv b))) H):=Zbi (by simp [Zej,Zab,Zal,go_sem,hb])
theorem Zwq {s u:ByteArray}:Zgc P H .eql t x y (.string s) (.string u)=some (.val (.bool (decide (s=u))) H):=Zbi (by
 have:eqGuard .eql t x y (.string s) (.string u)=pure ():=rfl
 simp [Zej,Zab,Zal,go_sem,this,ZA8])
theorem Zwp {s u:ByteArray}:Zgc P H .neq t x y (.string s) (.string u)=some (.val (.bool (!decide (s=u))) H):=Zbi (by
 have:eqGuard .neq t x y (.string s) (.string u)=pure ():=rfl
 simp [Zej,Zab,Zal,go_sem,this,ZA8])
theorem Zf4 {p q:Bool} (hu:P.underlying t=some .bool):Zaf P (Op.equal t (.bool p) (.bool q))=some (p == q):=by
 unfold Op.equal
 show Zaf P (Op.equalIn 10000 t (.bool p) (.bool q))=_
 unfold Op.equalIn
 rw [Zac (Zai hu)]
 rfl
theorem Zwu {p q:Bool} (hu:P.underlying t=some .bool):Zgc P H .eql t x y (.bool p) (.bool q)=some (.val (.bool (p == q)) H):=Zbi (by
 have h1:eqGuard .eql t x y (.bool p) (.bool q)=pure ():=rfl
 have h2:binOp .eql t (.bool p) (.bool q)=(do pure (.bool (← Op.equal t (.bool p) (.bool q)))):=rfl
 unfold Zej
 rw [h1,Zac Zal,h2,Zac (Zf4 hu)]
 simp [Zab,Zal])
theorem Zws {p q:Bool} (hu:P.underlying t=some .bool):Zgc P H .neq t x y (.bool p) (.bool q)=some (.val (.bool (!(p == q))) H):=Zbi (by
 have h1:eqGuard .neq t x y (.bool p) (.bool q)=pure ():=rfl
 have h2:binOp .neq t (.bool p) (.bool q)=(do pure (.bool (!(← Op.equal t (.bool p) (.bool q))))):=rfl
 unfold Zej
 rw [h1,Zac Zal,h2,Zac (Zf4 hu)]
 simp [Zab,Zal])
theorem ZuV {op:BinOp} {v w:Value} {d:TypeDesc} {b:Bool} (hc:Zej P op t x y v w=none∨Zab v=false∨Zab w=false) (hu:P.underlying t=some d) (hn:ZjG d v w=some b) :
    (op=.eql→Zgc P H op t x y v w=some (.val (.bool b) H))∧(op=.neq→Zgc P H op t x y v w=some (.val (.bool (!b)) H)):=by
 have:Zej P op t x y v w=none:=by
  rcases hc with h | h | h
  · exact h
  · unfold Zej;rw [h];rfl
  · unfold Zej;rw [h,Bool.and_false];rfl
 unfold Zgc
 rw [this,hu]
 dsimp only
 rw [hn]
 constructor<;>(intro h;subst h;rfl)
end
end
end
section
open Go
section
variable {P:Program} {ext:CallT}
theorem ZmX {code:Code→St→Option (AExit×St)} {rs:List ResultVar} {tm:List Value} {H:AHeap} {v:Value}:Zb6 P code rs (some (.panic v,⟨tm,[],H⟩))=some (.panic v,H):=rfl
theorem ZvF {H:AHeap} {tm:List Value} {t:Nat} {rs:List ResultVar}:ZaW P H tm (.tmp t::rs)=(ZaW P H tm rs).map fun vs=>tm.getD t undef::vs:=by
 conv=>lhs;unfold ZaW
 simp only [Zet]
 cases ZaW P H tm rs<;>rfl
@[congr] theorem Zz1 {dst:Option Nat} {k:St→Option (AExit×St)} {tm:List Value} {dfs:List ADef} {x x':Option (AEnd×AHeap)} (h:x=x'):callA dst k tm dfs x=callA dst k tm dfs x':=by rw [h]
theorem ZuF {b:ByteArray}:Zab (.string b)=true:=by simp [Zab]
end
end
section
open Go
def Zwe:Option (AExit×St)→Option (AExit×St)
 | some (.panic v,s)=>some (.panic v,⟨[],s.dfs,s.H⟩)
 | r=>r
section
variable {P:Program} {call:CallT}
theorem Znq {rnd:Bool} {all:List Oper} {j:Nat} {rest:List Nat} {s:St} {o:Oper} (ho:all[j]?=some o) (hd:Zbd o.op=false) :
    ZaT P call rnd all (j::rest) s=if Zat all s.tmps o then Za5 call o.dst (ZaT P call rnd all rest) s (Zao P s.H (aev s.tmps) o) else ZaT P call rnd all rest ⟨ZbX o.dst undef s.tmps,s.dfs,s.H⟩:=by
 have hnd:∀ c,o.op≠.defer c:=by intro c hc;rw [hc] at hd;simp [Zbd] at hd
 conv=>lhs;unfold ZaT
 rw [ho]
 dsimp only
 split
 · split
   · rename_i c hc;exact absurd hc (hnd c)
   · cases hev:Zao P s.H (aev s.tmps) o with
     | none=>rfl
     | some r =>
      cases r<;>rfl
 · rfl
theorem Zjl {ops:List Oper} (hnd:∀ o∈ops,Zbd o.op=false):∀ (plan:List Nat) (tm:List Value) (dfs:List ADef) (H:AHeap),(∀ j∈plan,j<ops.length) →
    (ZaB P call ops dfs plan tm H).map (fun r=>(r.2.2.1,r.2.2.2))=Zwe (ZaT P call true ops plan ⟨tm,dfs,H⟩)
 | [],_,_,_,_=>rfl
 | j::rest,tm,dfs,H,hj=>by
  have hlt:=hj j (by simp)
  have ih:=fun tm H=>Zjl hnd rest tm dfs H (fun i hi=>hj i (by simp [hi]))
  have hcons:∀ (t:Tr) (x:Option (List Tr×AHeap×AExit×St)),(Zfs t x).map (fun r=>(r.2.2.1,r.2.2.2))=x.map (fun r=>(r.2.2.1,r.2.2.2)):=by
   intro t x;cases x<;>rfl
  rw [Znq (List.getElem?_eq_getElem hlt) (hnd _ (List.getElem_mem hlt))]
  unfold ZaB
  rw [List.getElem?_eq_getElem hlt]
  dsimp only
  split
  · cases hev:Zao P H (aev tm) ops[j] with
    | none=>rfl
    | some r =>
     cases r with
     | val v H'=>simp only [hcons,ih,Za5]
     | skip H'=>simp only [hcons,ih,Za5]
     | panic v H'=>rfl
     | defer d args H'=>rfl
     | enter f args H1 =>
      simp only [Za5]
      cases hc:call f args H1 with
      | none=>rfl
      | some q =>
       obtain ⟨e,H'⟩:=q
       cases e with
       | ret v=>simp only [hcons,ih]
       | panic v=>rfl
  · rw [hcons,ih]
def ZdX (l:List Oper) (plan:List Nat):Bool :=
 (Zbo l == plan)&&ZcV l&&Zcn l (Zbf l) plan&&Zfe l (Zbf l) plan&&(l.all fun o=>!(Zbd o.op))&&plan.all fun j=>decide (j<l.length)
theorem Zij {rnd:Bool} {all:List Oper}:∀ (plan:List Nat) (s:St),ZaT P call rnd all plan s=Zbq P call rnd all (plan.filterMap fun j=>all[j]?) s
 | [],s=>rfl
 | j::rest,s=>by
  have ih:=fun s=>Zij (rnd:=rnd) (all:=all) rest s
  cases ho:all[j]? with
  | none =>
   rw [List.filterMap_cons_none ho]
   unfold ZaT
   rw [ho]
   exact ih s
  | some o =>
   rw [List.filterMap_cons_some ho]
   unfold ZaT Zbq
   rw [ho]
   dsimp only
   split
   · cases hd:Zbd o.op with
     | true =>
      simp only [if_true]
      cases hop:o.op<;>rw [hop] at hd<;>simp [Zbd] at hd
      rename_i c
      simp only []
      split
      · cases hdd:Zd1 P (aev s.tmps) c with
        | none=>rfl
        | some d=>exact ih _
      · rfl
     | false =>
      simp only [Bool.false_eq_true,if_false]
      have hnd:∀ c,o.op≠.defer c:=by intro c hc;rw [hc] at hd;simp [Zbd] at hd
      rw [←ZaE]
      split
      · rename_i c hc;exact absurd hc (hnd c)
      · cases hev:Zao P s.H (aev s.tmps) o with
        | none=>rfl
        | some r =>
         cases r<;>simp only [Za5]<;>first | exact ih _ | rfl | skip
         rename_i f args H
         cases call f args H with
         | none=>rfl
         | some q =>
          obtain ⟨e,H'⟩:=q
          cases e
          · exact ih _
          · rfl
   · exact ih _
theorem Znu {l:List Oper} {plan:List Nat} (h:ZdX l plan=true) {s:St}:ZbK P call l s=Zwe (Zbq P call true l (plan.filterMap fun j=>l[j]?) s):=by
 unfold ZdX at h
 simp only [Bool.and_eq_true,beq_iff_eq] at h
 obtain ⟨⟨⟨⟨⟨h1,h2⟩,h3⟩,h4⟩,h5⟩,h6⟩:=h
 have hnd:∀ o∈l,Zbd o.op=false:=fun o ho=>by simpa using List.all_eq_true.1 h5 o ho
 have hp:=Zjl (P:=P) (call:=call) hnd plan s.tmps s.dfs s.H (fun j hj=>by simpa using List.all_eq_true.1 h6 j hj)
 rw [←Zij]
 have hs:(⟨s.tmps,s.dfs,s.H⟩:St)=s:=rfl
 rw [hs] at hp
 rw [←hp]
 rw [Zka h3]
 unfold Zdj
 rw [h1]
 cases ZaB P call l s.dfs plan s.tmps s.H with
 | none=>rfl
 | some r =>
  obtain ⟨T,He,x,s'⟩:=r
  dsimp only
  rw [if_pos ⟨h2,h3,.inl h4⟩]
  rfl
end
end
section
open Go
section
variable {P:Program} {H:AHeap}
theorem Zif {i:Nat} {o:AObj}:(H.set i o).get i=some o:=by simp [AHeap.set]
theorem Zmi {b o n:Nat} {s:Option Nat}:Zck ⟨b,o,s⟩ n=⟨b,o+n,s⟩:=rfl
def Zwm:Option AObj→Nat→Nat→Option Value
 | some (.box cs _),o,_=>cs[o]?
 | some (.arr cs st _ _ _),o,g=>if st.getD o 0≤g then cs[o]? else none
 | _,_,_=>none
theorem ZhN {b o:Nat} {s:Option Nat}:H.cell ⟨b,o,s⟩=Zwm (H.get b) o (s.getD 0):=by
 unfold AHeap.cell AHeap.view Zwm ZnV
 cases H.get b with
 | none=>rfl
 | some x =>
  cases x with
  | map es=>rfl
  | loop r=>rfl
  | box cs e =>
   simp only [Option.bind_some,AObj.view]
   cases cs[o]?<;>simp
  | arr cs st g e ro =>
   simp only [Option.bind_some,AObj.view]
   cases hc:cs[o]? with
   | none=>simp
   | some v=>simp
theorem Zhg {cs:List Value} {e:TypeId} {o g:Nat}:Zwm (some (.box cs e)) o g=cs[o]?:=rfl
theorem ZnF {cs:List Value} {st:List Nat} {g0:Nat} {e:TypeId} {ro:Bool} {o g:Nat}:Zwm (some (.arr cs st g0 e ro)) o g=if st.getD o 0≤g then cs[o]? else none:=rfl
theorem ZgU {b:Nat} {s:Option Nat} {cs:List Value} {e:TypeId} (h:H.get b=some (.box cs e)):∀ (n o:Nat),o+n≤cs.length→H.readN ⟨b,o,s⟩ n=some ((cs.drop o).take n)
 | 0,o,_=>by simp [AHeap.readN]
 | n+1,o,hle=>by
  unfold AHeap.readN
  rw [ZhN,h,Zhg,List.getElem?_eq_getElem (by omega)]
  dsimp only
  rw [Zmi,ZgU h n (o+1) (by omega)]
  dsimp only
  rw [List.drop_eq_getElem_cons (by omega:o<cs.length)]
  rfl
theorem Zk2 {t:TypeId} {a:Addr} (h:Zu4 P t=some false):H.loadV P t a=H.cell a:=by unfold AHeap.loadV;rw [h]
def ZfE (H:AHeap) (b o g:Nat) (v:Value):Option AObj→Option AHeap
 | some (.box cs e)=>if g=0∧o<cs.length then some (H.set b (.box (cs.set o v) e)) else none
 | some (.arr cs st g0 e false)=>if g=g0∧o<cs.length∧o<st.length then some (H.set b (.arr (cs.set o v) (st.set o g0) g0 e false)) else none
 | _=>none
theorem ZkR {b o:Nat} {s:Option Nat} {v:Value} (hf:Zba v=true):H.setCell ⟨b,o,s⟩ v=ZfE H b o (s.getD 0) v (H.get b):=by
 unfold AHeap.setCell ZfE ZnV
 rw [if_pos hf]
 split<;>simp_all
theorem ZmD {b o g:Nat} {v:Value} {cs:List Value} {e:TypeId} (hg:g=0) (ho:o<cs.length):ZfE H b o g v (some (.box cs e))=some (H.set b (.box (cs.set o v) e)):=by
 unfold ZfE;simp [hg,ho]
def ZiM (P:Program) (s:TypeId) (f:Nat):Option Nat:=match P.underlying s with
 | some (.struct fields)=>match fields[f]? with
  | some fd=>match P.info? fd.type with
   | some i=>if i.size=0 then none else some fd.offset
   | none=>none
  | none=>none
 | _=>none
theorem ZlY {s:TypeId} {f b o:Nat} {sp:Option Nat}:ZfT P H s f (.pointer (some ⟨b,o,sp⟩))=(ZiM P s f).map fun off=>.val (.pointer (some ⟨b,o+off,sp⟩)) H:=by
 unfold ZfT ZiM
 cases P.underlying s with
 | none=>rfl
 | some d =>
  cases d<;>try rfl
  rename_i fields
  dsimp only
  cases fields[f]? with
  | none=>rfl
  | some fd =>
   dsimp only
   cases P.info? fd.type with
   | none=>rfl
   | some i =>
    dsimp only
    split<;>rfl
variable {ρ:Operand→Value} {ty:TypeId}
theorem ZyH {t:TypeId} {x:Operand} (hx:Zaa x=true) (hi:(P.info? t).isSome=true) (hf:(ρ x).cells.toList.all Zba=true) :
    opA P H ρ (.box t x) ty=some (.val (.pointer (some ⟨H.next,0,none⟩)) (H.push (.box (ρ x).cells.toList t))):=by
 rw [Zcj (by simp) (by simp) (by simp) (by simp)];unfold ZaG
 simp only [Op.operands]
 cases h:P.info? t with
 | none=>rw [h] at hi;simp at hi
 | some i=>simp [hx,h,hf]
def ZiQ (P:Program) (t:TypeId):Option Value:=match P.info? t with
 | some i=>match i.zero with
  | some z=>if Zab z&&z.cells.toList.all Zba then some z else none
  | none=>none
 | none=>none
theorem Ztx {t:TypeId}:opA P H ρ (.alloc t) ty=(ZiQ P t).map fun z=>.val (.pointer (some ⟨H.next,0,none⟩)) (H.push (.box z.cells.toList t)):=by
 rw [Zcj (by simp) (by simp) (by simp) (by simp)];unfold ZaG ZiQ
 simp only [Op.operands]
 simp
 cases P.info? t with
 | none=>rfl
 | some i =>
  dsimp only
  cases i.zero with
  | none=>rfl
  | some z=>dsimp only;split<;>rfl
theorem Zjz {t:TypeId}:opA P H ρ (.makeMap t none) ty=some (.val (.map (some H.next)) (H.push (.map []))):=by
 rw [Zcj (by simp) (by simp) (by simp) (by simp)];unfold ZaG;simp [Op.operands]
theorem ZmT {f:FuncId} {u v:Array Operand} (hu:u.all Zaa=true) (hv:v.all Zaa=true):opA P H ρ (.makeFunc (.func f) u v) ty=some (.val (.func (.func f) (u.map ρ) (v.map ρ)) H):=by
 rw [Zcj (by simp) (by simp) (by simp) (by simp)];unfold ZaG
 have:(Op.makeFunc (.func f) u v).operands.all Zaa=true:=by
  simp only [Op.operands,Array.all_append,hu,hv,Bool.and_self]
 simp only [this,if_true]
def unS (P:Program) (H:AHeap) (op:UnOp) (v:Value):Option ARes :=
 if Zab v then match Zaf P (Op.unary op v) with
  | some r=>if Zab r then some (.val r H) else none
  | none=>none
 else none
theorem ZBE {op:UnOp} {t:TypeId} {x:Operand} (hx:Zaa x=true):opA P H ρ (.unOp op t x) ty=unS P H op (ρ x):=by
 rw [Zcj (by simp) (by simp) (by simp) (by simp)];unfold ZaG unS Zaz
 have:execOp ρ ⟨none,.unOp op t x,ty, "",#[],none⟩=(do pure (Next.value (← Op.unary op (ρ x))):Sem Next):=rfl
 rw [this,Zjt]
 simp only [Op.operands]
 simp [hx]
 by_cases hc:Zab (ρ x)=true
 · simp only [hc,if_true]
   cases Zaf P (Op.unary op (ρ x)) with
   | none=>rfl
   | some r =>
    simp only [Option.map_some]
    cases Zab r<;>rfl
 · simp [hc]
theorem ZAS {b:Bool}:unS P H .not (.bool b)=some (.val (.bool !b) H):=by
 unfold unS
 have:Op.unary .not (.bool b)=pure (.bool !b):=rfl
 rw [this,Zal]
 simp [Zab]
def ZcP (P:Program) (f:FuncId):Bool:=match P.funcs[f]? with
 | some fn=>Func.enters fn
 | none=>false
def ZnG (P:Program) (H:AHeap) (args:List Value):Value→Option ARes
 | .func (.func g) first captured=>Zo9 P H g (first.toList++args++captured.toList)
 | .func (.yield K) first captured=>if first.isEmpty&&captured.isEmpty then match H.get K with
     | some (.loop r)=>if args.length=r.params.size then some (.enter (P.funcs.size+K) args H) else none
     | _=>none
  else none
 | _=>none
theorem ZlF {f:Operand} {args:List Operand} {tys:Array TypeId} (hf:Zaa f=true) (ha:args.all Zaa=true) :
    opA P H ρ (.call ⟨.value f,args.toArray,tys⟩) ty=ZnG P H (args.map ρ) (ρ f):=by
 unfold opA Zao
 have hok:(Op.call ⟨.value f,args.toArray,tys⟩).operands.all Zaa=true:=by
  simp only [Op.operands,Call.operands,Array.all_append]
  simp [hf,ha]
 simp only [hok,if_true]
 unfold Zbm ZnG
 dsimp only
 cases ρ f<;>try rfl
 rename_i fn first cap
 cases fn<;>try (simp;done)
 · rename_i K
   dsimp only
   by_cases hc:(first.isEmpty&&cap.isEmpty)=true
   · rw [if_pos hc,if_pos hc]
     cases H.get K with
     | none=>rfl
     | some o=>cases o<;>simp
   · rw [if_neg hc,if_neg hc]
theorem Zo8 {args:List Value} {g:FuncId} (h:ZcP P g=true):Zo9 P H g args=some (.enter g args H):=by
 unfold ZcP at h
 unfold Zo9
 split at h
 · rename_i fn hfn;rw [hfn];dsimp only;rw [if_pos h]
 · cases h
theorem Zrt {args:List Value} {g:FuncId} {first cap:List Value} (h:ZcP P g=true):ZnG P H args (.func (.func g) first.toArray cap.toArray)=some (.enter g (first++args++cap) H):=by
 unfold ZnG;exact Zo8 h
theorem Zo7 {args:List Value} {K:Nat} {r:ALoop} (h:H.get K=some (.loop r)) (hs:args.length=r.params.size):ZnG P H args (.func (.yield K) #[] #[])=some (.enter (P.funcs.size+K) args H):=by
 unfold ZnG;simp [h,hs]
def ZpS (P:Program) (H:AHeap) (t:TypeId) (v:Value):Option ARes:=(Zd7 P H t v).map fun n=>.val (.int .i64 n) H
theorem Ztu {x:Operand} {t:TypeId} (hx:Zaa x=true) (hv:(ZpS P H t (ρ x)).isSome=true):opA P H ρ (.call ⟨.builtin .len,#[x],#[t]⟩) ty=ZpS P H t (ρ x):=by
 unfold opA Zao
 have hok:(Op.call ⟨.builtin .len,#[x],#[t]⟩).operands.all Zaa=true:=by
  simp [Op.operands,Call.operands,hx]
 simp only [hok,if_true]
 unfold Zbm
 dsimp only
 unfold ZpS at hv ⊢
 cases h:Zd7 P H t (ρ x) with
 | none=>rw [h] at hv;simp at hv
 | some n=>rfl
theorem Zq4 {t:TypeId} {a:Option Addr} {n c:Nat} (h:ZdA P t=true):ZpS P H t (.slice a n c)=some (.val (.int .i64 n) H):=by
 unfold ZpS Zd7;cases a<;>simp [h]
theorem ZqX {x:Operand} {t:TypeId} {s:ByteArray} (hx:Zaa x=true) (hs:ρ x=.string s) (hu:P.underlying t=some .string):opA P H ρ (.call ⟨.builtin .len,#[x],#[t]⟩) ty=some (.val (.int .i64 s.size) H):=by
 unfold opA Zao
 have hok:(Op.call ⟨.builtin .len,#[x],#[t]⟩).operands.all Zaa=true:=by
  simp [Op.operands,Call.operands,hx]
 simp only [hok,if_true]
 unfold Zbm
 dsimp only
 have h1:Zd7 P H t (ρ x)=none:=by rw [hs];rfl
 have h2:Zaz P ρ ⟨none,.call ⟨.builtin .len,#[x],#[t]⟩,ty, "",#[],none⟩=some (.int .i64 s.size):=by
  unfold Zaz
  have hop:(Op.call ⟨.builtin .len,#[x],#[t]⟩).operands = #[x]:=by simp [Op.operands,Call.operands]
  simp only [hop]
  have hcl:(#[x]:Array Operand).all (fun y=>Zab (ρ y))=true:=by simp [hs,Zab]
  rw [if_pos hcl]
  have:Zaf P (Builtin.len_ #[t] ty #[.string s])=some (.int .i64 s.size):=by
   unfold Builtin.len_
   show Zaf P (underlying t >>= _)=_
   rw [Zac (Zai hu)]
   rfl
  have he:Zaf P (execOp ρ ⟨none,.call ⟨.builtin .len,#[x],#[t]⟩,ty, "",#[],none⟩)=some (.value (.int .i64 s.size)):=by
   unfold execOp
   simp only [resolve,invoke,builtin,hs,List.map_toArray,List.map_cons,List.map_nil,pure_bind]
   rw [Zac this]
   rfl
  rw [he]
  rfl
 rw [h1,h2]
theorem ZhF {P:Program} {t n:Nat} {i:TypeInfo} (hs:P.types.size=n) (hlt:t<n) (h:P.types[t]?=some i):P.info? t=some i:=by
 have h2:t<P.types.size:=by rw [hs];exact hlt
 unfold Tables.info?
 rw [if_pos h2]
 exact h
theorem ZfZ {P:Program} {t n:Nat} {i:TypeInfo} (h:P.info? t=some i) (hn:i.size=n):P.cellsOf t=n:=by unfold Program.cellsOf;rw [h];exact hn
theorem Zk3 {P:Program} {t e:TypeId} (h:P.underlying t=some (.slice e)):ZdA P t=true:=by unfold ZdA;rw [h]
theorem Zv1 {P:Program} {t k e:TypeId} (h:P.underlying t=some (.map k e)):Zua P t=true:=by unfold Zua;rw [h]
theorem Zmt {P:Program} {t:TypeId} {d:TypeDesc} (h:P.underlying t=some d):P.underlying t=some d:=by rw [h]
end
end
section
open Go
section
variable {P:Program} {H:AHeap}
theorem Zfd {b:Nat} {g:Nat} {cs:List Value} {st:List Nat} {g0:Nat} {e:TypeId} {ro:Bool} (h:H.get b=some (.arr cs st g0 e ro)):∀ (n o:Nat),o+n≤cs.length→(∀ j,o≤j→j<o+n→st.getD j 0≤g) →
    H.readN ⟨b,o,some g⟩ n=some ((cs.drop o).take n)
 | 0,o,_,_=>by simp [AHeap.readN]
 | n+1,o,hle,hst=>by
  unfold AHeap.readN
  rw [ZhN,h,ZnF]
  rw [if_pos (show st.getD o 0≤(some g).getD 0 from hst o (Nat.le_refl _) (by omega)),List.getElem?_eq_getElem (by omega)]
  dsimp only
  rw [Zmi,Zfd h n (o+1) (by omega) (fun j h1 h2=>hst j (by omega) (by omega))]
  dsimp only
  rw [List.drop_eq_getElem_cons (by omega:o<cs.length)]
  rfl
inductive Own (H:AHeap) (e sz:Nat):Value→Nat→List Value→Prop
 | nil:Own H e sz (.slice none 0 0) 0 []
 | row {i g n c:Nat} {cs:List Value} {st:List Nat} (hg:H.get i=some (.arr cs st g e false)) (h2:n≤c) (h3:n*sz≤cs.length) (h4:cs.length=st.length) (h5:∀ j,j<n*sz→st.getD j 0≤g) :
     Own H e sz (.slice (some ⟨i,0,some g⟩) n c) n (cs.take (n*sz))
end
end
section
open Go
section
variable {P:Program} {H:AHeap} {ρ:Operand→Value} {ty:TypeId}
def Za7 (P:Program) (t:TypeId):Option (TypeInfo×TypeId):=match P.underlying t with
 | some (.slice e)=>match P.info? e with
  | some i=>some (i,e)
  | none=>none
 | _=>none
def ZBC:Option (Value×AHeap)→Option ARes
 | some (v,H')=>some (.val v H')
 | none=>none
theorem ZqZ {s x:Operand} {t e:TypeId} {i:TypeInfo} (hs:Zaa s=true) (hx:Zaa x=true) (hi:Za7 P t=some (i,e)) :
    opA P H ρ (.call ⟨.builtin .append,#[s,x],#[t,t]⟩) ty=ZBC (H.append i e (ρ s) (ρ x)):=by
 unfold opA Zao
 have hok:(Op.call ⟨.builtin .append,#[s,x],#[t,t]⟩).operands.all Zaa=true:=by
  simp [Op.operands,Call.operands,hs,hx]
 simp only [hok,if_true]
 unfold Zbm
 dsimp only
 unfold Za7 at hi
 cases hu:P.underlying t with
 | none=>rw [hu] at hi;simp at hi
 | some d =>
  rw [hu] at hi
  cases d<;>first | (simp at hi;done) | skip
  rename_i e'
  dsimp only at hi ⊢
  cases hi':P.info? e' with
  | none=>rw [hi'] at hi;simp at hi
  | some i' =>
   rw [hi'] at hi
   simp only [Option.some.injEq,Prod.mk.injEq] at hi
   obtain ⟨rfl,rfl⟩:=hi
   simp only [if_true]
   cases H.append i' e' (ρ s) (ρ x) with
   | none=>rfl
   | some q=>rfl
def ZES (P:Program) (H:AHeap) (t:TypeId) (v w:Value):Option ARes:=match Za7 P t with
 | some (i,e)=>ZBC (H.append i e v w)
 | none=>none
theorem ZbU {l:List Value}:Zc8 l=true↔∀ v∈l,Zab v=true:=by
 induction l with
 | nil=>simp [Zc8]
 | cons v l ih=>simp [Zc8,ih]
theorem Zft {z:Value} (h:Zab z=true):∀ v∈z.cells.toList,Zab v=true:=by
 cases z with
 | agg x =>
  simp only [Zab] at h
  rw [ZaP,ZbU] at h
  simpa [Value.cells] using h
 | _=>intro v hv;simp [Value.cells] at hv;subst hv;exact h
theorem Zo1 {z:Value} (h:Zab z=true) (len size:Nat) (hs:z.cells.size≠0):ZcJ (Zbw z len size)=true:=by
 rw [ZaP,ZbU]
 intro v hv
 unfold Zbw at hv
 simp only [Array.toList_map,List.mem_map] at hv
 obtain ⟨j,_,rfl⟩:=hv
 have hlt:j % z.cells.size<z.cells.size:=Nat.mod_lt _ (by omega)
 rw [getElem!_pos z.cells (j % z.cells.size) hlt]
 exact Zft h _ (by rw [Array.mem_toList_iff];exact Array.getElem_mem hlt)
def ZfV (P:Program) (t:TypeId):Nat:=match Za7 P t with
 | some (i,_)=>i.size
 | none=>0
end
end
section
open Go
structure Upd (H:AHeap) (F:Nat→Prop) (H':AHeap) (F':Nat→Prop):Prop where
 frame:∀ j,¬F j→j<H.next→H'.get j=H.get j
 foot:∀ j,F' j→F j∨H.next≤j
 fresh:H'.Fresh
 next:H.next≤H'.next
end
section
open Go
section
variable {P:Program} {H:AHeap} {ρ:Operand→Value} {ty:TypeId}
theorem Zes {t e:TypeId} {i:TypeInfo} (h:Za7 P t=some (i,e)):P.underlying t=some (.slice e)∧P.info? e=some i:=by
 unfold Za7 at h
 split at h
 · rename_i e' hu
   split at h
   · rename_i i' hi
     simp only [Option.some.injEq,Prod.mk.injEq] at h
     obtain ⟨rfl,rfl⟩:=h
     exact ⟨hu,hi⟩
   · simp at h
 · simp at h
def ZfN (P:Program) (H:AHeap) (t:TypeId) (v w:Value):Option ARes:=match v,w with
 | .slice (some a) len _,.int _ n=>if 0≤n∧n<len then some (.val (.pointer (some (Zck a (n.toNat*ZfV P t)))) H) else none
 | _,_=>none
theorem ZlD {t:TypeId} {x y:Operand} (hx:Zaa x=true) (hy:Zaa y=true) (hi:(Za7 P t).isSome=true):opA P H ρ (.indexAddr t x y) ty=ZfN P H t (ρ x) (ρ y):=by
 rw [Zcj (by simp) (by simp) (by simp) (by simp)];unfold ZaG
 simp only [Op.operands,List.all_toArray,List.all_cons,List.all_nil,hx,hy,Bool.and_true,if_true]
 cases hs:Za7 P t with
 | none=>rw [hs] at hi;simp at hi
 | some q =>
  obtain ⟨i,e⟩:=q
  have hes:ZfV P t=i.size:=by unfold ZfV;rw [hs]
  obtain ⟨hu,hi'⟩:P.underlying t=some (.slice e)∧P.info? e=some i:=Zes hs
  unfold ZfN
  rw [hu,hes]
  cases hρx:ρ x<;>try rfl
  rename_i a len cap
  cases a with
  | none=>rfl
  | some a =>
   cases hρy:ρ y<;>try rfl
   dsimp only
   rw [hi']
theorem ZlS {t:TypeId} {a:Addr} {len cap:Nat} {k:IntKind} {n:Int} (h:0≤n∧n<len):ZfN P H t (.slice (some a) len cap) (.int k n)=some (.val (.pointer (some (Zck a (n.toNat*ZfV P t)))) H):=by
 unfold ZfN;simp only;rw [if_pos h]
def ZsH (P:Program) (H:AHeap) (t:TypeId) (v:Value) (lo hi:Option Value):Option ARes:=match Za7 P t with
 | some (i,e)=>ZwC H (Zdu H e i.size v lo hi)
 | none=>none
theorem Ztt {t:TypeId} {x:Operand} {lo hi:Option Operand} (hx:Zaa x=true) (hl:(lo.toArray.all Zaa)=true) (hh:(hi.toArray.all Zaa)=true) (hs:(Za7 P t).isSome=true) :
    opA P H ρ (.slice t x lo hi none) ty=ZsH P H t (ρ x) (lo.map ρ) (hi.map ρ):=by
 rw [Zcj (by simp) (by simp) (by simp) (by simp)];unfold ZaG ZsH
 have hok:(Op.slice t x lo hi none).operands.all Zaa=true:=by
  simp only [Op.operands,Array.all_append,hl,hh,Bool.and_true]
  simp [hx]
 simp only [hok,if_true]
 cases hs':Za7 P t with
 | none=>rw [hs'] at hs;simp at hs
 | some q =>
  obtain ⟨i,e⟩:=q
  obtain ⟨hu,hi'⟩:=Zes hs'
  rw [hu]
  dsimp only
  rw [hi']
  dsimp only
  cases Zdu H e i.size (ρ x) (lo.map ρ) (hi.map ρ)<;>rfl
def Zuo (P:Program) (H:AHeap) (t:TypeId) (f:Nat) (v:Value):Option ARes:=match P.underlying t,v with
 | some (.struct fields),.agg cs=>match fields[f]? with
  | some fd=>ZwC H (ZkX P fd.type cs.toList fd.offset)
  | none=>none
 | _,_=>none
theorem Ztv {t:TypeId} {x:Operand} {f:Nat} (hx:Zaa x=true):opA P H ρ (.field t x f) ty=Zuo P H t f (ρ x):=by
 rw [Zcj (by simp) (by simp) (by simp) (by simp)];unfold ZaG Zuo
 simp only [Op.operands,List.all_toArray,List.all_cons,List.all_nil,hx,Bool.and_true,if_true]
 cases P.underlying t with
 | none=>rfl
 | some d =>
  cases d<;>rfl
def Zq2 (P:Program) (H:AHeap) (t:TypeId) (m k:Value) (ok:Bool):Option ARes:=match H.look P t m k with
 | some (v,b)=>some (.val (if ok then .tuple #[v,.bool b] else v) H)
 | none=>none
theorem ZkZ {t:TypeId} {m k:Operand} {ok:Bool} (hm:Zaa m=true) (hk:Zaa k=true):opA P H ρ (.lookup t m k ok) ty=Zq2 P H t (ρ m) (ρ k) ok:=by
 unfold opA Zao Zq2
 simp only [Op.operands,List.all_toArray,List.all_cons,List.all_nil,hm,hk,Bool.and_true,if_true]
 rfl
theorem ZgX {t:TypeId} {m k v:Operand} (hm:Zaa m=true) (hk:Zaa k=true) (hv:Zaa v=true):opA P H ρ (.mapUpdate t m k v) ty=Zvt (H.mapPut P t (ρ m) (ρ k) (ρ v)):=by
 unfold opA Zao
 simp only [Op.operands,List.all_toArray,List.all_cons,List.all_nil,hm,hk,hv,Bool.and_true,if_true]
 cases H.mapPut P t (ρ m) (ρ k) (ρ v)<;>rfl
def ZuP (P:Program) (H:AHeap) (t:TypeId) (ps:List (Nat×Value)):Option ARes:=match ZiQ P t with
 | some _=>match P.built t ps with
  | some cs=>some (.val (.agg cs) H)
  | none=>none
 | none=>none
theorem Ztw {t:TypeId} {ps:List (Nat×Operand)} (hp:(ps.all fun p=>Zaa p.2)=true) (hz:(ZiQ P t).isSome=true):opA P H ρ (.build t ps.toArray) ty=ZuP P H t (ps.map fun p=>(p.1,ρ p.2)):=by
 rw [Zcj (by simp) (by simp) (by simp) (by simp)];unfold ZaG ZuP
 have hok:(Op.build t ps.toArray).operands.all Zaa=true:=by
  simp only [Op.operands,List.all_toArray]
  rw [List.all_map]
  exact hp
 simp only [hok,if_true]
 have key:∃ i z,P.info? t=some i∧i.zero=some z∧(Zab z&&z.cells.toList.all Zba)=true:=by
  unfold ZiQ at hz
  split at hz
  · rename_i i hi
    split at hz
    · rename_i z hzz
      split at hz
      · rename_i hc;exact ⟨i,z,hi,hzz,hc⟩
      · simp at hz
    · simp at hz
  · simp at hz
 obtain ⟨i,z,hi,hzz,hc⟩:=key
 obtain ⟨z0,hz0⟩:=Option.isSome_iff_exists.1 hz
 rw [hz0,hi]
 dsimp only
 rw [hzz]
 dsimp only
 rw [Bool.and_eq_true] at hc
 rw [if_pos (by simp only [hc.1,Bool.true_and];exact hp)]
 simp only [List.map_toArray]
 rfl
end
end
section
open Go
def Zq9 (P:Program) (t:TypeId):Bool:=match P.underlying t with
 | some (.pointer _)=>true
 | _=>false
theorem Zv0 {P:Program} {t e:TypeId} (h:P.underlying t=some (.pointer e)):Zq9 P t=true:=by unfold Zq9;rw [h]
theorem Zm1 {P:Program} {t:TypeId} (h:Zq9 P t=true):∃ e,P.underlying t=some (.pointer e):=by
 unfold Zq9 at h;split at h
 · rename_i e hu;exact ⟨e,hu⟩
 · simp at h
section
variable {P:Program} {H:AHeap} {t:TypeId} {x y:Operand} {a:Addr}
theorem ZeR {e:TypeId} (hu:P.underlying t=some (.pointer e)):Zaf P (Op.equal t (.pointer none) (.pointer none))=some true:=by
 unfold Op.equal
 show Zaf P (Op.equalIn 10000 t (.pointer none) (.pointer none))=_
 unfold Op.equalIn
 rw [Zac (Zai hu)]
 rfl
theorem Zpc (h:Zq9 P t=true):Zgc P H .eql t x y (.pointer none) (.pointer none)=some (.val (.bool true) H):=by
 obtain ⟨e,hu⟩:=Zm1 h
 refine Zbi ?_
 have h1:eqGuard .eql t x y (.pointer none) (.pointer none)=pure ():=rfl
 have h2:binOp .eql t (.pointer none) (.pointer none)=(do pure (.bool (← Op.equal t (.pointer none) (.pointer none)))):=rfl
 unfold Zej
 rw [h1,Zac Zal,h2,Zac (ZeR hu)]
 simp [Zab,Zal]
theorem Zpb (h:Zq9 P t=true):Zgc P H .neq t x y (.pointer none) (.pointer none)=some (.val (.bool false) H):=by
 obtain ⟨e,hu⟩:=Zm1 h
 refine Zbi ?_
 have h1:eqGuard .neq t x y (.pointer none) (.pointer none)=pure ():=rfl
 have h2:binOp .neq t (.pointer none) (.pointer none)=(do pure (.bool (!(← Op.equal t (.pointer none) (.pointer none))))):=rfl
 unfold Zej
 rw [h1,Zac Zal,h2,Zac (ZeR hu)]
 simp [Zab,Zal]
end
theorem ZhY {P:Program} {ext:CallT} {rnd:Bool} {id:Nat} {l:List Oper} {s:St} (plan:List Nat) (h:ZdX l plan=true) :
    Zap P ext rnd (.region id l.toArray true) s=Zwe (Zbq P (Zaw P ext) true l (plan.filterMap fun j=>l[j]?) s):=by
 rw [ZdM,←Znu h]
end
section
open Go
section
variable {P:Program} {H:AHeap}
end
end
section
open Go
section
variable {P:Program} {H:AHeap}
def ZCN:List Value→Nat→List Value→List Value
 | cells,_,[]=>cells
 | cells,o,x::xs=>ZCN (cells.set o x) (o+1) xs
def Zvq (l:List (ByteArray×Value)):List (Value×Value):=l.map fun p=>(.string p.1,p.2)
def ZhC (l:List (ByteArray×Value)) (k:ByteArray):Option Value:=match l with
 | []=>none
 | p::l=>if k=p.1 then some p.2 else ZhC l k
theorem ZnQ {a b:ByteArray}:(a == b)=true↔a=b:=by
 constructor
 · intro h
   have h2:(a.data == b.data)=true:=h
   exact ByteArray.ext (by simpa using h2)
 · rintro rfl
   show (a.data == a.data)=true
   simp
theorem ZjU (k:ByteArray):∀ (l:List (ByteArray×Value)) (i:Nat),Instr.findNow .string (.string k) (ZaI (Zvq l)) i=some (match ZhC l k with | some v=>some (i+l.findIdx (fun p=>k=p.1),v) | none=>none)
 | [],i=>rfl
 | p::l,i=>by
  have ih:=ZjU k l (i+1)
  simp only [Zvq,ZaI,List.map_cons,Instr.findNow,Instr.sameNow] at ih ⊢
  by_cases hk:k=p.1
  · subst hk
    rw [show (p.1 == p.1)=true from ZnQ.2 rfl]
    simp [ZhC,List.findIdx_cons]
  · have hb:(k == p.1)=false:=by
     cases h:k == p.1 with
     | false=>rfl
     | true=>exact absurd (ZnQ.1 h) hk
    simp only [hb,ZhC,if_neg hk]
    rw [ih]
    cases ZhC l k with
    | none=>rfl
    | some v=>simp [List.findIdx_cons,hk];omega
theorem Ziq {kt:TypeId} {b:Bool} {k:ByteArray} (hu:P.underlying kt=some .string):Zaf P (Instr.checkKey b 10000 kt (.string k))=some ():=by
 unfold Instr.checkKey
 rw [Zac (Zai hu)]
 rfl
theorem ZjW {kt:TypeId} {k:ByteArray} {l:List (ByteArray×Value)} (hu:P.underlying kt=some .string) :
    Zaf P (Instr.findKey kt (.string k) (ZaI (Zvq l)))=some (match ZhC l k with | some v=>some (l.findIdx (fun p=>k=p.1),v) | none=>none):=by
 unfold Instr.findKey
 rw [Zac (Zai hu),ZjU]
 simp only [Nat.zero_add]
 rfl
theorem Zun {kt:TypeId} {k:ByteArray} {es:List (Value×Value)} (hk:P.underlying kt=some .string):(Zab (.string k)&&Zg2 P kt (.string k) es)=true:=by
 rw [ZuF,Bool.true_and]
 unfold Zg2 ZjM
 rw [hk]
 simp [Zib]
def Zvc (P:Program) (t:TypeId):Option Value:=match P.info? t with
 | some i=>match i.zero with
  | some z=>if Zab z then some z else none
  | none=>none
 | none=>none
theorem ZtS {t kt et:TypeId} {r:Nat} {k:ByteArray} {l:List (ByteArray×Value)} {z:Value} {ok:Bool} (hu:P.underlying t=some (.map kt et)) (hk:P.underlying kt=some .string) (hz:Zvc P et=some z) (hr:H.get r=some (.map (Zvq l))) :
    Zq2 P H t (.map (some r)) (.string k) ok=some (.val (if ok then .tuple #[(ZhC l k).getD z,.bool (ZhC l k).isSome] else (ZhC l k).getD z) H):=by
 unfold Zq2 AHeap.look AHeap.entries
 rw [hu]
 dsimp only
 rw [hr]
 dsimp only
 rw [if_pos (Zun hk),Ziq hk,ZjW hk]
 cases hl:ZhC l k with
 | some v=>rfl
 | none =>
  dsimp only
  unfold Zvc at hz
  split at hz
  case h_2=>simp at hz
  rename_i i hi
  split at hz
  case h_2=>simp at hz
  rename_i z' hz'
  split at hz
  case isFalse=>simp at hz
  rename_i hc
  simp only [Option.some.injEq] at hz
  subst hz
  rw [hi];dsimp only;rw [hz'];dsimp only;rw [if_pos hc]
  rfl
theorem Zq1 {t kt et:TypeId} {r:Nat} {k:ByteArray} {v:Value} {l:List (ByteArray×Value)} (hu:P.underlying t=some (.map kt et)) (hk:P.underlying kt=some .string) (hr:H.get r=some (.map (Zvq l))) (hn:ZhC l k=none) :
    H.mapPut P t (.map (some r)) (.string k) v=some (H.set r (.map (Zvq (l++[(k,v)])))):=by
 unfold AHeap.mapPut
 rw [hu]
 dsimp only
 rw [hr]
 dsimp only
 rw [if_pos (Zun hk),Ziq hk,ZjW hk,hn]
 simp [Zvq]
end
end
section
open Go
theorem AHeap.ext' {H H':AHeap} (h1:H.next=H'.next) (h2:∀ j,H.get j=H'.get j):H=H':=by
 cases H;cases H'
 simp only at h1 h2
 subst h1
 congr
 exact funext h2
theorem AHeap.set_set {H:AHeap} {i:Nat} {o o':AObj}:(H.set i o).set i o'=H.set i o':=AHeap.ext' rfl fun j=>by
 by_cases h:j=i<;>simp [AHeap.set,h]
theorem AHeap.set_self {H:AHeap} {i:Nat} {o:AObj} (h:H.get i=some o):H.set i o=H:=AHeap.ext' rfl fun j=>by
 by_cases hj:j=i
 · subst hj;simp [AHeap.set,h]
 · simp [AHeap.set,hj]
section
variable {P:Program} {ext:CallT} {rnd:Bool}
def Zo6 (P:Program) (H:AHeap) (t:TypeId):Value→Option Value
 | .pointer (some a)=>H.loadV P t a
 | _=>none
theorem Zo5 {H:AHeap} {t:TypeId} {a:Addr}:Zo6 P H t (.pointer (some a))=H.loadV P t a:=rfl
theorem Ztf {H:AHeap} {tm:List Value} {a t:Nat} {rs:List ResultVar}:ZaW P H tm (.cell a t::rs)=(Zo6 P H t (tm.getD a undef)).bind fun v=>(ZaW P H tm rs).map fun vs=>v::vs:=by
 conv=>lhs;unfold ZaW
 simp only [Zet,Zo6]
 cases tm.getD a undef<;>try rfl
 rename_i p
 cases p with
 | none=>rfl
 | some ad =>
  dsimp only
  cases H.loadV P t ad with
  | none=>rfl
  | some v=>cases ZaW P H tm rs<;>rfl
structure Grown (H H':AHeap):Prop where
 get:∀ j,j<H.next→H'.get j=H.get j
 next:H.next≤H'.next
 fresh:H'.Fresh
end
end
end B
end Go.Proofs.YtmocfnfnhgognaaGreat
