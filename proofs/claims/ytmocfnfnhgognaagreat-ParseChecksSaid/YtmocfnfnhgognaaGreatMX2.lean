/-
  The second symbolic runner: the runner, its soundness, the limit.
-/
import Derived.Test.YtmocfnfnhgognaaGreatMX1
namespace Go.Proofs.YtmocfnfnhgognaaGreat
namespace X
section
open Go B
inductive XE where
 | normal
 | exit (i:Nat)
 | ret
 | panic (v:SV)
abbrev DF:=List (FuncId×List SV)
abbrev Rec:=Nat→Code→SS→DF→(XE→SS→DF→FT)→FT
def ZzB:XE→Bool
 | .normal=>true
 | .ret=>true
 | _=>false
def ZnR:DF→DF→Bool
 | [],[]=>true
 | (g,l)::d,(f,m)::e=>Nat.beq g f&&ZrC l m&&ZnR d e
 | _,_=>false
structure Cfg where
 T:Tabs
 sigs:FuncId→List (Nat×Sig)
 inl:FuncId→Bool
 unr:FuncId→Nat
 eqT:TypeId→Bool
 K:List RC
abbrev Bnd:=List (Option SV)×List (Option Nat)
def Zz5 {α:Type} (l:List (Option α)) (i:Nat) (x:α):List (Option α):=match l[i]? with
 | some none=>l.set i (some x)
 | _=>l
mutual
def Zz9:SV→SV→Bnd→Bnd
 | .x i,s,b=>(Zz5 b.1 i s,b.2)
 | .loc p _,.loc q _,b=>(b.1,Zz5 b.2 p q)
 | .al p _,.al q _,b=>(b.1,Zz5 b.2 p q)
 | .sl p _,.sl q _,b=>(b.1,Zz5 b.2 p q)
 | .mp p,.mp q,b=>(b.1,Zz5 b.2 p q)
 | .yl p,.yl q,b=>(b.1,Zz5 b.2 p q)
 | .agg l,.agg m,b=>ZnN l m b
 | .tup l,.tup m,b=>ZnN l m b
 | .fn _ l,.fn _ m,b=>ZnN l m b
 | .bm _ v,.bm _ w,b=>Zz9 v w b
 | .ifc _ v,.ifc _ w,b=>Zz9 v w b
 | _,_,b=>b
def ZnN:List SV→List SV→Bnd→Bnd
 | p::l,s::m,b=>ZnN l m (Zz9 p s b)
 | _,_,b=>b
end
def ZEM (p s:SB) (b:Bnd):Bnd:=match p,s with
 | .box l _,.box m _=>ZnN l m b
 | .arr l _,.arr m _=>ZnN l m b
 | .map x,.map y=>(Zz5 b.1 x (.x y),b.2)
 | .rc _ _ _ l,.rc _ _ _ m=>ZnN l m b
 | _,_=>b
def Zql (locs:List SB):Nat→List SB→Bnd→Bnd
 | _,[],b=>b
 | i,p::l,b=>Zql locs (i+1) l (match b.2[i]? with
  | some (some j)=>ZEM p (Zky locs j) b
  | _=>b)
def ZnM (p st:SS) (b:Bnd):List SV×List Nat :=
 let r:=Zql st.locs 0 p.locs (ZnN p.slots st.slots b)
 (r.1.map fun o=>o.getD (.c (.bool false)),r.2.map fun o=>o.getD 0)
def frz:List VA→List SV→List VA→List VA
 | va,u::us,a::as=>frz (match u,a with
  | .x i,.sh _=>match va[i]? with
   | some (.ow f)=>va.set i (.sh f)
   | _=>va
  | _,_=>va) us as
 | va,_,_=>va
def ZCB (st:SS) (us:List SV) (vs:List Nat) (s:Sig) (k kp:SV→SS→FT) (i:Nat):FT:=match s.outs[i]? with
 | some a=>(bif a.pan then kp else k) (ZpF st us vs s a) (Zkr st us vs s a)
 | none=>.stop 40
def Zn6 (st:SS) (as:List SV) (j:Nat) (s:Sig) (k kp:SV→SS→FT):Option FT :=
 let b:=ZnM ⟨s.args,s.locs,s.va⟩ ⟨as,st.locs,st.va⟩ (List.replicate s.va.length none,List.replicate s.locs.length none)
 let st1:SS:={ st with va:=frz st.va b.1 s.va }
 bif chk ⟨as,st1.locs,st1.va⟩ b.1 b.2 ⟨s.args,s.locs,s.va⟩&&Zki (ZpN st1.va) b.1 s.va&&s.locs.all ZCQ then
  some (.call j b.1 (ZCB st1 b.1 b.2 s k kp 0) (ZCB st1 b.1 b.2 s k kp 1) (ZCB st1 b.1 b.2 s k kp 2))
 else none
def ZgE (st:SS) (as:List SV) (k kp:SV→SS→FT):List (Nat×Sig)→Option FT
 | []=>none
 | (j,s)::l=>match Zn6 st as j s k kp with
  | some t=>some t
  | none=>ZgE st as k kp l
def ZyD:List SV→SV
 | [v]=>v
 | vs=>.tup vs
def ZwU (T:Tabs) (st:SS):List ResultVar→Option (List SV)
 | []=>some []
 | .tmp t::rs=>match st.slots[t]?,ZwU T st rs with
  | some v,some vs=>bif Ziw v then none else some (v::vs)
  | _,_=>none
 | .cell a t::rs=>match st.slots[a]?,ZdK T t,ZwU T st rs with
  | some (.loc b o),some false,some vs=>match Zky st.locs b with
   | .box cs _=>match cs[o]? with
    | some v=>bif Ziw v then none else some (v::vs)
    | none=>none
   | _=>none
  | some (.loc b o),some true,some vs=>match Zky st.locs b,T.info t with
   | .box cs _,some i=>bif Zb5 (o+i.size) cs&&!(((cs.drop o).take i.size).any Ziw) then some (.agg ((cs.drop o).take i.size)::vs) else none
   | _,_=>none
  | _,_,_=>none
def Zs0 (st:SS) (x:Operand) (kp:SV→SS→FT):FT:=match sv st x with
 | some (.ifc t v)=>kp (.ifc t v) st
 | _=>.stop 48
def ZhE (T:Tabs) (t:TypeId):Bool:=match T.und t with
 | some (.interface _)=>true
 | none=>true
 | _=>false
def ZDN (T:Tabs) (st:SS) (t:TypeId) (x:Operand) (k:SV→SS→FT):FT:=match sv st x with
 | some v=>bif ZhE T t then .stop 49 else k (.ifc t v) st
 | none=>.stop 49
def Zok (T:Tabs) (st:SS) (t:TypeId) (x:Operand) (ok:Bool) (k:SV→SS→FT):FT:=match sv st x with
 | some (.ifc u v)=>bif ZhE T t then .stop 49 else bif Nat.beq u t then k (bif ok then .tup [v,.c (.bool true)] else v) st
     else bif ok then match ZeQ T t with
      | some z=>k (.tup [.c z,.c (.bool false)]) st
      | none=>.stop 49
     else .stop 49
 | _=>.stop 49
def Zk4 (T:Tabs) (t:TypeId):Bool:=match T.und t with
 | some (.interface _)=>true
 | _=>false
def ZpW:Operand→Bool
 | .const _=>true
 | _=>false
def ZpD (T:Tabs) (st:SS) (op:BinOp) (t:TypeId) (same:Bool) (y:Operand) (k:SV→SS→FT):FT:=bif Zk4 T t&&ZpW y then match op with
 | .eql=>k (.c (.bool same)) st
 | .neq=>k (.c (.bool (!same))) st
 | _=>.stop 49
 else .stop 49
def ZAR (cfg:Cfg) (st:SS) (k:SV→SS→FT):Op→FT
 | .move x=>Zvy st x k
 | .assign x=>Zvy st x k
 | .pick c a b=>Zyh st c a b k
 | .alloc t=>Zta cfg.T st t k
 | .box t x=>ZDS cfg.T st t x k
 | .build t ps=>Zs8 cfg.T st t ps.toList k
 | .buildSlice t n ps=>sMk cfg.T st t n ps.toList k
 | .load t x=>ZqM cfg.T st t x k
 | .store t x y=>ZsW cfg.T st t x y k
 | .nilCheck x=>ZDJ st x k
 | .binOp op t x y _=>match sv st x,sv st y with
  | some (.agg l),some (.agg m)=>ZDR cfg.T cfg.eqT st op t l m k
  | some (.ifc _ _),some (.c .nilIface)=>ZpD cfg.T st op t false y k
  | some (.c .nilIface),some (.c .nilIface)=>ZpD cfg.T st op t true y k
  | _,_=>ZDT cfg.T st op t x y k
 | .unOp op _ x=>sUn st op x k
 | .convert s d x=>Zys cfg.T st s d x k
 | .makeFunc (.func f) u v=>Zyp st f u.toList v.toList k
 | .slice t x lo hi none=>ZsY cfg.T st t x lo hi k
 | .fieldAddr s x f=>ZDQ cfg.T st s x f k
 | .field t x f=>Zs4 cfg.T st t x f k
 | .indexAddr t x y=>ZDO cfg.T st t x y k
 | .index t x y=>Zs2 cfg.T st t x y k
 | .extract x i=>Zlt st x i k
 | .makeMap _ none=>ZDL st k
 | .makeInterface t x=>ZDN cfg.T st t x k
 | .typeAssert x _ t ok=>Zok cfg.T st t x ok k
 | .lookup t m x ok=>ZDP cfg.T cfg.eqT st t m x ok k
 | .mapUpdate t m x y=>ZDI cfg.T cfg.eqT st t m x y k
 | .call ⟨.builtin .len,args,tys⟩=>match args.toList,tys.toList with
  | [x],[t]=>ZDM cfg.T st t x k
  | _,_=>.stop 52
 | .call ⟨.builtin .append,args,tys⟩=>match args.toList,tys.toList with
  | [x,y],[t,t']=>bif Nat.beq t t' then ZDU cfg.T st t x y k else .stop 52
  | _,_=>.stop 52
 | .call ⟨.builtin .min,args,tys⟩=>match args.toList,tys.toList with
  | [x,y],[_,_]=>ZDK st x y k
  | _,_=>.stop 52
 | _=>.stop 53
def Zpr (dst:Option Nat) (v:SV) (st:SS):SS:=match dst with
 | some d=>{ st with slots:=st.slots.set d v }
 | none=>st
def isU:SV→Bool
 | .tup []=>true
 | _=>false
def ZsU (all:List Oper) (st:SS) (o:Oper) (yes no:SS→FT):FT:=match o.guard with
 | none=>yes st
 | some (j,want)=>match all[j]? with
  | some o'=>match o'.dst with
   | some d=>match st.slots[d]? with
    | some v=>bif isU v then no st else bif want then sBr st v yes no else sBr st v no yes
    | none=>.stop 54
   | none=>.stop 54
  | none=>.stop 54
abbrev SM:=Option (SV×Bool)
def ZsL:SM→SM
 | some (_,true)=>none
 | m=>m
def ZiG:SM→SV×SM
 | some (v,false)=>(v,some (v,true))
 | m=>(.c .nilIface,m)
def Zqv (cfg:Cfg) (all:List Oper):List Oper→SM→SS→(XE→SM→SS→FT)→FT
 | [],m,st,k=>k .normal m st
 | o::rest,m,st,k=>bif st.slots.isEmpty then .stop 85 else ZsU all st o
    (fun st=>bif Zbv o then bif ZaO o.op.operands.toList then Zqv cfg all rest (ZiG m).2 (Zpr o.dst (ZiG m).1 st) k else .stop 86 else ZAR cfg st (fun v st'=>Zqv cfg all rest m (Zpr o.dst v st') k) o.op)
    (fun st=>Zqv cfg all rest m (Zpr o.dst (.tup []) st) k)
def Zvh (rec:Rec) (u:Nat) (c:Code) (m:SM) (st:SS) (k:XE→SM→SS→FT):FT:=rec u c st [] fun x st' df=>bif df.isEmpty then k x m st' else .stop 87
def xS (cfg:Cfg) (rec:Rec) (u:Nat):Code→SM→SS→(XE→SM→SS→FT)→FT
 | .seq a b,m,st,k=>xS cfg rec u a m st fun x m st=>match x with
  | .normal=>xS cfg rec u b m st k
  | x=>k x m st
 | .cond q a b,m,st,k=>match sv st q with
  | some v=>sBr st v (fun st=>xS cfg rec u a m st k) fun st=>xS cfg rec u b m st k
  | none=>.stop 58
 | .region id ops draw,m,st,k=>bif !draw&&ops.toList.any Zbv then Zqv cfg ops.toList ops.toList m st k else Zvh rec u (.region id ops draw) m st k
 | c,m,st,k=>Zvh rec u c m st k
def ZvE (cfg:Cfg) (rec:Rec):DF→SM→SS→(SM→SS→FT)→FT
 | [],m,st,k=>k m st
 | (g,as)::l,m,st,k=>match cfg.T.func g with
  | some fn=>match fn.body with
   | some c=>bif Nat.ble as.length fn.ntmps then xS cfg rec (cfg.unr g) c m ⟨as++List.replicate (fn.ntmps-as.length) .jk,st.locs,st.va⟩ fun x m st'=>bif ZzB x then match ZwU cfg.T st' fn.results.toList with
         | some _=>ZvE cfg rec l (ZsL m) { st' with slots:=st.slots } k
         | none=>.stop 41
    else .stop 42
    else .stop 43
   | none=>.stop 44
  | none=>.stop 44
def Zvg (cfg:Cfg) (rec:Rec) (rs:List ResultVar) (df:DF) (m:SM) (st:SS) (k kp:SV→SS→FT):FT:=ZvE cfg rec df m st fun m st'=>match m with
    | none=>match ZwU cfg.T st' rs with
     | some vs=>k (ZyD vs) st'
     | none=>.stop 41
    | some (v,false)=>kp v st'
    | _=>.stop 42
def ZrL (cfg:Cfg) (rec:Rec) (rs:List ResultVar) (x:XE) (st:SS) (df:DF) (k kp:SV→SS→FT):FT:=match x with
 | .panic v=>bif df.isEmpty then kp v st else bif st.slots.isEmpty then .stop 42 else Zvg cfg rec rs df (some (v,false)) st k kp
 | x=>bif ZzB x then Zvg cfg rec rs df none st k kp else .stop 42
def ZoM (cfg:Cfg) (rec:Rec) (g:FuncId) (as:List SV) (st:SS) (k kp:SV→SS→FT):FT:=match cfg.T.func g with
 | some fn=>match fn.body with
  | some c=>bif Nat.ble as.length fn.ntmps then rec (cfg.unr g) c ⟨as++List.replicate (fn.ntmps-as.length) .jk,st.locs,st.va⟩ [] fun x st' df=>ZrL cfg rec fn.results.toList x st' df (fun v st'=>k v { st' with slots:=st.slots }) (fun v st'=>kp v { st' with slots:=st.slots })
   else .stop 43
  | none=>.stop 44
 | none=>.stop 44
def ZB1:SV→Option (FuncId×List SV×List SV)
 | .fn g l=>some (g,[],l)
 | .bm g v=>some (g,[v],[])
 | .c (.func (.func g) x y)=>bif x.toList.isEmpty&&y.toList.isEmpty then some (g,[],[]) else none
 | _=>none
def ZsP (ps:List Tmp) (as slots:List SV):List SV:=(ps.zip as).foldl (fun l p=>l.set p.1 p.2) slots
def Zda:Code→Bool
 | .skip=>true
 | .region _ ops _=>!(ops.toList.any fun o=>Zbd o.op)
 | .seq a b=>Zda a&&Zda b
 | .cond _ a b=>Zda a&&Zda b
 | .block _ a=>Zda a
 | .loop a=>Zda a
 | .exit _=>true
 | .ret=>true
 | .label _=>true
 | _=>false
def Ztd:XE→Option (Option (Option Nat))
 | .normal=>some none
 | .ret=>some (some none)
 | .exit i=>some (some (some i))
 | .panic _=>none
def ZsT (cfg:Cfg) (rec:Rec) (st:SS) (b:Nat) (as:List SV) (k:SV→SS→FT):FT:=match Zky st.locs b with
 | .rc j 0 none cs=>match cfg.K[j]? with
  | some r=>bif Zda r.asg&&Zda r.body&&Nat.beq as.length r.ps.size then rec 0 r.asg ⟨ZsP r.ps.toList as cs,st.locs,st.va⟩ [] fun x st1 df1=>match x with
      | .normal=>match Zky st1.locs b with
       | .rc j1 0 none cs1=>rec 0 r.body ⟨st1.slots,st1.locs.set b (.rc j1 1 none cs1),st1.va⟩ df1 fun x st2 _=>match Ztd x with
        | some pd=>match Zky st2.locs b with
         | .rc j2 _ _ cs2=>k (.c (.bool pd.isNone)) ⟨st.slots,st2.locs.set b (.rc j2 (bif pd.isNone then 0 else 2) pd cs2),st2.va⟩
         | _=>.stop 88
        | none=>.stop 88
       | _=>.stop 88
      | _=>.stop 88
   else .stop 88
  | none=>.stop 88
 | _=>.stop 88
def Zyt (cfg:Cfg) (rec:Rec) (st:SS) (f:Operand) (args:List Operand) (k kp:SV→SS→FT):FT:=match sv st f,svs st args with
 | some (.yl b),some as=>ZsT cfg rec st b as k
 | some v,some as=>match ZB1 v with
  | some (g,pre,caps)=>match cfg.T.func g with
   | some _=>match ZgE st (pre++as++caps) k kp (cfg.sigs g) with
    | some t=>t
    | none=>bif cfg.inl g then ZoM cfg rec g (pre++as++caps) st k kp else .stop (1000+g)
   | none=>.stop 45
  | none=>.stop 46
 | _,_=>.stop 47
def xop (cfg:Cfg) (rec:Rec) (st:SS) (k kp:SV→SS→FT):Op→FT
 | .call ⟨.value f,args,_⟩=>Zyt cfg rec st f args.toList k kp
 | .panic x=>Zs0 st x kp
 | op=>ZAR cfg st k op
def Zs6 (cfg:Cfg) (st:SS) (op:Op) (df:DF) (k:DF→FT):FT:=match op with
 | .defer ⟨.value f,args,_⟩=>match sv st f,svs st args.toList with
  | some v,some as=>match ZB1 v with
   | some (g,pre,caps)=>match cfg.T.func g with
    | some _=>k ((g,pre++as++caps)::df)
    | none=>.stop 45
   | none=>.stop 46
  | _,_=>.stop 47
 | _=>.stop 55
def Zvd (cfg:Cfg) (rec:Rec) (all:List Oper):List Oper→SS→DF→(SS→DF→FT)→(SV→SS→DF→FT)→FT
 | [],st,df,k,_=>k st df
 | o::rest,st,df,k,kp=>ZsU all st o
    (fun st=>bif Zbd o.op then Zs6 cfg st o.op df fun df=>Zvd cfg rec all rest (Zpr o.dst .jk st) df k kp else xop cfg rec st (fun v st'=>Zvd cfg rec all rest (Zpr o.dst v st') df k kp) (fun v st'=>kp v st' df) o.op)
    (fun st=>Zvd cfg rec all rest (Zpr o.dst (.tup []) st) df k kp)
inductive Rd where
 | loc (b o:Nat) (cs:List SV)
 | any
 | obj (b:Nat) (sb:SB)
 | no
def SB.beq:SB→SB→Bool
 | .box l e,.box m e'=>ZrC l m&&Nat.beq e e'
 | .arr l e,.arr m e'=>ZrC l m&&Nat.beq e e'
 | _,_=>false
def ZzA (va:List VA) (a:Nat):Bool:=match va[a]? with
 | some (.sh _)=>true
 | _=>false
def ZDX (T:Tabs) (st:SS) (op:Op) (v:SV):Rd:=match op with
 | .load t x=>match sv st x,ZdK T t,v with
  | some (.loc b o),some true,.agg l=>.loc b o l
  | some (.loc b o),some false,v=>bif Ziw v then .no else .loc b o [v]
  | some (.el a _ _ _ _),_,_=>bif ZzA st.va a then .any else .no
  | _,_,_=>.no
 | .call ⟨.builtin .len,args,tys⟩=>match args.toList,tys.toList with
  | [x],[_]=>match sv st x with
   | some (.x a)=>bif ZzA st.va a then .any else .no
   | _=>.no
  | _,_=>.no
 | _=>.no
def ZET (st st':SS):Rd:=match st'.locs[st.locs.length]? with
 | some (.box cs e)=>bif cs.any Ziw then .no else .obj st.locs.length (.box cs e)
 | some (.arr cs e)=>bif cs.any Ziw then .no else .obj st.locs.length (.arr cs e)
 | _=>.no
def ZCn (st:SS):Nat×Rd→Bool
 | (_,.loc b o cs)=>match Zky st.locs b with
  | .box l _=>ZrC ((l.drop o).take cs.length) cs
  | _=>false
 | (_,.any)=>true
 | (_,.obj b sb)=>SB.beq (Zky st.locs b) sb
 | (_,.no)=>false
def Zmp (cfg:Cfg) (rec:Rec) (all:List Oper) (B:List Nat):List (Nat×Rd)→List Nat→SS→(SS→FT)→(SV→SS→FT)→FT
 | _,[],st,k,_=>k st
 | R,j::rest,st,k,kp=>match all[j]? with
  | none=>.stop 80
  | some o=>bif st.slots.isEmpty then .stop 85 else ZsU all st o
   (fun st=>bif Zbd o.op then .stop 81 else match ZaS o.op with
    | .pure=>xop cfg rec st (fun v st'=>Zmp cfg rec all B R rest (Zpr o.dst v st') k kp) (fun _ _=>.stop 82) o.op
    | .read=>xop cfg rec st (fun v st'=>Zmp cfg rec all B ((j,ZDX cfg.T st o.op v)::R) rest (Zpr o.dst v st') k kp) (fun _ _=>.stop 82) o.op
    | .alloc=>xop cfg rec st (fun v st'=>Zmp cfg rec all B ((j,ZET st st')::R) rest (Zpr o.dst v st') k kp) (fun _ _=>.stop 82) o.op
    | .effect=>xop cfg rec st (fun v st'=>bif (R.filter fun r=>!(bit B j r.1)).all (ZCn st') then Zmp cfg rec all B (R.filter fun r=>!(bit B j r.1)) rest (Zpr o.dst v st') k kp else .stop 83) (fun v st'=>bif R.all (ZCn st) then kp v ⟨[],st'.locs,st'.va⟩ else .stop 84) o.op)
   (fun st=>Zmp cfg rec all B (bif ZaM o then R.filter fun r=>!(bit B j r.1) else R) rest (Zpr o.dst (.tup []) st) k kp)
def Zu0 (va:List VA):SV→Option VA
 | .c v=>bif Zm2 v then some (.ow true) else bif Zab v&&Zba v then some .sc else none
 | .x i=>match va[i]? with
  | some .dd=>none
  | r=>r
 | _=>none
def VA.join:VA→VA→VA
 | .sc,.sc=>.sc
 | .sc,.sh g=>.sh g
 | .sh f,.sc=>.sh f
 | .sh f,.sh g=>.sh (f&&g)
 | .ow f,.sh g=>.sh (f&&g)
 | .sh f,.ow g=>.sh (f&&g)
 | .ow f,.ow g=>.ow (f&&g)
 | _,_=>.dd
def VA.beq:VA→VA→Bool
 | .dd,.dd=>true
 | .sc,.sc=>true
 | .sh f,.sh g=>f == g
 | .ow f,.ow g=>f == g
 | _,_=>false
structure Gn where
 va:List VA
 ch:Bool
def ZsN (g:Gn) (p:Nat) (a:VA):Gn:=match g.va[p]? with
 | some b=>bif VA.beq a b then g else ⟨g.va.set p a,true⟩
 | none=>g
def ZEj (g:Gn) (h:SV) (a:VA):Gn:=match h with
 | .x i=>match g.va[i]?,a with
  | some (.ow _),.ow _=>ZsN g i .dd
  | some (.ow _),.sh f=>ZsN g i (.sh f)
  | _,_=>g
 | _=>g
mutual
def ZBM (n:Nat) (ea:List VA):SV→SV→Gn→SV×Gn
 | .jk,_,g=>(.jk,g)
 | .x p,s,g=>bif Nat.ble n p then match Zu0 ea s,g.va[p]? with
     | some a,some b=>(.x p,ZsN g p (VA.join b a))
     | _,_=>(.jk,⟨g.va,true⟩)
  else bif SV.beq (.x p) s then (.x p,g) else match Zu0 g.va (.x p),Zu0 ea s with
   | some a,some b=>(.x g.va.length,ZEj ⟨g.va++[VA.join a b],true⟩ (.x p) (VA.join a b))
   | _,_=>(.jk,⟨g.va,true⟩)
 | .agg l,.agg m,g=>let r:=ZpO n ea l m g;(.agg r.1,r.2)
 | h,s,g=>bif SV.beq h s then (h,g) else match Zu0 g.va h,Zu0 ea s with
     | some a,some b=>(.x g.va.length,⟨g.va++[VA.join a b],true⟩)
     | _,_=>(.jk,⟨g.va,true⟩)
def ZpO (n:Nat) (ea:List VA):List SV→List SV→Gn→List SV×Gn
 | h::l,s::m,g=>let r:=ZBM n ea h s g;let q:=ZpO n ea l m r.2;(r.1::q.1,q.2)
 | _,_,g=>([],g)
end
def ZFP:SV→SV
 | .agg l=>bif ZlJ l then .agg l else .jk
 | s=>s
def Zzn (n:Nat) (ea:List VA) (l m:List SV) (g:Gn):List SV×Gn:=let r:=ZpO n ea l m g;(r.1.map ZFP,r.2)
def ZBN (n:Nat) (ea:List VA) (h s:SB) (g:Gn):SB×Gn:=match h,s with
 | .box l e,.box m _=>let r:=ZpO n ea l m g;(.box r.1 e,r.2)
 | h,_=>(h,g)
def ZtO (n:Nat) (ea:List VA):List SB→List SB→Gn→List SB×Gn
 | h::l,s::m,g=>let r:=ZBN n ea h s g;let q:=ZtO n ea l m r.2;(r.1::q.1,q.2)
 | _,_,g=>([],g)
def Zxu (n:Nat):Nat→List VA→Gn→Gn
 | i,b::ea,g=>bif Nat.ble n i then g else Zxu n (i+1) ea (match g.va[i]?,b with
  | some .dd,_=>g
  | some _,.dd=>ZsN g i .dd
  | some (.ow f),.sh f'=>ZsN g i (.sh (f&&f'))
  | _,_=>g)
 | _,[],g=>g
def ZEc (n:Nat) (c e:SS) (ch:Bool):SS×Bool :=
 let r:=Zzn n e.va c.slots e.slots ⟨c.va,ch⟩
 let q:=ZtO n e.va c.locs e.locs r.2
 let g:=Zxu n 0 e.va q.2
 (⟨r.1,q.1,g.va⟩,g.ch)
def Zxt (n:Nat):SS→Bool→List SS→SS×Bool
 | c,ch,[]=>(c,ch)
 | c,ch,e::l=>let r:=ZEc n c e ch;Zxt n r.1 r.2 l
def Zim:FT→List SS
 | .probe st=>[st]
 | .out k=>Zim k
 | .bin _ _ _ _ k=>Zim k
 | .nilq _ _ k=>Zim k
 | .un _ _ k=>Zim k
 | .conv _ _ _ k=>Zim k
 | .len _ _ k=>Zim k
 | .sidx _ _ _ k=>Zim k
 | .ssl _ _ _ _ k=>Zim k
 | .lsl _ _ _ _ k=>Zim k
 | .bnd _ _ _ k=>Zim k
 | .ld _ _ _ _ _ k=>Zim k
 | .mk _ _ _ k=>Zim k
 | .app _ _ _ k=>Zim k
 | .upd _ _ _ _ _ _ k=>Zim k
 | .min _ _ k=>Zim k
 | .mnew k=>Zim k
 | .eqs _ _ _ _ k=>Zim k
 | .mget _ _ _ _ _ k=>Zim k
 | .mput _ _ _ _ _ k=>Zim k
 | .call _ _ k1 k2 k3=>Zim k1++Zim k2++Zim k3
 | .br _ k1 k2=>Zim k1++Zim k2
 | .loop _ body=>Zim body
 | _=>[]
def Zue (rec:Rec) (n:Nat) (a:Code):Nat→SS→SS
 | 0,c=>c
 | r+1,c=>match Zxt n c false (Zim (rec 0 a c [] fun x st' _=>match x with
    | .normal=>.probe st'
    | _=>.stop 0)) with
  | (c',true)=>Zue rec n a r c'
  | (c',false)=>c'
def ZhW (n m:Nat) (g st:SS):Option (List SV) :=
 let b:=ZnM g st ((Zn1 0 n).map some++List.replicate (g.va.length-n) none,(List.range m).map some)
 let vals:=b.1.drop n
 bif chk st (Zn1 0 n++vals) (List.range m) g then some vals else none
def ZDY (n:Nat):SB→Bool
 | .rc j _ _ _=>Nat.blt j n
 | _=>true
def ZzO:Option (Option Nat)→XE
 | none=>.normal
 | some none=>.ret
 | some (some i)=>.exit i
def ZrI (cfg:Cfg) (rec2:Cfg→Rec) (g:Operand) (ps:Array Tmp) (asg body:Code) (st:SS) (df:DF) (k:XE→SS→DF→FT):FT:=match sv st g with
 | some v=>match ZB1 v with
  | some (f,pre,caps)=>match cfg.T.func f with
   | some fn=>match fn.body with
    | some c=>bif cfg.inl f&&Nat.ble (pre++.yl st.locs.length::caps).length fn.ntmps then
        rec2 { cfg with K:=cfg.K++[⟨ps,asg,body⟩] } (cfg.unr f) c ⟨(pre++.yl st.locs.length::caps)++List.replicate (fn.ntmps-(pre++.yl st.locs.length::caps).length) .jk,st.locs++[.rc cfg.K.length 0 none st.slots],st.va⟩ [] fun x st' df' =>
         ZrL { cfg with K:=cfg.K++[⟨ps,asg,body⟩] } (rec2 { cfg with K:=cfg.K++[⟨ps,asg,body⟩] }) fn.results.toList x st' df' (fun _ st2=>match Zky st2.locs st.locs.length with
          | .rc _ s pd _=>bif Nat.beq s 1 then .stop 89 else bif (st2.locs.set st.locs.length .dead).all (ZDY cfg.K.length) then k (ZzO pd) ⟨st.slots,st2.locs.set st.locs.length .dead,st2.va⟩ df else .stop 89
          | _=>.stop 89) (fun _ _=>.stop 89)
     else .stop 89
    | none=>.stop 44
   | none=>.stop 45
  | none=>.stop 46
 | none=>.stop 47
def ZiR (cfg:Cfg) (rec:Rec) (rec2:Cfg→Rec) (u:Nat) (c:Code) (st:SS) (df:DF) (k:XE→SS→DF→FT):FT:=match c with
 | .skip=>k .normal st df
 | .region _ ops draw=>match draw with
  | false=>Zvd cfg rec ops.toList ops.toList st df (k .normal) fun v st df=>k (.panic v) st df
  | true=>bif ZdX ops.toList (Zbo ops.toList)&&((Zbo ops.toList).filterMap fun j=>ops.toList[j]?).all (fun o=>!Zbd o.op) then Zvd cfg rec ops.toList ((Zbo ops.toList).filterMap fun j=>ops.toList[j]?) st df (k .normal) fun v st df=>k (.panic v) ⟨[],st.locs,st.va⟩ df
   else bif ZbD ops.toList (Zbo ops.toList) then Zmp cfg rec ops.toList (Zbf ops.toList) [] (Zbo ops.toList) st (fun st=>k .normal st df) (fun v st=>k (.panic v) st df) else .stop 57
 | .seq a b=>rec u a st df fun x st' df'=>match x with
  | .normal=>rec u b st' df' k
  | x=>k x st' df'
 | .cond q a b=>match sv st q with
  | some v=>sBr st v (fun st=>rec u a st df k) fun st=>rec u b st df k
  | none=>.stop 58
 | .block id a=>rec u a st df fun x st' df'=>match x with
  | .exit i=>bif Nat.beq i id then k .normal st' df' else k (.exit i) st' df'
  | x=>k x st' df'
 | .loop a=>match u with
  | u+1=>rec (u+1) a st df fun x st' df'=>match x with
   | .normal=>rec u (.loop a) st' df' k
   | x=>k x st' df'
  | 0 =>
   let n:=st.va.length
   let m:=st.locs.length
   let g:=Zue rec n a 6 st
   match ZhW n m g st with
   | some vals=>.loop vals (rec 0 a g df fun x st' df'=>match x with
       | .normal=>bif ZnR df df' then match ZhW n m g st' with
        | some vals'=>.again vals'
        | none=>.stop 59
        else .stop 59
       | x=>.out (k x st' df'))
   | none=>.stop 61
 | .exit id=>k (.exit id) st df
 | .ret=>k .ret st df
 | .label _=>k .normal st df
 | .rangeFunc g ps asg body=>ZrI cfg rec2 g ps asg body st df k
 | _=>.stop 62
def ZC5 (rec2:Cfg→Rec) (cfg:Cfg) (u:Nat) (c:Code) (st:SS) (df:DF) (k:XE→SS→DF→FT):FT:=ZiR cfg (rec2 cfg) rec2 u c st df k
def ZrM:Nat→Cfg→Rec
 | 0,_,_,_,_,_,_=>.stop 63
 | n+1,cfg,u,c,st,df,k=>ZC5 (ZrM n) cfg u c st df k
end
section
open Go B
section
variable {P:Program} {cfg:Cfg} {ext:CallT} {F:Nat→List D→Option (Nat×List D)} {L:Nat} {call:CallT} {C:Cx} {E:SE} {st:SS} {tm:List Value} {H:AHeap} {ty:TypeId} {dst:Option Nat} {dfs:List ADef} {K:St→Option (AExit×St)} {G:Option (AExit×St)→Prop} {o:Out}
inductive Zmj (E:SE):XE→AExit→Prop
 | normal:Zmj E .normal .normal
 | exit {i:Nat}:Zmj E (.exit i) (.exit i)
 | ret:Zmj E .ret .ret
 | panic {v:SV} {w:Value} (h:Dn E v w):Zmj E (.panic v) (.panic w)
def DfR (E:SE):DF→List ADef→Prop
 | [],[]=>True
 | (g,as)::l,d::ds=>d.f=g∧d.args=Zbk E as∧okL E.ρ.length E.ω.length as=true∧DfR E l ds
 | _,_=>False
theorem ZBI {n m n' m':Nat} (hn:n≤n') (hm:m≤m') {l:List SV} (h:okL n m l=true):okL n' m' l=true:=by
 rw [Zex,List.all_eq_true] at h ⊢
 exact fun v hv=>SV.ok_mono hn hm (h v hv)
theorem SE.le.len {E E':SE} (h:SE.le E E'):E.ρ.length≤E'.ρ.length∧E.ω.length≤E'.ω.length:=by
 obtain ⟨⟨a,ha⟩,_,⟨c,hc⟩⟩:=h
 rw [ha,hc,List.length_append,List.length_append];exact ⟨Nat.le_add_right _ _,Nat.le_add_right _ _⟩
theorem DfR.mono {E E':SE} (h:SE.le E E') (hl:E.w.length=E.ρ.length):∀ {l:DF} {ds:List ADef},DfR E l ds→DfR E' l ds
 | [],[],_=>trivial
 | (g,as)::l,d::ds,⟨h1,h2,h3,h4⟩=>⟨h1,by rw [h2,ZeH h (by omega) (Nat.le_refl _) h3],ZBI h.len.1 h.len.2 h3,DfR.mono h hl h4⟩
 | [],_::_,hh=>hh.elim
 | _::_,[],hh=>hh.elim
theorem DfR.det {E:SE}:∀ {l:DF} {ds ds':List ADef},DfR E l ds→DfR E l ds'→ds=ds'
 | [],[],[],_,_=>rfl
 | (g,as)::l,d::ds,d'::ds',⟨h1,h2,h3,h4⟩,⟨g1,g2,g3,g4⟩=>by
  obtain ⟨f,a⟩:=d
  obtain ⟨f',a'⟩:=d'
  dsimp only at h1 h2 g1 g2
  rw [h1,h2,g1,g2,DfR.det h4 g4]
 | [],_::_,_,hh,_=>hh.elim
 | [],[],_::_,_,hh=>hh.elim
 | _::_,[],_,hh,_=>hh.elim
 | _::_,_::_,[],_,hh=>hh.elim
theorem Zqm:∀ {l m:DF},ZnR l m=true→l=m
 | [],[],_=>rfl
 | (g,as)::l,(f,bs)::m,h=>by
  unfold ZnR at h
  simp only [Bool.and_eq_true] at h
  rw [Nat.eq_of_beq_eq_true h.1.1,ZgA h.1.2,Zqm h.2]
 | [],_::_,h=>by simp [ZnR] at h
 | _::_,[],h=>by simp [ZnR] at h
theorem DfR.nil {E:SE} {ds:List ADef} (h:DfR E [] ds):ds=[]:=by
 cases ds with
 | nil=>rfl
 | cons d ds=>exact h.elim
structure CC (C:Cx) (cfg:Cfg):Prop where
 T:C.T=cfg.T
 K:C.K=cfg.K
def Zfy (P:Program) (cfg:Cfg) (ext:CallT) (F:Nat→List D→Option (Nat×List D)) (L:Nat) (rec:Rec):Prop :=
 ∀ (C:Cx) (u:Nat) (c:Code) (st:SS) (E:SE) (tm:List Value) (H:AHeap) (df:DF) (dfs:List ADef) (o:Out) (G:Option (AExit×St)→Prop) (k:XE→SS→DF→FT),CC C cfg→SRel C E st tm H→DfR E df dfs →
  (∀ x ax st' E' tm' H' df' dfs',SRel C E' st' tm' H'→SE.le E E'→Kp E st.va H E' st'.va H'→Zmj E' x ax→DfR E' df' dfs'→Zak cfg.T F L (k x st' df') E'.ρ=some o→G (some (ax,⟨tm',dfs',H'⟩)))→Zak cfg.T F L (rec u c st df k) E.ρ=some o→G (Zap P ext false c ⟨tm,dfs,H⟩)
def ZAQ (T:Tabs) (F:Nat→List D→Option (Nat×List D)) (L:Nat) (C:Cx) (E:SE) (va:List VA) (H:AHeap) (tm:List Value) (dfs:List ADef) (G:Option (AExit×St)→Prop) (o:Out) (k:SV→SS→FT):Prop :=
 ∀ v w st' E' H',SRel C E' st' tm H'→SE.le E E'→Kp E va H E' st'.va H'→Dn E' v w→Zak T F L (k v st') E'.ρ=some o→G (some (.panic w,⟨tm,dfs,H'⟩))
structure CfgOK (P:Program) (cfg:Cfg) (ext:CallT) (F:Nat→List D→Option (Nat×List D)):Prop where
 tab:TabOK P cfg.T
 ent:∀ f fn,cfg.T.func f=some fn→ZcP P f=true
 spec:∀ f j s,(j,s)∈cfg.sigs f→s.f=f∧Zkk cfg.T (Zaw P ext) s (F j)
 inl:∀ g,cfg.inl g=true→∀ args H,ext g args H=none
 eqT:∀ t,cfg.eqT t=true→EqT P t
 rnd:∀ K args H,ext (P.funcs.size+K) args H=none
theorem ZcE (hT:TabOK P cfg.T) {t:TypeId} (h:ZhE cfg.T t=false):P.concrete t=true:=by
 unfold ZhE at h
 unfold Program.concrete
 cases hu:cfg.T.und t with
 | none=>rw [hu] at h;cases h
 | some d=>rw [hT.und _ _ hu];rw [hu] at h;cases d<;>first | rfl | cases h
theorem Zow {ρ:Operand→Value} {t:TypeId} {x:Operand} (hx:Zaa x=true) (hc:P.concrete t=true):opA P H ρ (.makeInterface t x) ty=some (.val (.iface t (ρ x)) H):=by
 rw [Zcj (by simp) (by simp) (by simp) (by simp)];unfold ZaG;simp [Op.operands,hx,hc]
theorem Zym (hT:TabOK P cfg.T) (h:SRel C E st tm H) {t:TypeId} {x:Operand} {k:SV→SS→FT} (hk:Nxt cfg.T F L C E st.va H tm dst dfs K G o k) (hD:Zak cfg.T F L (ZDN cfg.T st t x k) E.ρ=some o) :
    G (Za5 call dst K ⟨tm,dfs,H⟩ (opA P H (aev tm) (.makeInterface t x) ty)):=by
 unfold ZDN at hD
 split at hD
 case h_2=>simp [Zak] at hD
 rename_i v hv
 obtain ⟨a1,a2,a3⟩:=ZaU h hv
 cases hi:ZhE cfg.T t with
 | true=>rw [hi] at hD;simp [Zak] at hD
 | false =>
  rw [hi,cond_false] at hD
  exact ZaV h hk (v:=.ifc t v) (by rw [SV.ok];exact a3) hD (by rw [Zow a1 (ZcE hT hi),a2];rfl)
theorem ZfG {ρ:Operand→Value} {t s u:TypeId} {v:Value} {x:Operand} {ok:Bool} (hx:Zaa x=true) (hc:P.concrete t=true) (hv:ρ x=.iface u v) (he:u=t):opA P H ρ (.typeAssert x s t ok) ty=some (.val (if ok then .tuple #[v,.bool true] else v) H):=by
 rw [Zcj (by simp) (by simp) (by simp) (by simp)];unfold ZaG
 simp only [Op.operands,List.all_toArray,List.all_cons,List.all_nil,hx,Bool.and_true,if_true,hv]
 unfold Program.concrete at hc
 cases hu:P.underlying t with
 | none=>rw [hu] at hc;cases hc
 | some d=>rw [hu] at hc;cases d<;>first | (simp only [he,if_true];done) | cases hc
theorem Zgm {ρ:Operand→Value} {t s u:TypeId} {v z:Value} {i:TypeInfo} {x:Operand} (hx:Zaa x=true) (hc:P.concrete t=true) (hv:ρ x=.iface u v) (he:u≠t) (hi:P.info? t=some i) (hz:i.zero=some z) (hzc:Zab z=true):opA P H ρ (.typeAssert x s t true) ty=some (.val (.tuple #[z,.bool false]) H):=by
 rw [Zcj (by simp) (by simp) (by simp) (by simp)];unfold ZaG
 simp only [Op.operands,List.all_toArray,List.all_cons,List.all_nil,hx,Bool.and_true,if_true,hv]
 unfold Program.concrete at hc
 cases hu:P.underlying t with
 | none=>rw [hu] at hc;cases hc
 | some d=>rw [hu] at hc;cases d<;>first | (simp only [he,if_false,if_true,hi,hz,hzc];done) | cases hc
theorem ZqN (hT:TabOK P cfg.T) (h:SRel C E st tm H) {t s:TypeId} {x:Operand} {ok:Bool} {k:SV→SS→FT} (hk:Nxt cfg.T F L C E st.va H tm dst dfs K G o k) (hD:Zak cfg.T F L (Zok cfg.T st t x ok k) E.ρ=some o) :
    G (Za5 call dst K ⟨tm,dfs,H⟩ (opA P H (aev tm) (.typeAssert x s t ok) ty)):=by
 unfold Zok at hD
 split at hD
 case h_2=>simp [Zak] at hD
 rename_i u v hv
 obtain ⟨a1,a2,a3⟩:=ZaU h hv
 rw [SV.ok] at a3
 cases hi:ZhE cfg.T t with
 | true=>rw [hi] at hD;simp [Zak] at hD
 | false =>
  rw [hi,cond_false] at hD
  have hc:=ZcE hT hi
  cases hb:Nat.beq u t with
  | true =>
   rw [hb,cond_true] at hD
   have he:u=t:=Nat.eq_of_beq_eq_true hb
   cases ok with
   | true=>exact ZaV h hk (v:=.tup [v,.c (.bool true)]) (by rw [SV.ok,okL,a3];rfl) hD (by rw [ZfG a1 hc a2 he];rfl)
   | false=>exact ZaV h hk (v:=v) a3 hD (by rw [ZfG a1 hc a2 he];rfl)
  | false =>
   rw [hb,cond_false] at hD
   have he:u≠t:=fun e=>by rw [e,Nat.beq_refl] at hb;cases hb
   cases ok with
   | false=>simp [Zak] at hD
   | true =>
    rw [cond_true] at hD
    split at hD
    case h_2=>simp [Zak] at hD
    rename_i z hz
    obtain ⟨z1,z2⟩:=Zmn hz
    unfold ZeQ at hz
    split at hz
    case h_2=>cases hz
    rename_i i hin
    split at hz
    case h_2=>cases hz
    rename_i z' hz'
    split at hz
    case isFalse=>cases hz
    simp only [Option.some.injEq] at hz
    subst hz
    exact ZaV h hk (v:=.tup [.c z',.c (.bool false)]) (by rw [SV.ok,okL,SV.ok,z1];rfl) hD (by rw [Zgm a1 hc a2 he (hT.info _ _ hin) hz' z1];rfl)
theorem Zfg {t:TypeId} {ms:Array (String×TypeId)} (hu:P.underlying t=some (.interface ms)) {a:Value} {s:Bool} (ha:(s=true∧a=.nilIface)∨(s=false∧∃ q v,a=.iface q v)):Zaf P (Op.equal t a .nilIface)=some s:=by
 unfold Op.equal
 show Zaf P (Op.equalIn 10000 t a .nilIface)=_
 unfold Op.equalIn
 rw [Zac (Zai hu)]
 rcases ha with ⟨rfl,rfl⟩ | ⟨rfl,q,v,rfl⟩<;>rfl
theorem Zg6 {ρ:Operand→Value} {op:BinOp} {t u:TypeId} {x y:Operand} (hx:Zaa x=true) (hy:Zaa y=true) {ms:Array (String×TypeId)} (hu:P.underlying t=some (.interface ms)) {a:Value} {s:Bool} (hv:ρ x=a) (hw:ρ y=.nilIface) (hc:∃ v,y=.const v) (ha:(s=true∧a=.nilIface)∨(s=false∧∃ q v,a=.iface q v)) {r:Bool} (hr:(op=.eql∧r=s)∨(op=.neq∧r = !s)) :
    opA P H ρ (.binOp op t x y u) ty=some (.val (.bool r) H):=by
 rw [ZlG hx hy,hv,hw]
 obtain ⟨cv,rfl⟩:=hc
 have hp:=Zfg hu ha
 have hg:eqGuard op t x (.const cv) a .nilIface=pure ():=by
  rcases hr with ⟨rfl,_⟩ | ⟨rfl,_⟩<;>rcases ha with ⟨_,rfl⟩ | ⟨_,q,v,rfl⟩<;>cases x<;>rfl
 have hclosed:Zab a=true→Zej P op t x (.const cv) a .nilIface=some (.bool r):=by
  intro hca
  unfold Zej
  rw [if_pos (by rw [hca];rfl),hg,Zac Zal]
  rcases hr with ⟨rfl,rfl⟩ | ⟨rfl,rfl⟩
  · have h2:binOp .eql t a .nilIface=(do pure (.bool (← Op.equal t a .nilIface))):=by rcases ha with ⟨_,rfl⟩ | ⟨_,q,v,rfl⟩<;>rfl
    rw [h2,Zac hp];simp [Zab,Zal]
  · have h2:binOp .neq t a .nilIface=(do pure (.bool (!(← Op.equal t a .nilIface)))):=by rcases ha with ⟨_,rfl⟩ | ⟨_,q,v,rfl⟩<;>rfl
    rw [h2,Zac hp];simp [Zab,Zal]
 cases hca:Zab a with
 | true=>exact Zbi (hclosed hca)
 | false =>
  rcases ha with ⟨_,rfl⟩ | ⟨rfl,q,v,rfl⟩
  · cases hca
  · unfold Zgc
    have:Zej P op t x (.const cv) (.iface q v) .nilIface=none:=by unfold Zej;rw [if_neg];simp [hca]
    rw [this]
    dsimp only
    rw [hu]
    rcases hr with ⟨rfl,rfl⟩ | ⟨rfl,rfl⟩<;>rfl
theorem ZmH (hT:TabOK P cfg.T) (h:SRel C E st tm H) {op:BinOp} {t u:TypeId} {x y:Operand} {a:SV} {s:Bool} (hx:sv st x=some a) (hy:sv st y=some (.c .nilIface)) (ha:(s=true∧a=.c .nilIface)∨(s=false∧∃ q v,a=.ifc q v)) {k:SV→SS→FT} (hk:Nxt cfg.T F L C E st.va H tm dst dfs K G o k)
    (hD:Zak cfg.T F L (ZpD cfg.T st op t s y k) E.ρ=some o):G (Za5 call dst K ⟨tm,dfs,H⟩ (opA P H (aev tm) (.binOp op t x y u) ty)):=by
 obtain ⟨a1,a2,a3⟩:=ZaU h hx
 obtain ⟨b1,b2,b3⟩:=ZaU h hy
 unfold ZpD at hD
 obtain ⟨hb,hD1⟩:=ZaA hD
 clear hD
 rw [Bool.and_eq_true] at hb
 obtain ⟨ms,hu⟩:∃ ms,cfg.T.und t=some (.interface ms):=by
  have:=hb.1
  unfold Zk4 at this
  split at this
  · rename_i ms hms;exact ⟨ms,hms⟩
  · cases this
 obtain ⟨cv,rfl⟩:∃ v,y=.const v:=by
  have:=hb.2
  unfold ZpW at this
  split at this
  · exact ⟨_,rfl⟩
  · cases this
 have ha':(s=true∧a.den E=.nilIface)∨(s=false∧∃ q v,a.den E=.iface q v):=by
  rcases ha with ⟨h1,rfl⟩ | ⟨h1,q,v,rfl⟩
  · exact .inl ⟨h1,rfl⟩
  · exact .inr ⟨h1,q,v.den E,rfl⟩
 split at hD1
 · exact ZaV h hk (v:=.c (.bool s)) rfl hD1 (Zg6 a1 b1 (hT.und _ _ hu) a2 b2 ⟨cv,rfl⟩ ha' (.inl ⟨rfl,rfl⟩))
 · exact ZaV h hk (v:=.c (.bool (!s))) rfl hD1 (Zg6 a1 b1 (hT.und _ _ hu) a2 b2 ⟨cv,rfl⟩ ha' (.inr ⟨rfl,rfl⟩))
 · simp [Zak] at hD1
theorem Zjy {ρ:Operand→Value} {t:TypeId} {v:Value} {x:Operand} (hx:Zaa x=true) (hv:ρ x=.iface t v):opA P H ρ (.panic x) ty=some (.panic (.iface t v) H):=by
 rw [Zcj (by simp) (by simp) (by simp) (by simp)];unfold ZaG;simp [Op.operands,hx,hv]
theorem ZsZ (h:SRel C E st tm H) {x:Operand} {kp:SV→SS→FT} (hkp:ZAQ cfg.T F L C E st.va H tm dfs G o kp) (hD:Zak cfg.T F L (Zs0 st x kp) E.ρ=some o) :
    G (Za5 call dst K ⟨tm,dfs,H⟩ (opA P H (aev tm) (.panic x) ty)):=by
 unfold Zs0 at hD
 split at hD
 case h_2=>simp [Zak] at hD
 rename_i t v hv
 obtain ⟨a1,a2,a3⟩:=ZaU h hv
 rw [Zjy a1 a2,ZdE]
 exact hkp _ _ st E H h (SE.le.refl E) (Kp.refl E st.va H) (.inr ⟨a3,rfl⟩) hD
theorem ZrK (hC:CC C cfg) (hT:TabOK P cfg.T) (hE:∀ t,cfg.eqT t=true→EqT P t) (h:SRel C E st tm H) {op:Op} {k:SV→SS→FT} (hk:Nxt cfg.T F L C E st.va H tm dst dfs K G o k)
    (hD:Zak cfg.T F L (ZAR cfg st k op) E.ρ=some o):G (Za5 call dst K ⟨tm,dfs,H⟩ (opA P H (aev tm) op ty)):=by
 unfold ZAR at hD
 split at hD
 · exact (ZpC h hk hD).1
 · exact (ZpC h hk hD).2
 · exact Zvx h hk hD
 · exact Zs9 hT h hk hD
 · exact Zyu hT h hk hD
 · exact Zs7 hT h hk hD
 · exact ZBy hT hC.T h hk hD
 · exact Zvz hT hC.T h hk hD
 · exact ZsV hT hC.T h hk hD
 · exact Zyi h hk hD
 · split at hD
   · rename_i l m hx hy
     exact Zyr hT hE h hx hy hk hD
   · rename_i q v hx hy
     exact ZmH hT h hx hy (.inr ⟨rfl,_,_,rfl⟩) hk hD
   · rename_i hx hy
     exact ZmH hT h hx hy (.inl ⟨rfl,rfl⟩) hk hD
   · exact Zyv hT h hk hD
 · exact ZBw h hk hD
 · exact ZvB hT h hk hD
 · exact ZvA h hk hD
 · exact ZsX hT hC.T h hk hD
 · exact Zyq hT h hk hD
 · exact Zs3 hT h hk hD
 · exact Zyn hT h hk hD
 · exact Zs1 hT h hk hD
 · exact Zoj h hk hD
 · exact Zyk h hk hD
 · exact Zym hT h hk hD
 · exact ZqN hT h hk hD
 · exact Zyo hT hE h hk hD
 · exact Zyg hT hE h hk hD
 · split at hD
   case h_2=>simp [Zak] at hD
   rename_i x t ha ht
   rw [Zcg ha,Zcg ht];exact Zyl hT h hk hD
 · split at hD
   case h_2=>simp [Zak] at hD
   rename_i x y t t' ha ht
   obtain ⟨hb,hD1⟩:=ZaA hD
   clear hD
   obtain rfl:t=t':=Nat.eq_of_beq_eq_true hb
   rw [Zcg ha,Zcg ht];exact Zyw hT hC.T h hk hD1
 · split at hD
   case h_2=>simp [Zak] at hD
   rename_i x y t t' ha ht
   rw [Zcg ha,Zcg ht];exact Zyj h hk hD
 · simp [Zak] at hD
theorem Zcm (h:SRel C E st tm H) {v:SV} {w:Value} (hs:Dn E v w) (dst:Option Nat):SRel C E (Zpr dst v st) (ZbX dst w tm) H:=by
 cases dst with
 | none=>exact h
 | some d=>exact h.slot hs d
theorem Zbb (st:SS) (dst:Option Nat) (v:SV):(Zpr dst v st).va=st.va:=by cases dst<;>rfl
theorem Zls (h:SRel C E st tm H) {T:Tabs} {all:List Oper} {op:Oper} {yes no:SS→FT} (hD:Zak T F L (ZsU all st op yes no) E.ρ=some o) :
    ∃ st',SRel C E st' tm H∧st'.va=st.va∧((Zat all tm op=true∧Zak T F L (yes st') E.ρ=some o)∨(Zat all tm op=false∧Zak T F L (no st') E.ρ=some o)):=by
 unfold ZsU at hD
 cases hg:op.guard with
 | none =>
  rw [hg] at hD
  exact ⟨st,h,rfl,.inl ⟨by unfold Zat;rw [hg],hD⟩⟩
 | some p =>
  obtain ⟨j,want⟩:=p
  rw [hg] at hD
  dsimp only at hD
  have hw:Zat all tm op=(ZcL all tm j == some want):=by unfold Zat;rw [hg]
  split at hD
  case h_2=>simp [Zak] at hD
  rename_i o' ho'
  split at hD
  case h_2=>simp [Zak] at hD
  rename_i d hd
  split at hD
  case h_2=>simp [Zak] at hD
  rename_i v hv
  have hya:ZcL all tm j=match tm[d]? with | some v=>ZdF v | none=>none:=by
   unfold ZcL;rw [ho'];dsimp only;rw [hd];rfl
  obtain ⟨w,hw2⟩:=Zay (l:=tm) (i:=d) (by rw [←h.tm.len];exact ZaJ hv)
  have hdn:=h.tm.at_ d v w hv hw2
  have fin:∀ b st',v.den E=.bool b→v≠.jk→SRel C E st' tm H→st'.va=st.va→((b == want)=true→Zak T F L (yes st') E.ρ=some o)→((b == want)=false→Zak T F L (no st') E.ρ=some o) →
      ∃ st',SRel C E st' tm H∧st'.va=st.va∧((Zat all tm op=true∧Zak T F L (yes st') E.ρ=some o)∨(Zat all tm op=false∧Zak T F L (no st') E.ρ=some o)):=by
   intro b st' hb hj hS hva h1 h2
   have hwv:w=.bool b:=by
    rcases hdn with e | ⟨_,e⟩
    · exact (hj e).elim
    · rw [e,hb]
   have hyv:ZcL all tm j=some b:=by rw [hya,hw2,hwv];rfl
   rw [hyv] at hw
   cases hbw:(b == want) with
   | true=>exact ⟨st',hS,hva,.inl ⟨(by rw [hw];cases b<;>cases want<;>first | rfl | (cases hbw)),h1 hbw⟩⟩
   | false=>exact ⟨st',hS,hva,.inr ⟨(by rw [hw];cases b<;>cases want<;>first | rfl | (cases hbw)),h2 hbw⟩⟩
  cases hu:isU v with
  | true =>
   rw [hu,cond_true] at hD
   have hvu:v=.tup []:=by
    unfold isU at hu
    split at hu
    · rfl
    · cases hu
   have hwu:w=undef:=by
    rcases hdn with e | ⟨_,e⟩
    · rw [hvu] at e;cases e
    · rw [e,hvu];rfl
   have hyu:ZcL all tm j=none:=by rw [hya,hw2,hwu];rfl
   rw [hyu] at hw
   exact ⟨st,h,rfl,.inr ⟨hw,hD⟩⟩
  | false =>
  rw [hu,cond_false] at hD
  cases want with
  | true =>
   rw [cond_true] at hD
   obtain ⟨b,st',h1,h2,h3,hva⟩:=ZmI h hD
   refine fin b st' h1 (fun e=>by rw [e] at h1;cases h1) h2 hva (fun e=>?_) fun e=>?_
   · cases b with
     | true=>exact h3
     | false=>cases e
   · cases b with
     | true=>cases e
     | false=>exact h3
  | false =>
   rw [cond_false] at hD
   obtain ⟨b,st',h1,h2,h3,hva⟩:=ZmI h hD
   refine fin b st' h1 (fun e=>by rw [e] at h1;cases h1) h2 hva (fun e=>?_) fun e=>?_
   · cases b with
     | true=>cases e
     | false=>exact h3
   · cases b with
     | true=>exact h3
     | false=>cases e
end
end
section
open Go B
section
variable {P:Program} {cfg:Cfg} {ext:CallT} {F:Nat→List D→Option (Nat×List D)} {L:Nat} {call:CallT} {C:Cx} {E:SE} {st:SS} {tm:List Value} {H:AHeap} {ty:TypeId} {dst:Option Nat} {dfs:List ADef} {K:St→Option (AExit×St)} {G:Option (AExit×St)→Prop} {o:Out}
theorem Zqg (E:SE) (us:List SV):us.map (dv E.ρ)=us.map (SV.dD E):=List.map_congr_left fun s _=>ZEG E s
theorem Zxw:∀ (us:List SV) (as:List VA) (va:List VA),Kp E va H E (frz va us as) H
 | [],_,va=>by simpa [X.frz] using Kp.refl E va H
 | _::_,[],va=>by simpa [X.frz] using Kp.refl E va H
 | u::us,a::as,va=>by
  unfold X.frz
  refine Kp.trans ?_ (Zxw us as _)
  split
  · split
    · exact ZmY _ _ _
    · exact Kp.refl E va H
  · exact Kp.refl E va H
theorem SRel.frz:∀ {us:List SV} {as:List VA} {va:List VA},SRel C E { st with va:=va } tm H→SRel C E { st with va:=frz va us as } tm H
 | [],_,_,h=>by simpa [X.frz] using h
 | _::_,[],_,h=>by simpa [X.frz] using h
 | u::us,a::as,va,h=>by
  unfold X.frz
  refine SRel.frz (va:=_) ?_
  split
  · rename_i i f
    split
    · rename_i g hg
      exact h.freeze (st:={ st with va:=va }) hg
    · exact h
  · exact h
theorem ZqC (hC:CC C cfg) (hF:CfgOK P cfg ext F) (h:SRel C E st tm H) {as:List SV} {vals:List Value} {g:FuncId} (ha:DnL E as vals) {j:Nat} {s:Sig} (hs:(j,s)∈cfg.sigs g) {k kp:SV→SS→FT} (hk:Nxt cfg.T F L C E st.va H tm dst dfs K G o k) (hkp:ZAQ cfg.T F L C E st.va H tm dfs G o kp)
    {t:FT} (ht:Zn6 st as j s k kp=some t) (hD:Zak cfg.T F L t E.ρ=some o):G (callA dst K tm dfs (Zaw P ext g vals H)):=by
 unfold Zn6 at ht
 dsimp only at ht
 generalize ZnM ⟨s.args,s.locs,s.va⟩ ⟨as,st.locs,st.va⟩ (List.replicate s.va.length none,List.replicate s.locs.length none)=b at ht
 obtain ⟨hb,ht⟩:=ZaK ht
 rw [Bool.and_eq_true,Bool.and_eq_true] at hb
 simp only [Option.some.injEq] at ht
 subst ht
 have hz:SRel C E { st with va:=X.frz st.va b.1 s.va } tm H:=SRel.frz (st:=st) h
 obtain ⟨hsf,hspec⟩:=hF.spec g j s hs
 rw [Zak,Option.bind_eq_some_iff] at hD
 obtain ⟨r,hr,hD⟩:=hD
 rw [Zqg] at hr
 obtain ⟨a,ws,os,v,H',h1,h2,h3,hkp0,h5,h6,h7⟩:=hz.ret hb.1.1 hb.1.2 hb.2 ha (hC.T▸hspec) (k:=r.1) (out:=r.2) hr
 have hkpp:=(Zxw b.1 s.va st.va).trans hkp0
 rw [hsf] at h3
 rw [h3]
 have fin:∀ i,r.1=i→Zak cfg.T F L (ZCB { st with va:=X.frz st.va b.1 s.va } b.1 b.2 s k kp i) (E.ρ++r.2)=some o→G (callA dst K tm dfs (some (ZoW a.pan v,H'))):=by
  intro i hi hD
  unfold ZCB at hD
  rw [←hi,h1] at hD
  dsimp only at hD
  cases hp:a.pan with
  | true =>
   rw [hp,cond_true] at hD
   exact hkp _ v _ _ H' h6 h5 hkpp h7 hD
  | false =>
   rw [hp,cond_false] at hD
   exact hk _ v _ _ H' h6 h5 hkpp h7 hD
 split at hD
 · rename_i hr1;exact fin 0 hr1 hD
 · rename_i hr1;exact fin 1 hr1 hD
 · rename_i hr1;exact fin 2 hr1 hD
 · cases hD
theorem ZiU (hC:CC C cfg) (hF:CfgOK P cfg ext F) (h:SRel C E st tm H) {as:List SV} {vals:List Value} {g:FuncId} (ha:DnL E as vals) {k kp:SV→SS→FT} (hk:Nxt cfg.T F L C E st.va H tm dst dfs K G o k) (hkp:ZAQ cfg.T F L C E st.va H tm dfs G o kp) :
    ∀ {l:List (Nat×Sig)},(∀ p,p∈l→p∈cfg.sigs g)→∀ {t:FT},ZgE st as k kp l=some t→Zak cfg.T F L t E.ρ=some o→G (callA dst K tm dfs (Zaw P ext g vals H))
 | [],_,t,ht,_=>by simp [ZgE] at ht
 | (j,s)::l,hl,t,ht,hD=>by
  unfold ZgE at ht
  split at ht
  · rename_i t' ht'
    simp only [Option.some.injEq] at ht
    subst ht
    exact ZqC hC hF h ha (hl _ (List.mem_cons_self ..)) hk hkp ht' hD
  · exact ZiU hC hF h ha hk hkp (fun p hp=>hl p (List.mem_cons_of_mem _ hp)) ht hD
theorem ZvH {vs:List SV}:Zly (Zbk E vs)=(ZyD vs).den E:=by
 match vs with
 | []=>rfl
 | [v]=>rfl
 | _::_::_=>rfl
theorem Ztp {n m:Nat} {vs:List SV} (h:okL n m vs=true):SV.ok n m (ZyD vs)=true:=by
 match vs,h with
 | [],h=>rfl
 | [v],h=>rw [okL,Bool.and_eq_true] at h;exact h.1
 | a::b::l,h=>show SV.ok n m (.tup (a::b::l))=true;rw [SV.ok];exact h
theorem Zje (hT:TabOK P cfg.T) (h:SRel C E st tm H):∀ (rs:List ResultVar) (vs:List SV),ZwU cfg.T st rs=some vs→ZaW P H tm rs=some (Zbk E vs)∧okL E.ρ.length E.ω.length vs=true
 | [],vs,hs=>by simp only [ZwU,Option.some.injEq] at hs;subst hs;exact ⟨rfl,rfl⟩
 | .tmp t::rs,vs,hs=>by
  unfold ZwU at hs
  split at hs
  case h_2=>cases hs
  rename_i v vs' hv hvs
  cases hj:Ziw v with
  | true=>rw [hj] at hs;cases hs
  | false =>
   rw [hj,cond_false] at hs
   simp only [Option.some.injEq] at hs
   subst hs
   obtain ⟨w,hw⟩:=Zay (l:=tm) (i:=t) (by rw [←h.tm.len];exact ZaJ hv)
   obtain ⟨d1,d2⟩:=Zl9 (h.tm.at_ t v w hv hw) hj
   obtain ⟨r1,r2⟩:=Zje hT h rs vs' hvs
   refine ⟨?_,by rw [okL,d1,r2];rfl⟩
   unfold ZaW Zet
   rw [r1]
   dsimp only
   rw [ZaH hw,d2];rfl
 | .cell a t::rs,vs,hs=>by
  unfold ZwU at hs
  have hslot:∀ {b oo:Nat},st.slots[a]?=some (SV.loc b oo)→tm.getD a undef=.pointer (some ⟨E.ω.getD b 0,oo,none⟩):=by
   intro b oo hv
   obtain ⟨w,hw⟩:=Zay (l:=tm) (i:=a) (by rw [←h.tm.len];exact ZaJ hv)
   obtain ⟨_,d2⟩:=Zl9 (h.tm.at_ a _ w hv hw) rfl
   rw [ZaH hw,d2];rfl
  split at hs
  · rename_i b oo vs' ha hg hvs
    obtain ⟨r1,r2⟩:=Zje hT h rs vs' hvs
    split at hs
    case h_2=>cases hs
    rename_i cs e hsb
    split at hs
    case h_2=>cases hs
    rename_i v hv
    cases hj:Ziw v with
    | true=>rw [hj] at hs;cases hs
    | false =>
     rw [hj,cond_false] at hs
     simp only [Option.some.injEq] at hs
     subst hs
     obtain ⟨ad,h1,h2,xs,h3,h4⟩:=h.objAt (Zcr hsb (by simp))
     obtain ⟨w,hw⟩:=Zay (l:=xs) (i:=oo) (by rw [←h4.len];exact ZaJ hv)
     obtain ⟨d1,d2⟩:=Zl9 (h4.at_ oo v w hv hw) hj
     refine ⟨?_,by rw [okL,d1,r2];rfl⟩
     unfold ZaW Zet
     dsimp only
     rw [hslot ha,h2,r1]
     dsimp only
     rw [Zk2 (hT.agg hg),ZhN,h3,Zhg,hw,d2];rfl
  · rename_i b oo vs' ha hg hvs
    obtain ⟨r1,r2⟩:=Zje hT h rs vs' hvs
    split at hs
    case h_2=>cases hs
    rename_i cs e i hsb hi
    obtain ⟨hb,hs⟩:=ZaK hs
    simp only [Option.some.injEq] at hs
    subst hs
    rw [Bool.and_eq_true,Bool.not_eq_true'] at hb
    obtain ⟨ad,h1,h2,xs,h3,h4⟩:=h.objAt (Zcr hsb (by simp))
    obtain ⟨d1,d2⟩:=Zgv ((h4.drop oo).take i.size) hb.2
    refine ⟨?_,by rw [okL,SV.ok,d1,r2];rfl⟩
    unfold ZaW Zet
    dsimp only
    rw [hslot ha,h2,r1]
    dsimp only
    have hlv:H.loadV P t ⟨ad,oo,none⟩=some (.agg ((xs.drop oo).take i.size).toArray):=by
     unfold AHeap.loadV
     rw [hT.agg hg]
     dsimp only
     rw [hT.info _ _ hi]
     dsimp only
     rw [ZgU h3 _ _ (by rw [←h4.len];exact ZdS hb.1)]
    rw [hlv,d2];rfl
  · cases hs
theorem ZeF {args:List SV} {vals:List Value} (n:Nat) (h:SRel C E st tm H) (ha:DnL E args vals):SRel C E ⟨args++List.replicate (n-args.length) .jk,st.locs,st.va⟩ (vals++List.replicate (n-vals.length) undef) H:=by
 refine h.slots ⟨by rw [List.length_append,List.length_append,List.length_replicate,List.length_replicate,ha.len],fun i s v h1 h2=>?_⟩
 rcases ZeD h1 with h1 | ⟨h1,h3⟩
 · rw [List.getElem?_append_left (by rw [←ha.len];exact ZaJ h1)] at h2
   exact ha.at_ i s v h1 h2
 · exact .inl (List.eq_of_mem_replicate (List.mem_of_getElem? h3))
def ModeR (E:SE):SM→B.Mode→Prop
 | none,none=>True
 | some (v,b),some (w,b')=>Dn E v w∧b=b'
 | _,_=>False
theorem ModeR.mono {E':SE} (h:SE.le E E') (hl:E.w.length=E.ρ.length):∀ {m:SM} {mm:B.Mode},ModeR E m mm→ModeR E' m mm
 | none,none,_=>trivial
 | some (v,b),some (w,b'),⟨h1,h2⟩=>⟨h1.mono h hl,h2⟩
 | none,some _,hh=>hh.elim
 | some _,none,hh=>hh.elim
theorem ModeR.settle:∀ {m:SM} {mm:B.Mode},ModeR E m mm→ModeR E (ZsL m) (ZdW mm)
 | none,none,_=>trivial
 | some (v,true),some (w,b'),⟨h1,h2⟩=>by subst h2;trivial
 | some (v,false),some (w,b'),⟨h1,h2⟩=>by subst h2;exact ⟨h1,rfl⟩
 | none,some _,hh=>hh.elim
 | some _,none,hh=>hh.elim
theorem ModeR.recover:∀ {m:SM} {mm:B.Mode},ModeR E m mm→ModeR E (ZiG m).2 (Zcb mm).2∧Dn E (ZiG m).1 (Zcb mm).1
 | none,none,_=>⟨trivial,.inr ⟨rfl,rfl⟩⟩
 | some (v,false),some (w,b'),⟨h1,h2⟩=>by subst h2;exact ⟨⟨h1,rfl⟩,h1⟩
 | some (v,true),some (w,b'),⟨h1,h2⟩=>by subst h2;exact ⟨⟨h1,rfl⟩,.inr ⟨rfl,rfl⟩⟩
 | none,some _,hh=>hh.elim
 | some _,none,hh=>hh.elim
noncomputable def ZaY (P:Program) (all:List Oper):List Oper→B.Mode→St→Option (AExit×B.Mode×St)
 | [],m,s=>some (.normal,m,s)
 | o::rest,m,s =>
    if Zat all s.tmps o then
     if Zbv o then if o.op.operands.all Zaa then ZaY P all rest (Zcb m).2 { s with tmps:=ZbX o.dst (Zcb m).1 s.tmps } else none
     else match opA P s.H (aev s.tmps) o.op o.type with
      | some (.val v H)=>ZaY P all rest m { s with tmps:=ZbX o.dst v s.tmps,H:=H }
      | some (.skip H)=>ZaY P all rest m { s with tmps:=ZbX o.dst undef s.tmps,H:=H }
      | some (.panic v H)=>some (.panic v,m,{ s with H:=H })
      | _=>none
    else ZaY P all rest m { s with tmps:=ZbX o.dst undef s.tmps }
theorem ZcH {ops:List Oper}:∀ (n k:Nat) (m:B.Mode) (s:St),k+n=ops.length→Zby P ops (List.range' k n) m s=ZaY P ops (ops.drop k) m s
 | 0,k,m,s,h=>by rw [List.drop_of_length_le (by omega)];rfl
 | n+1,k,m,s,h=>by
  have hk:k<ops.length:=by omega
  rw [List.range'_succ,List.drop_eq_getElem_cons hk]
  unfold Zby
  rw [List.getElem?_eq_getElem hk]
  conv=>rhs;unfold ZaY
  have ih:=fun m s=>ZcH (ops:=ops) n (k+1) m s (by omega)
  simp only [ZaE,ih]
  split
  · split
    · rfl
    · cases opA P s.H (aev s.tmps) ops[k].op ops[k].type with
      | none=>rfl
      | some r=>cases r<;>rfl
  · rfl
theorem Zfr {ops:List Oper} {m:B.Mode} {s:St} {n:Nat} (hn:n=ops.length):Zby P ops (List.range n) m s=ZaY P ops ops m s:=by
 have:=ZcH (P:=P) (ops:=ops) n 0 m s (by omega)
 rw [List.drop_zero] at this
 rw [←this,List.range_eq_range']
theorem Zvf (hC:CC C cfg) (hT:TabOK P cfg.T) (hE:∀ t,cfg.eqT t=true→EqT P t) (h:SRel C E st tm H) (hne:tm≠[]) {op:Op} {k:SV→SS→FT} (hD:Zak cfg.T F L (ZAR cfg st k op) E.ρ=some o) :
    ∃ v w st' E' H',SRel C E' st' tm H'∧SE.le E E'∧Kp E st.va H E' st'.va H'∧Dn E' v w∧Zak cfg.T F L (k v st') E'.ρ=some o∧(opA P H (aev tm) op ty=some (.val w H')∨(opA P H (aev tm) op ty=some (.skip H')∧w=undef)):=by
 have:=ZrK (P:=P) (call:=fun _ _ _=>none) (ty:=ty) (dst:=some 0) (dfs:=[]) (K:=fun s=>some (.normal,s)) (o:=o) (k:=k) (G:=fun z=>∃ v w st' E' H',z=some (.normal,⟨ZbX (some 0) w tm,[],H'⟩)∧SRel C E' st' tm H'∧SE.le E E'∧Kp E st.va H E' st'.va H'∧Dn E' v w∧Zak cfg.T F L (k v st') E'.ρ=some o)
  hC hT hE h (fun v w st' E' H' a1 a2 a3 a4 a5=>⟨v,w,st',E',H',rfl,a1,a2,a3,a4,a5⟩) hD
 obtain ⟨v,w,st',E',H',hz,a1,a2,a3,a4,a5⟩:=this
 have set0:∀ {a b:Value},tm.set 0 a=tm.set 0 b→a=b:=by
  intro a b e
  cases tm with
  | nil=>exact (hne rfl).elim
  | cons x l=>simpa using e
 refine ⟨v,w,st',E',H',a1,a2,a3,a4,a5,?_⟩
 cases hr:opA P H (aev tm) op ty with
 | none=>rw [hr] at hz;cases hz
 | some r =>
  rw [hr] at hz
  cases r with
  | val v0 H0 =>
   rw [Zb9] at hz
   simp only [Option.some.injEq,Prod.mk.injEq,St.mk.injEq,true_and] at hz
   obtain ⟨h1,rfl⟩:=hz
   left
   rw [set0 h1]
  | skip H0 =>
   rw [ZcA] at hz
   simp only [Option.some.injEq,Prod.mk.injEq,St.mk.injEq,true_and] at hz
   obtain ⟨h1,rfl⟩:=hz
   exact .inr ⟨rfl,(set0 h1).symm⟩
  | enter f args H1=>cases hz
  | panic v0 H0=>rw [ZdE] at hz;cases hz
  | defer d args H0=>cases hz
theorem Ziz (hC:CC C cfg) (hF:CfgOK P cfg ext F) {all:List Oper}:∀ (l:List Oper) (m:SM) (mm:B.Mode) (st:SS) (E:SE) (tm:List Value) (H:AHeap) (k:XE→SM→SS→FT) (G:Option (AExit×B.Mode×St)→Prop),SRel C E st tm H→ModeR E m mm →
    (∀ x ax m' mm' st' E' tm' H',SRel C E' st' tm' H'→SE.le E E'→Kp E st.va H E' st'.va H'→Zmj E' x ax→ModeR E' m' mm'→Zak cfg.T F L (k x m' st') E'.ρ=some o→G (some (ax,mm',⟨tm',[],H'⟩))) →
    Zak cfg.T F L (Zqv cfg all l m st k) E.ρ=some o→G (ZaY P all l mm ⟨tm,[],H⟩)
 | [],m,mm,st,E,tm,H,k,G,h,hm,hk,hD=>hk .normal .normal m mm st E tm H h (SE.le.refl E) (Kp.refl E st.va H) .normal hm hD
 | op::rest,m,mm,st,E,tm,H,k,G,h,hm,hk,hD=>by
  unfold Zqv at hD
  unfold ZaY
  dsimp only
  cases hem:st.slots.isEmpty with
  | true=>rw [hem,cond_true] at hD;simp [Zak] at hD
  | false =>
  rw [hem,cond_false] at hD
  have hne:tm≠[]:=fun e=>by
   have:=h.tm.len
   rw [e] at this
   rw [List.length_eq_zero_iff.1 this] at hem
   cases hem
  obtain ⟨st1,h1,hva1,hcase⟩:=Zls h hD
  clear hD
  rw [←hva1] at hk
  rcases hcase with ⟨hw,hD⟩ | ⟨hw,hD⟩
  · rw [if_pos hw]
    cases hr:Zbv op with
    | true =>
     rw [hr,cond_true] at hD
     obtain ⟨ha,hD1⟩:=ZaA hD
     rw [if_pos rfl,if_pos (by rw [Zas] at ha;simpa using ha)]
     obtain ⟨r1,r2⟩:=hm.recover
     exact Ziz hC hF rest _ _ _ E _ H k G (Zcm h1 r2 op.dst) r1 (by rw [Zbb];exact hk) hD1
    | false =>
     rw [hr,cond_false] at hD
     rw [if_neg (by simp)]
     obtain ⟨v,w,st',E',H',a1,a2,a3,a4,a5,a6⟩:=Zvf (ty:=op.type) hC hF.tab hF.eqT h1 hne hD
     have key:=Ziz hC hF rest m mm _ E' _ H' k G (Zcm a1 a4 op.dst) (hm.mono a2 h.lw) (by
      rw [Zbb]
      exact fun x ax m' mm' st2 E2 tm2 H2 b1 b2 b3 b4 b5 b6=>hk x ax m' mm' st2 E2 tm2 H2 b1 (a2.trans b2) (a3.trans b3) b4 b5 b6) a5
     rcases a6 with a6 | ⟨a6,rfl⟩
     · rw [a6];exact key
     · rw [a6];exact key
  · rw [if_neg (by rw [hw];simp)]
    exact Ziz hC hF rest m mm _ E _ H k G (Zcm h1 (v:=.tup []) (w:=undef) (.inr ⟨rfl,rfl⟩) op.dst) hm (by rw [Zbb];exact hk) hD
theorem ZC6 (hC:CC C cfg) (hF:CfgOK P cfg ext F) {rec:Rec} (hrec:Zfy P cfg ext F L rec) {u:Nat}:∀ (c:Code) (m:SM) (mm:B.Mode) (st:SS) (E:SE) (tm:List Value) (H:AHeap) (k:XE→SM→SS→FT) (G:Option (AExit×B.Mode×St)→Prop),SRel C E st tm H→ModeR E m mm →
    (∀ x ax m' mm' st' E' tm' H',SRel C E' st' tm' H'→SE.le E E'→Kp E st.va H E' st'.va H'→Zmj E' x ax→ModeR E' m' mm'→Zak cfg.T F L (k x m' st') E'.ρ=some o→G (some (ax,mm',⟨tm',[],H'⟩))) →
    Zak cfg.T F L (xS cfg rec u c m st k) E.ρ=some o→G (ZbA P (Zap P ext false) c mm ⟨tm,[],H⟩):=by
 have leaf:∀ (c:Code) (m:SM) (mm:B.Mode) (st:SS) (E:SE) (tm:List Value) (H:AHeap) (k:XE→SM→SS→FT) (G:Option (AExit×B.Mode×St)→Prop),SRel C E st tm H→ModeR E m mm →
     (∀ x ax m' mm' st' E' tm' H',SRel C E' st' tm' H'→SE.le E E'→Kp E st.va H E' st'.va H'→Zmj E' x ax→ModeR E' m' mm'→Zak cfg.T F L (k x m' st') E'.ρ=some o→G (some (ax,mm',⟨tm',[],H'⟩))) →
     Zak cfg.T F L (Zvh rec u c m st k) E.ρ=some o→G (Zfk mm (Zap P ext false c ⟨tm,[],H⟩)):=by
  intro c m mm st E tm H k G h hm hk hD
  unfold Zvh at hD
  refine hrec C u c st E tm H [] [] o (fun z=>G (Zfk mm z)) _ hC h trivial ?_ hD
  intro x ax st' E' tm' H' df' dfs' hR hle hkp hx hd hD
  obtain ⟨he,hD1⟩:=ZaA hD
  rw [List.isEmpty_iff] at he
  subst he
  obtain rfl:=hd.nil
  exact hk x ax m mm st' E' tm' H' hR hle hkp hx (hm.mono hle h.lw) hD1
 intro c
 induction c with
 | seq a b iha ihb =>
  intro m mm st E tm H k G h hm hk hD
  rw [xS] at hD
  rw [ZbA]
  refine iha m mm st E tm H _ (fun z=>G (match z with | some (.normal,m1,s1)=>ZbA P (Zap P ext false) b m1 s1 | r=>r)) h hm ?_ hD
  intro x ax m' mm' st' E' tm' H' hR hle hkp hx hm' hD
  cases hx with
  | normal=>exact ihb m' mm' st' E' tm' H' k G hR hm' (fun x2 ax2 m2 mm2 st2 E2 tm2 H2 b1 b2 b3 b4 b5 b6=>hk x2 ax2 m2 mm2 st2 E2 tm2 H2 b1 (hle.trans b2) (hkp.trans b3) b4 b5 b6) hD
  | exit=>exact hk _ _ _ _ _ _ _ _ hR hle hkp .exit hm' hD
  | ret=>exact hk _ _ _ _ _ _ _ _ hR hle hkp .ret hm' hD
  | panic hd=>exact hk _ _ _ _ _ _ _ _ hR hle hkp (.panic hd) hm' hD
 | cond q a b iha ihb =>
  intro m mm st E tm H k G h hm hk hD
  rw [xS] at hD
  rw [ZbA]
  split at hD
  case h_2=>simp [Zak] at hD
  rename_i v hv
  obtain ⟨a1,a2,a3⟩:=ZaU h hv
  obtain ⟨bb,st',h1,h2,h3,hva⟩:=ZmI h hD
  rw [←hva] at hk
  rw [if_pos a1]
  have hbo:ZdF (aev (St.mk tm [] H).tmps q)=some bb:=by show ZdF (aev tm q)=_;rw [a2,h1];rfl
  rw [hbo]
  cases bb with
  | true=>exact iha m mm st' E tm H k G h2 hm hk h3
  | false=>exact ihb m mm st' E tm H k G h2 hm hk h3
 | region id ops draw =>
  intro m mm st E tm H k G h hm hk hD
  rw [xS] at hD
  rw [ZbA]
  cases hb:!draw&&ops.toList.any Zbv with
  | true =>
   rw [hb,cond_true] at hD
   rw [Bool.and_eq_true,Bool.not_eq_true'] at hb
   rw [if_pos hb,Zfr (by simp)]
   exact Ziz hC hF _ m mm st E tm H k G h hm hk hD
  | false =>
   rw [hb,cond_false] at hD
   rw [if_neg (by rintro ⟨h1,h2⟩;rw [h1,h2] at hb;cases hb)]
   exact leaf _ m mm st E tm H k G h hm hk hD
 | _ =>
  intro m mm st E tm H k G h hm hk hD
  rw [xS] at hD<;>first | (rw [ZbA]<;>first | exact leaf _ m mm st E tm H k G h hm hk hD | simp) | simp
theorem ZpE (hC:CC C cfg) (hF:CfgOK P cfg ext F) {rec:Rec} (hrec:Zfy P cfg ext F L rec):∀ (df:DF) (m:SM) (mm:B.Mode) (st:SS) (E:SE) (H:AHeap) (ds:List ADef) (k:SM→SS→FT) (G:Option (B.Mode×AHeap)→Prop),SRel C E st tm H→DfR E df ds→ModeR E m mm →
    (∀ m' mm' st' E' H',SRel C E' st' tm H'→SE.le E E'→Kp E st.va H E' st'.va H'→ModeR E' m' mm'→Zak cfg.T F L (k m' st') E'.ρ=some o→G (some (mm',H'))) →
    Zak cfg.T F L (ZvE cfg rec df m st k) E.ρ=some o→G (ZaL P (Zap P ext false) ds mm H)
 | [],m,mm,st,E,H,ds,k,G,h,hd,hm,hk,hD=>by
  rw [hd.nil]
  exact hk m mm st E H h (SE.le.refl E) (Kp.refl E st.va H) hm hD
 | (g,as)::l,m,mm,st,E,H,[],k,G,h,hd,hm,hk,hD=>hd.elim
 | (g,as)::l,m,mm,st,E,H,d::ds,k,G,h,⟨h1,h2,h3,h4⟩,hm,hk,hD=>by
  unfold ZvE at hD
  split at hD
  case h_2=>simp [Zak] at hD
  rename_i fn hfn
  split at hD
  case h_2=>simp [Zak] at hD
  rename_i c hc
  obtain ⟨hb,hD1⟩:=ZaA hD
  clear hD
  have hdn:DnL E as d.args:=by rw [h2];exact ZdI h3
  unfold ZaL
  have hda:ZbL P (Zap P ext false) d mm H=Zd8 P fn (ZbA P (Zap P ext false) c mm ⟨d.args++List.replicate (fn.ntmps-d.args.length) undef,[],H⟩):=by
   unfold ZbL
   rw [h1,hF.tab.func _ _ hfn]
   dsimp only
   rw [hc];rfl
  rw [hda]
  refine ZC6 hC hF hrec c m mm _ E _ H _ (fun z=>G (match Zd8 P fn z with | some (m1,H1)=>ZaL P (Zap P ext false) ds m1 H1 | none=>none)) (ZeF fn.ntmps h hdn) hm ?_ hD1
  intro x ax m' mm' st' E' tm' H' hR hle hkp hx hm' hD
  obtain ⟨he,hD2⟩:=ZaA hD
  clear hD
  split at hD2
  case h_2=>simp [Zak] at hD2
  rename_i vs hvs
  obtain ⟨r1,r2⟩:=Zje hF.tab hR _ _ hvs
  have hl:Zd8 P fn (some (ax,mm',⟨tm',[],H'⟩))=some (ZdW mm',H'):=by
   cases hx with
   | normal=>unfold Zd8;dsimp only;rw [r1]
   | ret=>unfold Zd8;dsimp only;rw [r1]
   | _=>cases he
  rw [hl]
  dsimp only
  exact ZpE hC hF hrec l _ _ _ E' H' ds k G (hR.slots (h.tm.mono hle h.lw)) (h4.mono hle h.lw) hm'.settle (fun m2 mm2 st2 E2 H2 a1 a2 a3 a4 a5=>hk m2 mm2 st2 E2 H2 a1 (hle.trans a2) (hkp.trans a3) a4 a5) hD2
theorem Zlj (hC:CC C cfg) (hF:CfgOK P cfg ext F) {rec:Rec} (hrec:Zfy P cfg ext F L rec) {rs:List ResultVar} {x:XE} {ax:AExit} {df:DF} {k kp:SV→SS→FT} {R:Option (AEnd×AHeap)→Prop} (h:SRel C E st tm H) (hx:Zmj E x ax) (hd:DfR E df dfs)
    (hk:∀ v st' E' H',SRel C E' st' tm H'→SE.le E E'→Kp E st.va H E' st'.va H'→SV.ok E'.ρ.length E'.ω.length v=true→Zak cfg.T F L (k v st') E'.ρ=some o→R (some (.ret (v.den E'),H')))
    (hkp:∀ v w st' E' H',SRel C E' st' tm H'→SE.le E E'→Kp E st.va H E' st'.va H'→Dn E' v w→Zak cfg.T F L (kp v st') E'.ρ=some o→R (some (.panic w,H')))
    (hD:Zak cfg.T F L (ZrL cfg rec rs x st df k kp) E.ρ=some o):R (Zb6 P (Zap P ext false) rs (some (ax,⟨tm,dfs,H⟩))):=by
 have key:∀ (m:SM) (mm:B.Mode),ModeR E m mm→Zak cfg.T F L (Zvg cfg rec rs df m st k kp) E.ρ=some o→R (ZkD P rs tm (ZaL P (Zap P ext false) dfs mm H)):=by
  intro m mm hm hD
  unfold Zvg at hD
  refine ZpE hC hF hrec df m mm st E H dfs _ (fun z=>R (ZkD P rs tm z)) h hd hm ?_ hD
  intro m' mm' st' E' H' hR hle hkp' hm' hD
  split at hD
  · cases mm' with
    | some _=>exact hm'.elim
    | none =>
     split at hD
     case h_2=>simp [Zak] at hD
     rename_i vs hvs
     obtain ⟨r1,r2⟩:=Zje hF.tab hR _ _ hvs
     unfold ZkD
     dsimp only
     rw [r1]
     dsimp only
     rw [ZvH]
     exact hk _ st' E' H' hR hle hkp' (Ztp r2) hD
  · rename_i v
    cases mm' with
    | none=>exact hm'.elim
    | some q =>
     obtain ⟨w,b'⟩:=q
     obtain ⟨h1,h2⟩:=hm'
     subst h2
     exact hkp v w st' E' H' hR hle hkp' h1 hD
  · simp [Zak] at hD
 unfold ZrL at hD
 cases hx with
 | normal=>rw [ZfL (.inl rfl)];exact key none none trivial hD
 | ret=>rw [ZfL (.inr rfl)];exact key none none trivial hD
 | exit=>simp [ZzB,Zak] at hD
 | @panic v w hv =>
  dsimp only at hD
  cases hb:df.isEmpty with
  | true =>
   rw [hb,cond_true] at hD
   rw [List.isEmpty_iff] at hb
   subst hb
   obtain rfl:=hd.nil
   rw [ZmX]
   exact hkp _ _ st E H h (SE.le.refl E) (Kp.refl E st.va H) hv hD
  | false =>
   rw [hb,cond_false] at hD
   cases hem:st.slots.isEmpty with
   | true=>rw [hem,cond_true] at hD;simp [Zak] at hD
   | false =>
    rw [hem,cond_false] at hD
    have hlr:Zb6 P (Zap P ext false) rs (some (.panic w,⟨tm,dfs,H⟩))=ZkD P rs tm (ZaL P (Zap P ext false) dfs (some (w,false)) H):=by
     cases tm with
     | nil =>
      have:=h.tm.len
      rw [List.length_nil,List.length_eq_zero_iff] at this
      rw [this] at hem;cases hem
     | cons t tm =>
      cases dfs with
      | nil =>
       cases df with
       | nil=>cases hb
       | cons _ _=>exact hd.elim
      | cons d ds=>rfl
    rw [hlr]
    exact key (some (v,false)) (some (w,false)) ⟨hv,rfl⟩ hD
end
end
section
open Go B
section
variable {P:Program} {cfg:Cfg} {ext:CallT} {F:Nat→List D→Option (Nat×List D)} {L:Nat} {call:CallT} {C:Cx} {E:SE} {st:SS} {tm:List Value} {H:AHeap} {ty:TypeId} {dst:Option Nat} {dfs:List ADef} {K:St→Option (AExit×St)} {G:Option (AExit×St)→Prop} {o:Out}
theorem Zra (hC:CC C cfg) (hF:CfgOK P cfg ext F) {rec:Rec} (hrec:Zfy P cfg ext F L rec) (h:SRel C E st tm H) {as:List SV} {vals:List Value} {g:FuncId} (hg:cfg.inl g=true) (ha:DnL E as vals) {k kp:SV→SS→FT} (hk:Nxt cfg.T F L C E st.va H tm dst dfs K G o k) (hkp:ZAQ cfg.T F L C E st.va H tm dfs G o kp)
    (hD:Zak cfg.T F L (ZoM cfg rec g as st k kp) E.ρ=some o):G (callA dst K tm dfs (Zaw P ext g vals H)):=by
 unfold ZoM at hD
 split at hD
 case h_2=>simp [Zak] at hD
 rename_i fn hfn
 split at hD
 case h_2=>simp [Zak] at hD
 rename_i c hc
 obtain ⟨hb,hD1⟩:=ZaA hD
 clear hD
 rw [ZdN (hF.inl g hg vals H) (hF.tab.func _ _ hfn) hc]
 refine hrec C (cfg.unr g) c _ E _ H [] [] o (fun z=>G (callA dst K tm dfs (Zb6 P (Zap P ext false) fn.results.toList z))) _ hC (ZeF fn.ntmps h ha) trivial ?_ hD1
 intro x ax st' E' tm' H' df' dfs' hR hle' hkp' hx hd' hD
 refine Zlj (R:=fun z=>G (callA dst K tm dfs z)) hC hF hrec hR hx hd' ?_ ?_ hD
 · intro v st2 E2 H2 a1 a2 a3 a4 a5
   exact hk _ _ _ E2 H2 (a1.slots (h.tm.mono (hle'.trans a2) h.lw)) (hle'.trans a2) (hkp'.trans a3) (.inr ⟨a4,rfl⟩) a5
 · intro v w st2 E2 H2 a1 a2 a3 a4 a5
   exact hkp _ _ _ E2 H2 (a1.slots (h.tm.mono (hle'.trans a2) h.lw)) (hle'.trans a2) (hkp'.trans a3) a4 a5
theorem ZoL {v:SV} {g:FuncId} {pre caps:List SV} (hv:ZB1 v=some (g,pre,caps)) (hk:SV.ok E.ρ.length E.ω.length v=true):v.den E=.func (.func g) (Zbk E pre).toArray (Zbk E caps).toArray∧okL E.ρ.length E.ω.length pre=true∧okL E.ρ.length E.ω.length caps=true:=by
 unfold ZB1 at hv
 split at hv
 · simp only [Option.some.injEq,Prod.mk.injEq] at hv
   obtain ⟨rfl,rfl,rfl⟩:=hv
   rw [SV.ok] at hk
   exact ⟨rfl,rfl,hk⟩
 · simp only [Option.some.injEq,Prod.mk.injEq] at hv
   obtain ⟨rfl,rfl,rfl⟩:=hv
   rw [SV.ok] at hk
   exact ⟨rfl,by rw [okL,hk];rfl,rfl⟩
 · rename_i f x y
   obtain ⟨hb,hv⟩:=ZaK hv
   simp only [Option.some.injEq,Prod.mk.injEq] at hv
   obtain ⟨rfl,rfl,rfl⟩:=hv
   rw [Bool.and_eq_true,List.isEmpty_iff,List.isEmpty_iff] at hb
   refine ⟨?_,rfl,rfl⟩
   rw [SV.den,Zbk]
   have e1:x = #[]:=Array.toList_eq_nil_iff.1 hb.1
   have e2:y = #[]:=Array.toList_eq_nil_iff.1 hb.2
   rw [e1,e2]
 · cases hv
theorem Zj5 {all:List Oper} (h:all.any (fun o=>Zbd o.op)=false):∀ (is:List Nat) (s:St),ZaT P call true all is s=ZaT P call false all is s
 | [],s=>rfl
 | j::rest,s=>by
  have ih:=fun s=>Zj5 h rest s
  unfold ZaT
  cases ho:all[j]? with
  | none=>exact ih s
  | some o =>
   dsimp only
   have hnd:∀ c,o.op≠.defer c:=by
    intro c hc
    rw [List.any_eq_false] at h
    have:=h o (List.mem_of_getElem? ho)
    rw [hc] at this
    simp [Zbd] at this
   split
   · split
     · rename_i c hc;exact (hnd c hc).elim
     · simp only [ih]
   · exact ih _
theorem Znr:∀ (k:Nat) (c:Code) (s:St),Zda c=true→Zae P call true k c s=Zae P call false k c s:=by
 intro k
 induction k using Nat.strongRecOn with
 | _ k ihk =>
  intro c
  induction c with
  | seq a b iha ihb =>
   intro s h
   rw [Zda,Bool.and_eq_true] at h
   rw [Zc4,Zc4,iha s h.1]
   congr 1
   funext s1
   exact ihb s1 h.2
  | cond q a b iha ihb =>
   intro s h
   rw [Zda,Bool.and_eq_true] at h
   rw [Zae,Zae,iha s h.1,ihb s h.2]
  | block id a iha =>
   intro s h
   rw [Zda] at h
   rw [Zae,Zae,iha s h]
  | loop a iha =>
   intro s h
   cases k with
   | zero=>rw [Zae,Zae]
   | succ k =>
    have h':=h
    rw [Zda] at h'
    rw [Zae,Zae,ihk k (Nat.lt_succ_self k) a s h']
    cases Zae P call false k a s with
    | none=>rfl
    | some r =>
     obtain ⟨x,s1⟩:=r
     cases x with
     | normal=>exact ihk k (Nat.lt_succ_self k) (.loop a) s1 h
     | _=>rfl
  | region id ops draw =>
   intro s h
   rw [Zda,Bool.not_eq_true'] at h
   rw [Zae,Zae]
   cases draw with
   | true=>rfl
   | false=>simp only [Bool.false_eq_true,if_false];exact Zj5 h _ _
  | skip=>intro s _;rw [Zae,Zae]
  | exit=>intro s _;rw [Zae,Zae]
  | ret=>intro s _;rw [Zae,Zae]
  | label=>intro s _;rw [Zae,Zae]
  | _=>intro s h;simp [Zda] at h
theorem ZgK {c:Code} {s:St} (h:Zda c=true):Zap P ext true c s=Zap P ext false c s:=by
 unfold Zap
 congr 1
 funext k
 exact Znr k c s h
theorem ZmE:∀ (ps:List Tmp) {as cs:List SV} {vals vs:List Value},DnL E as vals→DnL E cs vs→DnL E (ZsP ps as cs) (Ze6 ps vals vs)
 | [],as,cs,vals,vs,ha,hc=>hc
 | p::ps,[],cs,vals,vs,ha,hc=>by
  have:vals=[]:=List.length_eq_zero_iff.1 ha.len.symm
  subst this;exact hc
 | p::ps,a::as,cs,[],vs,ha,hc=>by have:=ha.len;simp at this
 | p::ps,a::as,cs,v::vals,vs,ha,hc=>by
  have h1:DnL E as vals:=⟨by have:=ha.len;simpa using this,fun i s w h1 h2=>ha.at_ (i+1) s w (by simpa using h1) (by simpa using h2)⟩
  have h2:DnL E (cs.set p a) (vs.set p v):=⟨by simp [hc.len],fun i s w g1 g2=>by
   rcases ZbY g1 with ⟨e1,e2⟩ | ⟨e1,e2⟩
   · rcases ZbY g2 with ⟨f1,f2⟩ | ⟨f1,f2⟩
     · rw [e2,f2];exact ha.at_ 0 a v rfl rfl
     · exact (f1 e1).elim
   · rcases ZbY g2 with ⟨f1,f2⟩ | ⟨f1,f2⟩
     · exact (e1 f1).elim
     · exact hc.at_ i s w e2 f2⟩
  exact ZmE ps h1 h2
theorem Ztc {x:XE} {ax:AExit} {pd:Option (Option Nat)} (hx:Zmj E x ax) (h:Ztd x=some pd):Zia ax=some (Zto pd):=by
 cases hx<;>simp only [Ztd,Option.some.injEq] at h<;>first | (subst h;rfl) | cases h
theorem Zt0 (h:SRel C E st tm H) {b a:Nat} (ha:E.ω[b]?=some a) (ob:AObj):Kp E st.va H E st.va (H.set a ob) :=
 ⟨Nat.le_refl _,fun c _ hc=>by
  have:c≠a:=fun e=>hc (.inl (e▸List.mem_of_getElem? ha))
  simp [AHeap.set,this],fun _ _ hp=>hp,fun _ hb=>.inl hb⟩
theorem ZsM (H:AHeap) (a:Nat) (ob:AObj):(H.set a ob).get a=some ob:=by simp [AHeap.set]
theorem ZmJ {a:Nat} {tm1:List Value} {dfs1:List ADef} {H1:AHeap} {r1:ALoop} (k:St→Option (AExit×St)) (h:H1.get a=some (.loop r1)) (hs:r1.state=.ready):Zdv a (some (.normal,⟨tm1,dfs1,H1⟩)) k=Zfb a (k ⟨tm1,dfs1,H1.set a (.loop { r1 with state:=.busy })⟩):=by
 unfold Zdv
 dsimp only
 rw [h]
 dsimp only
 rw [if_pos hs]
theorem ZsS (hC:CC C cfg) (hF:CfgOK P cfg ext F) {rec:Rec} (hrec:Zfy P cfg ext F L rec) (h:SRel C E st tm H) {b:Nat} {as:List SV} {vals:List Value} (ha:DnL E as vals) {k:SV→SS→FT} (hk:Nxt cfg.T F L C E st.va H tm dst dfs K G o k)
    (hD:Zak cfg.T F L (ZsT cfg rec st b as k) E.ρ=some o):∃ r,H.get (E.ω.getD b 0)=some (.loop r)∧vals.length=r.params.size∧G (callA dst K tm dfs (Zaw P ext (P.funcs.size+E.ω.getD b 0) vals H)):=by
 unfold ZsT at hD
 split at hD
 case h_2=>simp [Zak] at hD
 rename_i j cs hsb
 split at hD
 case h_2=>simp [Zak] at hD
 rename_i r hr
 obtain ⟨hb,hD1⟩:=ZaA hD
 clear hD
 simp only [Bool.and_eq_true] at hb
 obtain ⟨⟨hp1,hp2⟩,hp3⟩:=hb
 obtain ⟨a,e1,e2,r0,vs,e3,e4,e5⟩:=h.objAt (Zcr hsb (by simp))
 rw [hC.K,hr] at e3
 obtain rfl:=Option.some.inj e3
 have hlen:vals.length=r.ps.size:=by rw [←ha.len];exact Nat.eq_of_beq_eq_true hp3
 rw [e2]
 refine ⟨_,e4,hlen,?_⟩
 rw [ZgN (hF.rnd _ _ _) e4,ZgK hp1]
 simp only [ZgK hp2]
 have hst:=(h.slots (ZmE r.ps.toList ha e5))
 refine hrec C 0 r.asg _ E _ H [] [] o (fun z=>G (callA dst K tm dfs (Zdv a z (fun s=>Zap P ext false r.body s)))) _ hC hst trivial ?_ hD1
 intro x ax st1 E1 tm1 H1 df1 dfs1 hR1 le1 kp1 hx hd1 hD
 cases hx with
 | exit=>simp [Zak] at hD
 | ret=>simp [Zak] at hD
 | panic=>simp [Zak] at hD
 | normal =>
 dsimp only at hD
 split at hD
 case h_2=>simp [Zak] at hD
 rename_i j1 cs1 hsb1
 obtain ⟨a1,f1,f2,r1,vs1,f3,f4,f5⟩:=hR1.objAt (Zcr hsb1 (by simp))
 have haa:a1=a:=by
  obtain ⟨_,_,⟨l,hl⟩⟩:=le1
  rw [hl,List.getElem?_append_left (ZaJ e1),e1] at f1
  exact (Option.some.inj f1).symm
 subst haa
 rw [ZmJ _ f4 rfl]
 have hR2:=hR1.setObj (o:=.loop ⟨.busy,none,vs1,r1.ps,r1.asg,r1.body⟩) (sb:=.rc j1 1 none cs1) f1 (by rw [f4];rfl) ⟨r1,vs1,f3,ZsM _ _ _,f5⟩
 have kp2:=Zt0 hR1 f1 (.loop ⟨.busy,none,vs1,r1.ps,r1.asg,r1.body⟩)
 refine hrec C 0 r.body _ E1 tm1 _ df1 dfs1 o (fun z=>G (callA dst K tm dfs (Zfb a1 z))) _ hC hR2 hd1 ?_ hD
 intro x ax st3 E3 tm3 H3 df3 dfs3 hR3 le3 kp3 hx hd3 hD
 split at hD
 case h_2=>simp [Zak] at hD
 rename_i pd hpd
 have hj:=Ztc hx hpd
 split at hD
 case h_2=>simp [Zak] at hD
 rename_i j2 s2 pd2 cs2 hsb2
 obtain ⟨a2,g1,g2,r2,vs2,g3,g4,g5⟩:=hR3.objAt (Zcr hsb2 (by simp))
 have haa2:a2=a1:=by
  obtain ⟨_,_,⟨l,hl⟩⟩:=le3
  rw [hl,List.getElem?_append_left (ZaJ f1),f1] at g1
  exact (Option.some.inj g1).symm
 subst haa2
 have hst2:ZAB (bif pd.isNone then 0 else 2)=(if (Zto pd).isNone then LoopState.ready else LoopState.done):=by
  cases pd with
  | none=>rfl
  | some q=>cases q<;>rfl
 have hb2:(Zto pd).isNone=pd.isNone:=by
  cases pd with
  | none=>rfl
  | some q=>cases q<;>rfl
 have hrb:Zfb a2 (some (ax,⟨tm3,dfs3,H3⟩))=some (.ret (.bool pd.isNone),H3.set a2 (.loop ⟨ZAB (bif pd.isNone then 0 else 2),Zto pd,vs2,r2.ps,r2.asg,r2.body⟩)):=by
  unfold Zfb
  dsimp only
  rw [hj]
  dsimp only
  rw [g4]
  dsimp only
  rw [hst2,hb2]
 rw [hrb,ZnH]
 have hR4:=hR3.setObj (o:=.loop ⟨ZAB (bif pd.isNone then 0 else 2),Zto pd,vs2,r2.ps,r2.asg,r2.body⟩) (sb:=.rc j2 (bif pd.isNone then 0 else 2) pd cs2) g1 (by rw [g4];rfl) ⟨r2,vs2,g3,ZsM _ _ _,g5⟩
 have kp4:=Zt0 hR3 g1 (.loop ⟨ZAB (bif pd.isNone then 0 else 2),Zto pd,vs2,r2.ps,r2.asg,r2.body⟩)
 exact hk (.c (.bool pd.isNone)) (.bool pd.isNone) _ E3 _ (hR4.slots (h.tm.mono (le1.trans le3) h.lw)) (le1.trans le3) (((kp1.trans kp2).trans kp3).trans kp4) (.inr ⟨rfl,rfl⟩) hD
theorem ZvC (hC:CC C cfg) (hF:CfgOK P cfg ext F) {rec:Rec} (hrec:Zfy P cfg ext F L rec) (h:SRel C E st tm H) {f:Operand} {args:Array Operand} {tys:Array TypeId} {k kp:SV→SS→FT} (hk:Nxt cfg.T F L C E st.va H tm dst dfs K G o k) (hkp:ZAQ cfg.T F L C E st.va H tm dfs G o kp)
    (hD:Zak cfg.T F L (Zyt cfg rec st f args.toList k kp) E.ρ=some o):G (Za5 (Zaw P ext) dst K ⟨tm,dfs,H⟩ (opA P H (aev tm) (.call ⟨.value f,args,tys⟩) ty)):=by
 unfold Zyt at hD
 split at hD
 case h_3=>simp [Zak] at hD
 · rename_i b as hv has
   obtain ⟨a1,a2,a3⟩:=ZaU h hv
   obtain ⟨b1,b2,b3⟩:=ZkN h has
   obtain ⟨r,h1,h2,h3⟩:=ZsS hC hF hrec h (ZdI b3) hk hD
   have:args=args.toList.toArray:=by simp
   rw [this,ZlF a1 b1,a2,b2,SV.den,Zo7 h1 h2,ZcW]
   exact h3
 rename_i v as _ hv has
 obtain ⟨a1,a2,a3⟩:=ZaU h hv
 obtain ⟨b1,b2,b3⟩:=ZkN h has
 split at hD
 case h_2=>simp [Zak] at hD
 rename_i g pre caps hfn
 split at hD
 case h_2=>simp [Zak] at hD
 rename_i fn hg
 obtain ⟨c1,c0,c2⟩:=ZoL hfn a3
 have hop:opA P H (aev tm) (.call ⟨.value f,args,tys⟩) ty=some (.enter g (Zbk E (pre++as++caps)) H):=by
  refine Zl3 (r:=.enter g (Zbk E (pre++as++caps))) (T:=cfg.T) hF.ent ?_
  unfold Zrj
  have hkk:ZaO (f::args.toList)=true:=by rw [Zas,List.all_cons,a1,b1];rfl
  rw [hkk,cond_true,a2,c1]
  dsimp only
  rw [hg]
  dsimp only
  rw [b2,ZbT,ZbT]
 rw [hop,ZcW]
 have hdn:DnL E (pre++as++caps) (Zbk E (pre++as++caps)):=ZdI (ZcR (ZcR c0 b3) c2)
 split at hD
 · rename_i t ht
   exact ZiU hC hF h hdn hk hkp (fun p hp=>hp) ht hD
 · cases hi:cfg.inl g with
   | false=>rw [hi] at hD;simp [Zak] at hD
   | true =>
    rw [hi,cond_true] at hD
    exact Zra hC hF hrec h hi hdn hk hkp hD
theorem ZrJ (hC:CC C cfg) (hF:CfgOK P cfg ext F) {rec:Rec} (hrec:Zfy P cfg ext F L rec) (h:SRel C E st tm H) {op:Op} {k kp:SV→SS→FT} (hk:Nxt cfg.T F L C E st.va H tm dst dfs K G o k) (hkp:ZAQ cfg.T F L C E st.va H tm dfs G o kp)
    (hD:Zak cfg.T F L (xop cfg rec st k kp op) E.ρ=some o):G (Za5 (Zaw P ext) dst K ⟨tm,dfs,H⟩ (opA P H (aev tm) op ty)):=by
 unfold xop at hD
 split at hD
 · exact ZvC hC hF hrec h hk hkp hD
 · exact ZsZ h hkp hD
 · exact ZrK hC hF.tab hF.eqT h hk hD
end
end
section
open Go B
section
variable {P:Program} {cfg:Cfg} {ext:CallT} {F:Nat→List D→Option (Nat×List D)} {L:Nat} {C:Cx} {E:SE} {st:SS} {tm:List Value} {H:AHeap} {ty:TypeId} {dst:Option Nat} {dfs:List ADef} {K:St→Option (AExit×St)} {G:Option (AExit×St)→Prop} {o:Out}
theorem Zs5 (hF:CfgOK P cfg ext F) (h:SRel C E st tm H) {op:Op} {df:DF} {k:DF→FT} (hd:DfR E df dfs) (hD:Zak cfg.T F L (Zs6 cfg st op df k) E.ρ=some o) :
    ∃ c df' d,op=.defer c∧op.operands.all Zaa=true∧Zd1 P (aev tm) c=some d∧DfR E df' (d::dfs)∧Zak cfg.T F L (k df') E.ρ=some o:=by
 unfold Zs6 at hD
 split at hD
 case h_2=>simp [Zak] at hD
 rename_i f args tys
 split at hD
 case h_2=>simp [Zak] at hD
 rename_i v as hv has
 obtain ⟨a1,a2,a3⟩:=ZaU h hv
 obtain ⟨b1,b2,b3⟩:=ZkN h has
 split at hD
 case h_2=>simp [Zak] at hD
 rename_i g pre caps hfn
 split at hD
 case h_2=>simp [Zak] at hD
 rename_i fn hg
 obtain ⟨c1,c0,c2⟩:=ZoL hfn a3
 refine ⟨_,(g,pre++as++caps)::df,⟨g,Zbk E (pre++as++caps)⟩,rfl,?_,?_,⟨rfl,rfl,ZcR (ZcR c0 b3) c2,hd⟩,hD⟩
 · have:(f::args.toList).all Zaa=true:=by rw [List.all_cons,a1,b1];rfl
   simpa [Op.operands,Call.operands] using this
 · unfold Zd1
   dsimp only
   rw [a2,c1]
   dsimp only
   have he:=hF.ent _ _ hg
   unfold ZcP at he
   split at he
   · rename_i fn' hfn'
     rw [hfn']
     dsimp only
     rw [if_pos he,b2,ZbT,ZbT]
   · cases he
theorem ZiS (hC:CC C cfg) (hF:CfgOK P cfg ext F) {rec:Rec} (hrec:Zfy P cfg ext F L rec) {rnd:Bool} {all:List Oper}:∀ (l:List Oper) (st:SS) (E:SE) (tm:List Value) (H:AHeap) (df:DF) (dfs:List ADef) (k:SS→DF→FT) (kp:SV→SS→DF→FT) (G:Option (AExit×St)→Prop),(rnd=true→∀ op,op∈l→Zbd op.op=false)→SRel C E st tm H→DfR E df dfs →
    (∀ st' E' tm' H' df' dfs',SRel C E' st' tm' H'→SE.le E E'→Kp E st.va H E' st'.va H'→DfR E' df' dfs'→Zak cfg.T F L (k st' df') E'.ρ=some o→G (some (.normal,⟨tm',dfs',H'⟩))) →
    (∀ v w st' E' tm' H' df' dfs',SRel C E' st' tm' H'→SE.le E E'→Kp E st.va H E' st'.va H'→Dn E' v w→DfR E' df' dfs'→Zak cfg.T F L (kp v st' df') E'.ρ=some o→G (some (.panic w,⟨tm',dfs',H'⟩))) →
    Zak cfg.T F L (Zvd cfg rec all l st df k kp) E.ρ=some o→G (Zbq P (Zaw P ext) rnd all l ⟨tm,dfs,H⟩)
 | [],st,E,tm,H,df,dfs,k,kp,G,_,h,hd,hk,_,hD=>hk st E tm H df dfs h (SE.le.refl E) (Kp.refl E st.va H) hd hD
 | op::rest,st,E,tm,H,df,dfs,k,kp,G,hrn,h,hd,hk,hkp,hD=>by
  have hrn':rnd=true→∀ op,op∈rest→Zbd op.op=false:=fun e p hp=>hrn e p (List.mem_cons_of_mem _ hp)
  unfold Zvd at hD
  unfold Zbq
  dsimp only
  obtain ⟨st1,h1,hva1,hcase⟩:=Zls h hD
  rw [←hva1] at hk hkp
  rcases hcase with ⟨hw,hD'⟩ | ⟨hw,hD'⟩
  · rw [if_pos hw]
    cases hdf:Zbd op.op with
    | true =>
     rw [hdf,cond_true] at hD'
     rw [if_pos rfl]
     obtain ⟨c,df',d,e1,e2,e3,e4,e5⟩:=Zs5 hF h1 hd hD'
     rw [e1] at e2 ⊢
     dsimp only
     have hrf:rnd=false:=by
      cases rnd with
      | false=>rfl
      | true=>rw [hrn rfl op (List.mem_cons_self ..)] at hdf;cases hdf
     rw [if_pos ⟨hrf,e2⟩,e3]
     dsimp only
     exact ZiS hC hF hrec rest _ E _ H df' _ k kp G hrn' (Zcm h1 (v:=.jk) (w:=undef) (.inl rfl) op.dst) e4 (by rw [Zbb];exact hk) (by rw [Zbb];exact hkp) e5
    | false =>
     rw [hdf,cond_false] at hD'
     rw [if_neg (by simp)]
     refine ZrJ (dst:=op.dst) (K:=Zbq P (Zaw P ext) rnd all rest) (G:=G) hC hF hrec h1 (k:=fun v st'=>Zvd cfg rec all rest (Zpr op.dst v st') df k kp) (kp:=fun v st'=>kp v st' df) ?_ ?_ hD'
     · intro v w st' E' H' hR hle hkk hdn hD''
       exact ZiS hC hF hrec rest _ E' _ H' df dfs k kp G hrn' (Zcm hR hdn op.dst) (hd.mono hle h.lw) (fun st2 E2 tm2 H2 df2 dfs2 a1 a2 a2' a3 a4=>hk st2 E2 tm2 H2 df2 dfs2 a1 (hle.trans a2) (hkk.trans (Zbb st' op.dst v▸a2')) a3 a4) (fun v2 w2 st2 E2 tm2 H2 df2 dfs2 a1 a2 a2' a3 a4 a5=>hkp v2 w2 st2 E2 tm2 H2 df2 dfs2 a1 (hle.trans a2) (hkk.trans (Zbb st' op.dst v▸a2')) a3 a4 a5) hD''
     · intro v w st' E' H' hR hle hkk hdn hD''
       exact hkp v w st' E' tm H' df dfs hR hle hkk hdn (hd.mono hle h.lw) hD''
  · rw [if_neg (by rw [hw];simp)]
    exact ZiS hC hF hrec rest _ E _ H df dfs k kp G hrn' (Zcm h1 (v:=.tup []) (w:=undef) (.inr ⟨rfl,rfl⟩) op.dst) hd (by rw [Zbb];exact hk) (by rw [Zbb];exact hkp) hD'
end
end
section
open Go B
section
variable {P:Program} {cfg:Cfg} {ext:CallT} {F:Nat→List D→Option (Nat×List D)} {L:Nat} {C:Cx} {E:SE} {st:SS} {tm:List Value} {H:AHeap} {ty:TypeId} {dst:Option Nat} {dfs:List ADef} {K:St→Option (AExit×St)} {G:Option (AExit×St)→Prop} {o:Out}
theorem ZoG {H2:AHeap} {t:TypeId} {a:Addr} (h:H2.get a.block=H.get a.block):H2.loadV P t a=H.loadV P t a:=by
 unfold AHeap.loadV
 split
 · split
   · rw [Zgk h _ _ rfl]
   · rfl
 · show H2.cell a=H.cell a
   unfold AHeap.cell AHeap.view;rw [h]
 · rfl
def RdRel (P:Program) (E:SE) (va:List VA) (H:AHeap) (t:Tr):Rd→Prop
 | .loc b oo cs=>b<E.ω.length∧okL E.ρ.length E.ω.length cs=true∧∀ H2 vs e,H2.get (E.ω.getD b 0)=some (.box vs e)→(vs.drop oo).take cs.length=Zbk E cs→same P t H2
 | .any=>∃ bo:Option Nat,(∀ b,bo=some b→b<H.next∧¬Priv E va b)∧∀ H2,(∀ b,bo=some b→H2.get b=H.get b)→same P t H2
 | .obj b (.box cs e)=>b<E.ω.length∧okL E.ρ.length E.ω.length cs=true∧∀ H2,H2.get (E.ω.getD b 0)=some (.box (Zbk E cs) e)→same P t H2
 | .obj b (.arr cs e)=>b<E.ω.length∧okL E.ρ.length E.ω.length cs=true∧∀ H2,H2.get (E.ω.getD b 0)=some (.arr (Zbk E cs) (List.replicate (Zbk E cs).length 0) 0 e false)→same P t H2
 | .obj _ _=>True
 | .no=>True
theorem RdRel.mono {E':SE} {va va':List VA} {H':AHeap} {t:Tr} {r:Rd} (hle:SE.le E E') (hl:E.w.length=E.ρ.length) (hk:Kp E va H E' va' H') (h:RdRel P E va H t r):RdRel P E' va' H' t r:=by
 have hρ:E.ρ.length≤E'.ρ.length:=by obtain ⟨⟨l,e⟩,_,_⟩:=hle;rw [e,List.length_append];omega
 have hω:E.ω.length≤E'.ω.length:=by obtain ⟨_,_,⟨l,e⟩⟩:=hle;rw [e,List.length_append];omega
 have hg:∀ b,b<E.ω.length→E'.ω.getD b 0=E.ω.getD b 0:=fun b hb=>by obtain ⟨_,_,⟨l,e⟩⟩:=hle;rw [e,Zbg hb]
 have hd:∀ cs,okL E.ρ.length E.ω.length cs=true→Zbk E' cs=Zbk E cs:=fun cs hc=>ZeH hle (by omega) (Nat.le_refl _) hc
 cases r with
 | loc b oo cs =>
  obtain ⟨h1,h2,h3⟩:=h
  exact ⟨by omega,ZcC hρ hω h2,fun H2 vs e a1 a2=>h3 H2 vs e (by rw [←hg b h1];exact a1) (by rw [←hd cs h2];exact a2)⟩
 | any =>
  obtain ⟨bo,h1,h2⟩:=h
  exact ⟨bo,fun b hb=>⟨Nat.lt_of_lt_of_le (h1 b hb).1 hk.nx,fun hp=>(h1 b hb).2 (hk.pr b (h1 b hb).1 hp)⟩,fun H2 h3=>h2 H2 fun b hb=>(h3 b hb).trans (hk.same b (h1 b hb).1 (h1 b hb).2)⟩
 | obj b sb =>
  cases sb with
  | box cs e =>
   obtain ⟨h1,h2,h3⟩:=h
   exact ⟨by omega,ZcC hρ hω h2,fun H2 a1=>h3 H2 (by rw [←hg b h1,←hd cs h2];exact a1)⟩
  | arr cs e =>
   obtain ⟨h1,h2,h3⟩:=h
   exact ⟨by omega,ZcC hρ hω h2,fun H2 a1=>h3 H2 (by rw [←hg b h1,←hd cs h2];exact a1)⟩
  | _=>trivial
 | no=>trivial
theorem ZtG {s:SV} (h:ZlK s=true):Ziw s=false:=by cases s<;>first | rfl | (simp [ZlK] at h)
theorem Zmg {n m:Nat} {l:List SV} (h:okL n m l=true):l.any Ziw=false:=by
 rw [List.any_eq_false]
 intro s hs
 rw [Zex,List.all_eq_true] at h
 rw [ZtG (Zdq (h s hs))];simp
theorem SB.beq_eq {a b:SB} (h:SB.beq a b=true):a=b:=by
 cases a<;>cases b<;>simp only [SB.beq,Bool.and_eq_true] at h<;>first | (cases h;done) | rw [ZgA h.1,Nat.eq_of_beq_eq_true h.2]
theorem ZzX (h:SRel C E st tm H) {t:Tr} {j:Nat} {r:Rd} (hr:RdRel P E st.va H t r) (hc:ZCn st (j,r)=true):same P t H:=by
 cases r with
 | loc b oo cs =>
  unfold ZCn at hc
  dsimp only at hc
  split at hc
  case h_2=>cases hc
  rename_i l e hsb
  obtain ⟨h1,h2,h3⟩:=hr
  obtain ⟨a,e1,e2,xs,e3,e4⟩:=h.objAt (Zcr hsb (by simp))
  have hb:=ZgA hc
  obtain ⟨d1,d2⟩:=Zgv ((e4.drop oo).take cs.length) (by rw [hb];exact Zmg h2)
  rw [hb] at d2
  exact h3 H xs e (by rw [e2];exact e3) d2
 | any=>obtain ⟨bo,h1,h2⟩:=hr;exact h2 H fun _ _=>rfl
 | obj b sb =>
  have he:=SB.beq_eq hc
  cases sb with
  | box cs e =>
   obtain ⟨h1,h2,h3⟩:=hr
   obtain ⟨a,e1,e2,xs,e3,e4⟩:=h.objAt (Zcr he (by simp))
   obtain ⟨_,d2⟩:=Zgv e4 (Zmg h2)
   exact h3 H (by rw [e2,←d2];exact e3)
  | arr cs e =>
   obtain ⟨h1,h2,h3⟩:=hr
   obtain ⟨a,e1,e2,xs,e3,e4⟩:=h.objAt (Zcr he (by simp))
   obtain ⟨_,d2⟩:=Zgv e4 (Zmg h2)
   exact h3 H (by rw [e2,←d2];exact e3)
  | _=>cases hb:Zky st.locs b<;>simp [ZCn,SB.beq,hb] at hc
 | no=>cases hc
def ZC3 (P:Program) (ext:CallT) (H:AHeap) (tm:List Value) (op:Op) (ty:TypeId) (w:Value) (H':AHeap):Prop :=
 opA P H (aev tm) op ty=some (.val w H')∨(opA P H (aev tm) op ty=some (.skip H')∧w=undef)∨∃ f args H1,opA P H (aev tm) op ty=some (.enter f args H1)∧Zaw P ext f args H1=some (.ret w,H')
theorem ZfF {l:List Value} (hl:l≠[]) {a b:Value} (h:l.set 0 a=l.set 0 b):a=b:=by
 cases l with
 | nil=>exact (hl rfl).elim
 | cons x l=>simpa using h
theorem Zn4 (hC:CC C cfg) (hF:CfgOK P cfg ext F) {rec:Rec} (hrec:Zfy P cfg ext F L rec) (h:SRel C E st tm H) (hne:tm≠[]) {op:Op} {k:SV→SS→FT} {c:Nat} (hD:Zak cfg.T F L (xop cfg rec st k (fun _ _=>.stop c) op) E.ρ=some o) :
    ∃ v w st' E' H',SRel C E' st' tm H'∧SE.le E E'∧Kp E st.va H E' st'.va H'∧Dn E' v w∧Zak cfg.T F L (k v st') E'.ρ=some o∧ZC3 P ext H tm op ty w H':=by
 have:=ZrJ (ty:=ty) (dst:=some 0) (dfs:=[]) (K:=fun s=>some (.normal,s)) (o:=o) (k:=k) (kp:=fun _ _=>.stop c) (G:=fun z=>∃ v w st' E' H',z=some (.normal,⟨ZbX (some 0) w tm,[],H'⟩)∧SRel C E' st' tm H'∧SE.le E E'∧Kp E st.va H E' st'.va H'∧Dn E' v w∧Zak cfg.T F L (k v st') E'.ρ=some o)
  hC hF hrec h (fun v w st' E' H' a1 a2 a3 a4 a5=>⟨v,w,st',E',H',rfl,a1,a2,a3,a4,a5⟩) (fun v w st' E' H' a1 a2 a3 a4 a5=>by simp [Zak] at a5) hD
 obtain ⟨v,w,st',E',H',hz,a1,a2,a3,a4,a5⟩:=this
 refine ⟨v,w,st',E',H',a1,a2,a3,a4,a5,?_⟩
 unfold ZC3
 cases hr:opA P H (aev tm) op ty with
 | none=>rw [hr] at hz;cases hz
 | some r =>
  rw [hr] at hz
  cases r with
  | val v0 H0 =>
   rw [Zb9] at hz
   simp only [Option.some.injEq,Prod.mk.injEq,St.mk.injEq,true_and] at hz
   obtain ⟨h1,rfl⟩:=hz
   left
   rw [ZfF hne h1]
  | skip H0 =>
   rw [ZcA] at hz
   simp only [Option.some.injEq,Prod.mk.injEq,St.mk.injEq,true_and] at hz
   obtain ⟨h1,rfl⟩:=hz
   exact .inr (.inl ⟨rfl,(ZfF hne h1).symm⟩)
  | enter f args H1 =>
   rw [ZcW] at hz
   right;right
   refine ⟨f,args,H1,rfl,?_⟩
   cases hc:Zaw P ext f args H1 with
   | none=>rw [hc] at hz;cases hz
   | some q =>
    rw [hc] at hz
    obtain ⟨e,H2⟩:=q
    cases e with
    | ret v0 =>
     have hz':some (AExit.normal,(⟨ZbX (some 0) v0 tm,[],H2⟩:St))=some (.normal,⟨ZbX (some 0) w tm,[],H'⟩):=hz
     simp only [Option.some.injEq,Prod.mk.injEq,St.mk.injEq,true_and] at hz'
     obtain ⟨h1,rfl⟩:=hz'
     rw [ZfF hne h1]
    | panic v0=>cases hz
  | panic v0 H0=>rw [ZdE] at hz;cases hz
  | defer d args H0=>cases hz
def ZFL (P:Program) (ext:CallT) (H:AHeap) (tm:List Value) (op:Op) (ty:TypeId) (w:Value) (H':AHeap):Prop :=
 opA P H (aev tm) op ty=some (.panic w H')∨∃ f args H1,opA P H (aev tm) op ty=some (.enter f args H1)∧Zaw P ext f args H1=some (.panic w,H')
theorem Zve (hC:CC C cfg) (hF:CfgOK P cfg ext F) {rec:Rec} (hrec:Zfy P cfg ext F L rec) (h:SRel C E st tm H) (hne:tm≠[]) {op:Op} {k kp:SV→SS→FT} (hD:Zak cfg.T F L (xop cfg rec st k kp op) E.ρ=some o) :
    (∃ v w st' E' H',SRel C E' st' tm H'∧SE.le E E'∧Kp E st.va H E' st'.va H'∧Dn E' v w∧Zak cfg.T F L (k v st') E'.ρ=some o∧ZC3 P ext H tm op ty w H') ∨
    (∃ v w st' E' H',SRel C E' st' tm H'∧SE.le E E'∧Kp E st.va H E' st'.va H'∧Dn E' v w∧Zak cfg.T F L (kp v st') E'.ρ=some o∧ZFL P ext H tm op ty w H'):=by
 have:=ZrJ (ty:=ty) (dst:=some 0) (dfs:=[]) (K:=fun s=>some (.normal,s)) (o:=o) (k:=k) (kp:=kp) (G:=fun z=>(∃ v w st' E' H',z=some (.normal,⟨ZbX (some 0) w tm,[],H'⟩)∧SRel C E' st' tm H'∧SE.le E E'∧Kp E st.va H E' st'.va H'∧Dn E' v w∧Zak cfg.T F L (k v st') E'.ρ=some o) ∨
     (∃ v w st' E' H',z=some (.panic w,⟨tm,[],H'⟩)∧SRel C E' st' tm H'∧SE.le E E'∧Kp E st.va H E' st'.va H'∧Dn E' v w∧Zak cfg.T F L (kp v st') E'.ρ=some o))
  hC hF hrec h (fun v w st' E' H' a1 a2 a3 a4 a5=>.inl ⟨v,w,st',E',H',rfl,a1,a2,a3,a4,a5⟩) (fun v w st' E' H' a1 a2 a3 a4 a5=>.inr ⟨v,w,st',E',H',rfl,a1,a2,a3,a4,a5⟩) hD
 rcases this with ⟨v,w,st',E',H',hz,a1,a2,a3,a4,a5⟩ | ⟨v,w,st',E',H',hz,a1,a2,a3,a4,a5⟩
 · left
   refine ⟨v,w,st',E',H',a1,a2,a3,a4,a5,?_⟩
   unfold ZC3
   cases hr:opA P H (aev tm) op ty with
   | none=>rw [hr] at hz;cases hz
   | some r =>
    rw [hr] at hz
    cases r with
    | val v0 H0 =>
     rw [Zb9] at hz
     simp only [Option.some.injEq,Prod.mk.injEq,St.mk.injEq,true_and] at hz
     obtain ⟨h1,rfl⟩:=hz
     left
     rw [ZfF hne h1]
    | skip H0 =>
     rw [ZcA] at hz
     simp only [Option.some.injEq,Prod.mk.injEq,St.mk.injEq,true_and] at hz
     obtain ⟨h1,rfl⟩:=hz
     exact .inr (.inl ⟨rfl,(ZfF hne h1).symm⟩)
    | enter f args H1 =>
     rw [ZcW] at hz
     right;right
     refine ⟨f,args,H1,rfl,?_⟩
     cases hc:Zaw P ext f args H1 with
     | none=>rw [hc] at hz;cases hz
     | some q =>
      rw [hc] at hz
      obtain ⟨e,H2⟩:=q
      cases e with
      | ret v0 =>
       have hz':some (AExit.normal,(⟨ZbX (some 0) v0 tm,[],H2⟩:St))=some (.normal,⟨ZbX (some 0) w tm,[],H'⟩):=hz
       simp only [Option.some.injEq,Prod.mk.injEq,St.mk.injEq,true_and] at hz'
       obtain ⟨h1,rfl⟩:=hz'
       rw [ZfF hne h1]
      | panic v0=>cases hz
    | panic v0 H0=>rw [ZdE] at hz;cases hz
    | defer d args H0=>cases hz
 · right
   refine ⟨v,w,st',E',H',a1,a2,a3,a4,a5,?_⟩
   unfold ZFL
   cases hr:opA P H (aev tm) op ty with
   | none=>rw [hr] at hz;cases hz
   | some r =>
    rw [hr] at hz
    cases r with
    | val v0 H0=>rw [Zb9] at hz;cases hz
    | skip H0=>rw [ZcA] at hz;cases hz
    | enter f args H1 =>
     rw [ZcW] at hz
     right
     refine ⟨f,args,H1,rfl,?_⟩
     cases hc:Zaw P ext f args H1 with
     | none=>rw [hc] at hz;cases hz
     | some q =>
      rw [hc] at hz
      obtain ⟨e,H2⟩:=q
      cases e with
      | ret v0=>cases hz
      | panic v0 =>
       have hz':some (AExit.panic v0,(⟨tm,[],H2⟩:St))=some (.panic w,⟨tm,[],H'⟩):=hz
       simp only [Option.some.injEq,Prod.mk.injEq,AExit.panic.injEq,St.mk.injEq,true_and] at hz'
       obtain ⟨h1,h2⟩:=hz'
       rw [h1,h2]
    | panic v0 H0 =>
     rw [ZdE] at hz
     simp only [Option.some.injEq,Prod.mk.injEq,AExit.panic.injEq,St.mk.injEq,true_and] at hz
     obtain ⟨h1,h2⟩:=hz
     left;rw [h1,h2]
    | defer d args H0=>cases hz
theorem Zd5 {call:CallT} {l:List Oper} {B:List Nat} {R:List Tr} {j:Nat} {rest:List Nat} {op:Oper} {w:Value} {H':AHeap} (ho:l[j]?=some op) (hw:Zat l tm op=true) (hp:opA P H (aev tm) op.op op.type=some (.panic w H')∨∃ f args H1,opA P H (aev tm) op.op op.type=some (.enter f args H1)∧call f args H1=some (.panic w,H'))
    (hR:∀ t∈R,same P t H):Zdm P call l dfs B R (j::rest) tm H (.panic w) ⟨[],dfs,H'⟩:=by
 refine ⟨[],H,?_,trivial,fun t ht=>hR t ht⟩
 unfold ZaB
 rw [ho]
 dsimp only
 rw [if_pos hw,ZaE]
 rcases hp with hp | ⟨f,args,H1,hp,hc⟩
 · rw [hp]
 · rw [hp]
   dsimp only
   rw [hc]
theorem Zwd (hC:CC C cfg) (h:SRel C E st tm H) {t:TypeId} {x:Operand} {k:SV→SS→FT} (hD:Zak cfg.T F L (ZqM cfg.T st t x k) E.ρ=some o) {a e sz oo:Nat} {ix:Ix} (hx:sv st x=some (.el a ix e sz oo)) (hs:ZzA st.va a=true) :
    ∃ ad n c,E.w.getD a undef=.slice (some ad) n c∧ad.block<H.next∧¬Priv E st.va ad.block:=by
 obtain ⟨fr,hva⟩:∃ fr,st.va[a]?=some (.sh fr):=by
  unfold ZzA at hs
  split at hs
  · rename_i f hf;exact ⟨f,hf⟩
  · cases hs
 obtain ⟨d,h1,h2,h3⟩:=h.at_ hva
 unfold ZqM at hD
 rw [hx] at hD
 dsimp only at hD
 split at hD
 · rename_i hh _ _;cases hh
 · rename_i hh _ _;cases hh
 · rename_i hh _ _;cases hh
 · rename_i hh _ _
   cases hh
   split at hD
   case h_2=>simp [Zak] at hD
   obtain ⟨_,hD⟩:=ZaA hD
   rw [Zak,Option.bind_eq_some_iff] at hD
   obtain ⟨ds,hds,_⟩:=hD
   rw [ZaH h1] at hds
   unfold ldD at hds
   split at hds
   case h_2=>cases hds
   rename_i e' l xx
   split at hds
   case h_2=>cases hds
   rename_i d0 hd0
   have h3':R C.T H _ (.sl e' l xx) (E.w.getD a undef):=h3
   generalize E.w.getD a undef=w at h3'
   cases h3' with
   | nil=>simp at hd0
   | sl hi hl hz hA hv hs hR he hn hc=>exact ⟨_,_,_,rfl,Zj8 h.fm.fresh he,hA.1⟩
 · simp [Zak] at hD
theorem Zq5 {H2:AHeap} {t:TypeId} {u:Value} (h:Zab u=true∨∃ a n c,u=.slice a n c):Zd7 P H2 t u=Zd7 P H t u:=by
 rcases h with h | ⟨a,n,c,rfl⟩
 · cases u with
   | map m =>
    cases m with
    | none=>rfl
    | some m=>simp [Zab] at h
   | slice a n c=>cases a<;>rfl
   | _=>rfl
 · cases a<;>rfl
theorem ZvR {H2:AHeap} {ρ:Operand→Value} {x:Operand} {t:TypeId} {w:Value} (hl:Zd7 P H2 t (ρ x)=Zd7 P H t (ρ x)) (h:opA P H ρ (.call ⟨.builtin .len,#[x],#[t]⟩) ty=some (.val w H)) :
    opA P H2 ρ (.call ⟨.builtin .len,#[x],#[t]⟩) ty=some (.val w H2):=by
 unfold opA Zao at h ⊢
 cases hok:(Op.call ⟨.builtin .len,#[x],#[t]⟩).operands.all Zaa with
 | false=>simp [hok] at h
 | true =>
  simp only [hok,if_true] at h ⊢
  unfold Zbm at h ⊢
  dsimp only at h ⊢
  rw [hl]
  cases h1:Zd7 P H t (ρ x) with
  | some n=>rw [h1] at h;simp only [Option.some.injEq,ARes.val.injEq,and_true] at h ⊢;exact h
  | none =>
   rw [h1] at h
   dsimp only at h ⊢
   cases h2:Zaz P ρ ⟨none,.call ⟨.builtin .len,#[x],#[t]⟩,ty, "",#[],none⟩ with
   | none=>rw [h2] at h;cases h
   | some u=>rw [h2] at h;simp only [Option.some.injEq,ARes.val.injEq,and_true] at h ⊢;exact h
theorem ZyB (hC:CC C cfg) (hF:CfgOK P cfg ext F) (h:SRel C E st tm H) {E':SE} {st':SS} (hle:SE.le E E') (hkp:Kp E st.va H E' st'.va H) {op:Op} {v:SV} {w:Value} (hv:Dn E' v w) {t:Tr} (ht:t.o.op=op) (htm:t.tm=tm) (htv:t.v=w) (hk:ZaS op=.read) (hop:opA P H (aev tm) op t.o.type=some (.val w H))
    {rec:Rec} {k:SV→SS→FT} {kp:SV→SS→FT} (hD:Zak cfg.T F L (xop cfg rec st k kp op) E.ρ=some o):RdRel P E' st'.va H t (ZDX cfg.T st op v):=by
 unfold ZDX
 split
 case h_3=>trivial
 case h_2 =>
  rename_i args tys
  split
  case h_2=>trivial
  rename_i x ty hxs hts
  have hxa:args = #[x]:=by cases args;simp_all
  have hta:tys = #[ty]:=by cases tys;simp_all
  subst hxa;subst hta
  split
  case h_2=>trivial
  rename_i a hx
  cases hsh:ZzA st.va a with
  | false=>trivial
  | true =>
   rw [cond_true]
   obtain ⟨a1,a2,a3⟩:=ZaU h hx
   unfold ZzA at hsh
   split at hsh
   case h_2=>cases hsh
   rename_i fr hva
   obtain ⟨d,hd,_,h3⟩:=h.at_ hva
   have hcl:Zab (aev tm x)=true∨∃ a n c,aev tm x=.slice a n c:=by
    rw [a2,SV.den]
    have h3':R C.T H _ d (E.w.getD a undef):=h3
    generalize E.w.getD a undef=u at h3'
    cases h3' with
    | v hc hf=>exact .inl hc
    | nil=>exact .inr ⟨_,_,_,rfl⟩
    | sl=>exact .inr ⟨_,_,_,rfl⟩
   exact ⟨none,fun b hb=>(nomatch hb),fun H2 _=>ZgR (by rw [ht];exact hk) (by rw [ht,htm,htv];exact ZvR (Zq5 hcl) hop)⟩
 rename_i ty x
 have hsame:∀ H2,(∀ a,aev tm x=.pointer (some a)→H2.loadV P ty a=H.loadV P ty a)→same P t H2:=by
  intro H2 h2
  refine ZgR (by rw [ht];exact hk) ?_
  rw [ht,htm,htv]
  cases hxo:Zaa x with
  | false =>
   rw [←ZaE (o:=⟨none,.load ty x,t.o.type, "",#[],none⟩)] at hop
   unfold Zao ZaG at hop
   simp [Op.operands,hxo] at hop
  | true =>
   rw [ZlC hxo] at hop ⊢
   cases hp:aev tm x with
   | pointer a =>
    cases a with
    | none=>rw [hp] at hop;cases hop
    | some a =>
     rw [hp] at hop
     rw [ZjJ] at hop ⊢
     rw [h2 a hp]
     unfold ZwC at hop ⊢
     cases hl:H.loadV P ty a with
     | none=>rw [hl] at hop;cases hop
     | some u=>rw [hl] at hop;simp only [Option.map_some,Option.some.injEq,ARes.val.injEq,and_true] at hop ⊢;exact hop
   | _=>rw [hp] at hop;cases hop
 have hldv:∀ a,aev tm x=.pointer (some a)→H.loadV P ty a=some w:=by
  intro a hp
  cases hxo:Zaa x with
  | false =>
   rw [←ZaE (o:=⟨none,.load ty x,t.o.type, "",#[],none⟩)] at hop
   unfold Zao ZaG at hop
   simp [Op.operands,hxo] at hop
  | true =>
   rw [ZlC hxo,hp,ZjJ] at hop
   unfold ZwC at hop
   cases hl:H.loadV P ty a with
   | none=>rw [hl] at hop;cases hop
   | some u=>rw [hl] at hop;simp only [Option.map_some,Option.some.injEq,ARes.val.injEq,and_true] at hop;rw [hop]
 split
 · rename_i b oo l hx hg
   obtain ⟨a1,a2,a3⟩:=ZaU h hx
   have hb:b<E.ω.length:=by simpa [SV.ok] using a3
   have hbω:b<E'.ω.length:=by obtain ⟨_,_,⟨m,e⟩⟩:=hle;rw [e,List.length_append];omega
   have hge:E'.ω.getD b 0=E.ω.getD b 0:=by obtain ⟨_,_,⟨m,e⟩⟩:=hle;rw [e,Zbg hb]
   obtain ⟨v1,v2⟩:=Zl9 hv rfl
   rw [SV.ok] at v1
   refine ⟨hbω,v1,fun H2 vs e a4 a5=>hsame H2 fun a ha=>?_⟩
   rw [a2,SV.den] at ha
   simp only [Value.pointer.injEq,Option.some.injEq] at ha
   subst ha
   have h0:=hldv _ (by rw [a2,SV.den])
   rw [h0]
   rw [hge] at a4
   have hT:=hF.tab.agg hg
   unfold AHeap.loadV at h0 ⊢
   rw [hT] at h0 ⊢
   dsimp only at h0 ⊢
   cases hi:P.info? ty with
   | none=>rw [hi] at h0;cases h0
   | some i =>
    rw [hi] at h0
    dsimp only at h0 ⊢
    cases hr:H.readN ⟨E.ω.getD b 0,oo,none⟩ i.size with
    | none=>rw [hr] at h0;cases h0
    | some us =>
     rw [hr] at h0
     simp only [Option.some.injEq] at h0
     have hus:us=Zbk E' l:=by
      rw [v2,SV.den] at h0
      have:=congrArg (fun q=>match q with | Value.agg a=>a.toList | _=>[]) h0
      simpa using this
     have hlen:l.length=i.size:=by have:=ZdP hr;rw [hus,Zb2] at this;exact this
     have hvl:oo+i.size≤vs.length∨i.size=0:=by
      have:=congrArg List.length a5
      rw [List.length_take,List.length_drop,Zb2] at this
      omega
     rcases hvl with hvl | hvl
     · rw [ZgU a4 _ _ hvl,←hlen,a5,←hus]
       exact congrArg some h0
     · rw [hvl] at hr ⊢
       simp only [AHeap.readN,Option.some.injEq] at hr ⊢
       rw [hr]
       exact h0
 · rename_i v _ _ _ b oo hx hg
   cases hj:Ziw v with
   | true=>trivial
   | false =>
    rw [cond_false]
    obtain ⟨a1,a2,a3⟩:=ZaU h hx
    have hb:b<E.ω.length:=by simpa [SV.ok] using a3
    have hbω:b<E'.ω.length:=by obtain ⟨_,_,⟨m,e⟩⟩:=hle;rw [e,List.length_append];omega
    have hge:E'.ω.getD b 0=E.ω.getD b 0:=by obtain ⟨_,_,⟨m,e⟩⟩:=hle;rw [e,Zbg hb]
    obtain ⟨v1,v2⟩:=Zl9 hv hj
    refine ⟨hbω,by rw [okL,v1];rfl,fun H2 vs e a4 a5=>hsame H2 fun a ha=>?_⟩
    rw [a2,SV.den] at ha
    simp only [Value.pointer.injEq,Option.some.injEq] at ha
    subst ha
    rw [hldv _ (by rw [a2,SV.den])]
    rw [hge] at a4
    rw [Zk2 (hF.tab.agg hg),ZhN,a4,Zhg,v2]
    have:((vs.drop oo).take 1)[0]?=some (v.den E'):=by
     have e1:(vs.drop oo).take 1=Zbk E' [v]:=a5
     rw [e1];rfl
    rw [List.getElem?_take,if_pos (by omega),List.getElem?_drop] at this
    exact this
 · rename_i a ix e sz oo hx
   cases hs:ZzA st.va a with
   | false=>trivial
   | true =>
    rw [cond_true]
    obtain ⟨ad,n,c,e1,e2,e3⟩:=Zwd hC h (show Zak cfg.T F L (ZqM cfg.T st ty x k) E.ρ=some o from hD) hx hs
    obtain ⟨a1,a2,a3⟩:=ZaU h hx
    refine ⟨some ad.block,fun b hb=>?_,fun H2 h2=>hsame H2 fun q hq=>ZoG ?_⟩
    · cases hb
      exact ⟨e2,fun hp=>e3 (hkp.pr _ e2 hp)⟩
    · rw [a2,SV.den,e1] at hq
      simp only [Zin,Value.pointer.injEq,Option.some.injEq] at hq
      rw [←hq,Zem]
      exact h2 _ rfl
 · trivial
theorem ZAn (h:SRel C E st tm H) {E':SE} {st':SS} {ob:AObj} {tm':List Value} (hS:SRel C E' st' tm' (H.push ob)) (hle:SE.le E E') (hkp:Kp E st.va H E' st'.va (H.push ob)) {t:Tr} (hk:ZaS t.o.op=.alloc) (h1:t.H=H) (h2:t.H'=H.push ob):RdRel P E' st'.va (H.push ob) t (ZET st st'):=by
 have gen:∀ sb,st'.locs[st.locs.length]?=some sb→∃ a,st.locs.length<E'.ω.length∧E'.ω.getD st.locs.length 0=a∧SBok C E' (H.push ob) a sb∧∀ H2,H2.get a=(H.push ob).get a→same P t H2:=by
  intro sb hsb
  obtain ⟨a,e1,e2,e3⟩:=hS.objAt hsb
  have ha:a=H.next:=by
   have hm:=List.mem_of_getElem? e1
   have hub:=(hS.pn a (.inl hm)).1
   have hub':a<H.next+1:=hub
   rcases hkp.om a hm with h3 | h3
   · exfalso
     obtain ⟨i,hi⟩:=List.mem_iff_getElem?.1 h3
     obtain ⟨_,_,⟨l,e⟩⟩:=hle
     have hi':E'.ω[i]?=some a:=by rw [e,List.getElem?_append_left (ZaJ hi)];exact hi
     have:=Zfi hS.nd hi' e1
     have:=ZaJ hi
     rw [h.lo] at this
     omega
   · omega
  exact ⟨a,ZaJ e1,e2,e3,fun H2 hg=>Zhu hk (by rw [h1,h2,←ha];exact hg)⟩
 unfold ZET
 split
 · rename_i cs e hsb
   cases hj:cs.any Ziw with
   | true=>trivial
   | false =>
    rw [cond_false]
    obtain ⟨a,g1,g2,⟨xs,e4,e5⟩,g4⟩:=gen _ hsb
    obtain ⟨d1,d2⟩:=Zgv e5 hj
    exact ⟨g1,d1,fun H2 hg=>g4 H2 (by rw [g2] at hg;rw [hg,e4,d2])⟩
 · rename_i cs e hsb
   cases hj:cs.any Ziw with
   | true=>trivial
   | false =>
    rw [cond_false]
    obtain ⟨a,g1,g2,⟨xs,e4,e5⟩,g4⟩:=gen _ hsb
    obtain ⟨d1,d2⟩:=Zgv e5 hj
    exact ⟨g1,d1,fun H2 hg=>g4 H2 (by rw [g2] at hg;rw [hg,e4,d2])⟩
 · trivial
theorem Zen (hC:CC C cfg) (hF:CfgOK P cfg ext F) {rec:Rec} (hrec:Zfy P cfg ext F L rec) {all:List Oper} {B:List Nat}:∀ (plan:List Nat) (R:List (Nat×Rd)) (Ra:List Tr) (st:SS) (E:SE) (tm:List Value) (H:AHeap) (k:SS→FT) (kp:SV→SS→FT) (G:Option (AExit×St)→Prop),SRel C E st tm H →
    (∀ t,t∈Ra→same P t H∧(ZaS t.o.op=.read∨(ZaS t.o.op=.alloc∧t.H.next<H.next))∧∃ r,r∈R∧r.1=t.j∧RdRel P E st.va H t r.2) →
    (∀ st' E' tm' H',SRel C E' st' tm' H'→SE.le E E'→Kp E st.va H E' st'.va H'→Zak cfg.T F L (k st') E'.ρ=some o→G (some (.normal,⟨tm',dfs,H'⟩))) →
    (∀ v w st' E' H',SRel C E' st' [] H'→SE.le E E'→Kp E st.va H E' st'.va H'→Dn E' v w→Zak cfg.T F L (kp v st') E'.ρ=some o→G (some (.panic w,⟨[],dfs,H'⟩))) →
    Zak cfg.T F L (Zmp cfg rec all B R plan st k kp) E.ρ=some o→∃ x s',Zdm P (Zaw P ext) all dfs B Ra plan tm H x s'∧G (some (x,s'))
 | [],R,Ra,st,E,tm,H,k,kp,G,h,hR,hk,hkp,hD=>⟨.normal,⟨tm,dfs,H⟩,Zjw fun t ht=>(hR t ht).1,hk st E tm H h (SE.le.refl E) (Kp.refl E st.va H) hD⟩
 | j::rest,R,Ra,st,E,tm,H,k,kp,G,h,hR,hk,hkp,hD=>by
  unfold Zmp at hD
  split at hD
  · simp [Zak] at hD
  rename_i op ho
  cases hem:st.slots.isEmpty with
  | true=>rw [hem,cond_true] at hD;simp [Zak] at hD
  | false =>
  rw [hem,cond_false] at hD
  have hne:tm≠[]:=fun e=>by
   have:=h.tm.len
   rw [e] at this
   rw [List.length_eq_zero_iff.1 this] at hem
   cases hem
  obtain ⟨st1,h1,hva1,hcase⟩:=Zls h hD
  clear hD
  rw [←hva1] at hk hR hkp
  have hinv:∀ {E':SE} {va':List VA} {H':AHeap} {t:Tr},SE.le E E'→Kp E st1.va H E' va' H'→t∈Ra→∃ r,r∈R∧r.1=t.j∧RdRel P E' va' H' t r.2:=by
   intro E' va' H' t hle hkp ht
   obtain ⟨_,_,r,hr1,hr2,hr3⟩:=hR t ht
   exact ⟨r,hr1,hr2,hr3.mono hle h.lw hkp⟩
  rcases hcase with ⟨hw,hD⟩ | ⟨hw,hD⟩
  · cases hdf:Zbd op.op with
    | true=>rw [hdf] at hD;simp [Zak] at hD
    | false =>
     rw [hdf,cond_false] at hD
     have kk:∀ {E1:SE} {v1:List VA} {H1:AHeap},SE.le E E1→Kp E st1.va H E1 v1 H1→∀ st' E' tm' H',SRel C E' st' tm' H'→SE.le E1 E'→Kp E1 v1 H1 E' st'.va H'→Zak cfg.T F L (k st') E'.ρ=some o→G (some (.normal,⟨tm',dfs,H'⟩)) :=
      fun hle hkp st' E' tm' H' b1 b2 b3 b4=>hk st' E' tm' H' b1 (hle.trans b2) (hkp.trans b3) b4
     have kq:∀ {E1:SE} {v1:List VA} {H1:AHeap},SE.le E E1→Kp E st1.va H E1 v1 H1→∀ v w st' E' H',SRel C E' st' [] H'→SE.le E1 E'→Kp E1 v1 H1 E' st'.va H'→Dn E' v w→Zak cfg.T F L (kp v st') E'.ρ=some o→G (some (.panic w,⟨[],dfs,H'⟩)) :=
      fun hle hkk v w st' E' H' b1 b2 b3 b4 b5=>hkp v w st' E' H' b1 (hle.trans b2) (hkk.trans b3) b4 b5
     cases hok:ZaS op.op with
     | pure =>
      rw [hok] at hD
      obtain ⟨v,w,st',E',H',a1,a2,a3,a4,a5,a6⟩:=Zn4 (ty:=op.type) hC hF hrec h1 hne hD
      rcases a6 with a6 | ⟨a6,_⟩ | ⟨f,args,H1,a6,_⟩<;>rw [←ZaE] at a6<;>obtain ⟨v0,hv0,_⟩:=Zev hok a6<;>cases hv0
      rw [ZaE] at a6
      obtain ⟨xx,s',p1,p2⟩:=Zen hC hF hrec rest R Ra _ E' _ H k kp G (Zcm a1 a4 op.dst) (fun t ht=>⟨(hR t ht).1,(hR t ht).2.1,by rw [Zbb];exact hinv a2 a3 ht⟩) (by rw [Zbb];exact kk a2 a3) (by rw [Zbb];exact kq a2 a3) a5
      exact ⟨xx,s',Zhw ho hw hok a6 p1,p2⟩
     | read =>
      rw [hok] at hD
      have hD0:=hD
      obtain ⟨v,w,st',E',H',a1,a2,a3,a4,a5,a6⟩:=Zn4 (ty:=op.type) hC hF hrec h1 hne hD
      rcases a6 with a6 | ⟨a6,_⟩ | ⟨f,args,H1,a6,_⟩<;>rw [←ZaE] at a6<;>obtain ⟨v0,hv0⟩:=Zeu hok a6<;>cases hv0
      rw [ZaE] at a6
      obtain ⟨xx,s',p1,p2⟩:=Zen hC hF hrec rest _ (⟨j,op,tm,H,w,H,true⟩::Ra) _ E' _ H k kp G (Zcm a1 a4 op.dst) (fun t ht=>by
       rw [Zbb]
       rcases List.mem_cons.1 ht with rfl | ht
       · exact ⟨ZgR hok a6,.inl hok,_,List.mem_cons_self ..,rfl,ZyB hC hF h1 a2 a3 a4 rfl rfl rfl hok a6 hD0⟩
       · obtain ⟨r,r1,r2⟩:=hinv a2 a3 ht
         exact ⟨(hR t ht).1,(hR t ht).2.1,r,List.mem_cons_of_mem _ r1,r2⟩) (by rw [Zbb];exact kk a2 a3) (by rw [Zbb];exact kq a2 a3) a5
      exact ⟨xx,s',Zdp ho hw (.inl hok) a6 p1,p2⟩
     | alloc =>
      rw [hok] at hD
      obtain ⟨v,w,st',E',H',a1,a2,a3,a4,a5,a6⟩:=Zn4 (ty:=op.type) hC hF hrec h1 hne hD
      rcases a6 with a6 | ⟨a6,_⟩ | ⟨f,args,H1,a6,_⟩
      · rw [←ZaE] at a6
        obtain ⟨obj,_,_,_,rfl⟩:=Zek hok a6
        rw [ZaE] at a6
        obtain ⟨xx,s',p1,p2⟩:=Zen hC hF hrec rest _ (⟨j,op,tm,H,w,H.push obj,true⟩::Ra) _ E' _ (H.push obj) k kp G (Zcm a1 a4 op.dst) (fun t ht=>by
         rw [Zbb]
         rcases List.mem_cons.1 ht with rfl | ht
         · exact ⟨Zhu hok rfl,.inr ⟨hok,Nat.lt_succ_self _⟩,_,List.mem_cons_self ..,rfl,ZAn h1 a1 a2 a3 hok rfl rfl⟩
         · obtain ⟨r,r1,r2⟩:=hinv a2 a3 ht
           exact ⟨ZmF (hR t ht).2.1 h.fm.fresh (hR t ht).1 obj,(hR t ht).2.1.imp id fun q=>⟨q.1,Nat.lt_succ_of_lt q.2⟩,r,List.mem_cons_of_mem _ r1,r2⟩) (by rw [Zbb];exact kk a2 a3) (by rw [Zbb];exact kq a2 a3) a5
        exact ⟨xx,s',Zdp ho hw (.inr hok) a6 p1,p2⟩
      · rw [←ZaE] at a6;exact (Zgd hok a6).elim
      · rw [←ZaE] at a6;exact (Zfv hok a6).elim
     | effect =>
      rw [hok] at hD
      rcases Zve (ty:=op.type) hC hF hrec h1 hne hD with ⟨v,w,st',E',H',a1,a2,a3,a4,a5,a6⟩ | ⟨v,w,st',E',H',a1,a2,a3,a4,a5,a6⟩
      case inr =>
       obtain ⟨hch,a5⟩:=ZaA a5
       exact ⟨.panic w,⟨[],dfs,H'⟩,Zd5 ho hw a6 (fun t ht=>(hR t ht).1),hkp v w ⟨[],st'.locs,st'.va⟩ E' H' (a1.slots (ss:=[]) (vs:=[]) ⟨rfl,fun i s v h1 h2=>by simp at h1⟩) a2 a3 a4 a5⟩
      obtain ⟨hch,a5⟩:=ZaA a5
      rw [List.all_eq_true] at hch
      obtain ⟨xx,s',p1,p2⟩:=Zen hC hF hrec rest _ (Ra.filter fun t=>!(bit B j t.j)) _ E' _ H' k kp G (Zcm a1 a4 op.dst) (fun t ht=>by
       rw [Zbb]
       obtain ⟨ht1,ht2⟩:=List.mem_filter.1 ht
       obtain ⟨r,r1,r2,r3⟩:=hinv a2 a3 ht1
       have hmem:r∈R.filter fun r=>!(bit B j r.1):=List.mem_filter.2 ⟨r1,by rw [r2];exact ht2⟩
       exact ⟨ZzX a1 r3 (by have:=hch r hmem;rw [show ((r.1,r.2):Nat×Rd)=r from rfl];exact this),(hR t ht1).2.1.imp id fun q=>⟨q.1,Nat.lt_of_lt_of_le q.2 a3.nx⟩,r,hmem,r2,r3⟩) (by rw [Zbb];exact kk a2 a3) (by rw [Zbb];exact kq a2 a3) a5
      have hRR:∀ t,t∈Ra→same P t H∧(bit B j t.j=true∨t∈Ra.filter fun t=>!(bit B j t.j)):=fun t ht=>⟨(hR t ht).1,by
       cases hb:bit B j t.j with
       | true=>exact .inl rfl
       | false=>exact .inr (List.mem_filter.2 ⟨ht,by rw [hb];rfl⟩)⟩
      rcases a6 with a6 | ⟨a6,rfl⟩ | ⟨f,args,H1,a6,a7⟩
      · exact ⟨xx,s',Zjv ho hw hok a6 hRR p1,p2⟩
      · exact ⟨xx,s',Zhv ho hw hok a6 hRR p1,p2⟩
      · exact ⟨xx,s',Zhy ho hw hok a6 a7 hRR p1,p2⟩
  · cases he:ZaM op with
    | true =>
     rw [he,cond_true] at hD
     have hRR:∀ t,t∈Ra→same P t H∧(bit B j t.j=true∨t∈Ra.filter fun t=>!(bit B j t.j)):=fun t ht=>⟨(hR t ht).1,by
      cases hb:bit B j t.j with
      | true=>exact .inl rfl
      | false=>exact .inr (List.mem_filter.2 ⟨ht,by rw [hb];rfl⟩)⟩
     obtain ⟨xx,s',p1,p2⟩:=Zen hC hF hrec rest _ (Ra.filter fun t=>!(bit B j t.j)) _ E _ H k kp G (Zcm h1 (v:=.tup []) (w:=undef) (.inr ⟨rfl,rfl⟩) op.dst) (fun t ht=>by
      rw [Zbb]
      obtain ⟨ht1,ht2⟩:=List.mem_filter.1 ht
      obtain ⟨r,r1,r2,r3⟩:=hinv (SE.le.refl E) (Kp.refl E st1.va H) ht1
      exact ⟨(hR t ht1).1,(hR t ht1).2.1,r,List.mem_filter.2 ⟨r1,by rw [r2];exact ht2⟩,r2,r3⟩) (by rw [Zbb];exact hk) (by rw [Zbb];exact hkp) hD
     exact ⟨xx,s',Zhx ho hw he hRR p1,p2⟩
    | false =>
     rw [he,cond_false] at hD
     obtain ⟨xx,s',p1,p2⟩:=Zen hC hF hrec rest R Ra _ E _ H k kp G (Zcm h1 (v:=.tup []) (w:=undef) (.inr ⟨rfl,rfl⟩) op.dst) (fun t ht=>by rw [Zbb];exact hR t ht) (by rw [Zbb];exact hk) (by rw [Zbb];exact hkp) hD
     exact ⟨xx,s',Zju ho hw he p1,p2⟩
end
end
section
open Go B
section
variable {P:Program} {cfg:Cfg} {ext:CallT} {F:Nat→List D→Option (Nat×List D)} {L:Nat} {C:Cx} {E:SE} {st:SS} {tm:List Value} {H:AHeap} {ty:TypeId} {dst:Option Nat} {dfs:List ADef} {K:St→Option (AExit×St)} {G:Option (AExit×St)→Prop} {o:Out}
theorem ZtN (E0 E':SE) (hle:SE.le E0 E') (hl:E0.w.length=E0.ρ.length):(Zn1 0 E0.ρ.length).map (SV.dD E')=E0.ρ∧(Zn1 0 E0.ρ.length).map (SV.den E')=E0.w∧(List.range E0.ω.length).map (fun b=>E'.ω.getD b 0)=E0.ω:=by
 obtain ⟨⟨a,ha⟩,⟨b,hb⟩,⟨c,hc⟩⟩:=hle
 have gen:∀ {α:Type} (l m:List α) (d:α),(List.range l.length).map (fun i=>(l++m).getD i d)=l:=by
  intro α l m d
  apply List.ext_getElem?
  intro i
  rw [List.getElem?_map]
  by_cases hi:i<l.length
  · rw [List.getElem?_range hi]
    simp only [Option.map_some]
    rw [Zbg hi,List.getD_eq_getElem?_getD,List.getElem?_eq_getElem hi];rfl
  · rw [List.getElem?_eq_none (by simpa using hi),List.getElem?_eq_none (by omega)];rfl
 unfold Zn1
 rw [List.map_map,List.map_map]
 refine ⟨?_,?_,?_⟩
 · have:=gen E0.ρ a (.ag [])
   rw [←ha] at this
   refine Eq.trans (List.map_congr_left fun i _=>?_) this
   show E'.ρ.getD (0+i) (.ag [])=_
   rw [Nat.zero_add]
 · have:=gen E0.w b undef
   rw [←hb,hl] at this
   refine Eq.trans (List.map_congr_left fun i _=>?_) this
   show E'.w.getD (0+i) undef=_
   rw [Nat.zero_add]
 · rw [hc];exact gen E0.ω c 0
theorem Zxp {E0 E':SE} (hle:SE.le E0 E') (hl:E0.w.length=E0.ρ.length) (vals:List SV):E'.ren (Zn1 0 E0.ρ.length++vals) (List.range E0.ω.length)=⟨E0.ρ++vals.map (SV.dD E'),E0.w++vals.map (SV.den E'),E0.ω⟩:=by
 obtain ⟨h1,h2,h3⟩:=ZtN E0 E' hle hl
 unfold SE.ren
 rw [List.map_append,List.map_append,h1,h2,h3]
theorem Zmv {E0:SE} (h:SRel C E st tm H) (hle:SE.le E0 E) (hl:E0.w.length=E0.ρ.length) {n m:Nat} {g:SS} {vals:List SV} (hn:n=E0.ρ.length) (hm:m=E0.ω.length) (ht:ZhW n m g st=some vals):SRel C ⟨E0.ρ++vals.map (dv E.ρ),E0.w++vals.map (SV.den E),E0.ω⟩ g tm H:=by
 unfold ZhW at ht
 dsimp only at ht
 obtain ⟨hb,ht⟩:=ZaK ht
 simp only [Option.some.injEq] at ht
 rw [ht] at hb
 have:=h.ren hb
 rw [hn,hm,Zxp hle hl] at this
 rw [Zqg]
 exact this
theorem Zmu {E0:SE} (h:SRel C E st tm H) (hle:SE.le E0 E) (hl:E0.w.length=E0.ρ.length) {n m:Nat} {g:SS} {vals:List SV} (hn:n=E0.ρ.length) (hm:m=E0.ω.length) (ht:ZhW n m g st=some vals):Kp E st.va H ⟨E0.ρ++vals.map (dv E.ρ),E0.w++vals.map (SV.den E),E0.ω⟩ g.va H:=by
 unfold ZhW at ht
 dsimp only at ht
 obtain ⟨hb,ht⟩:=ZaK ht
 simp only [Option.some.injEq] at ht
 rw [ht] at hb
 have:=h.renPr hb
 rw [hn,hm,Zxp hle hl,←Zqg] at this
 exact ⟨Nat.le_refl _,fun _ _ _=>rfl,fun b _ hp=>this b hp,fun b hb=>by
  obtain ⟨_,_,⟨l,hl⟩⟩:=hle
  rw [hl];exact .inl (List.mem_append_left _ hb)⟩
theorem ZtQ {va0:List VA} {Hs:AHeap} {a:Code} {E0:SE} (hl0:E0.w.length=E0.ρ.length) {rec:Rec} (hrec:Zfy P cfg ext F L rec) (hC:CC C cfg) {g:SS} {n m:Nat} (hn:n=E0.ρ.length) (hm:m=E0.ω.length) {df:DF} (hd:DfR E0 df dfs) {k:XE→SS→DF→FT}
    (hk:∀ x ax st' E' tm' H' df' dfs',SRel C E' st' tm' H'→SE.le E0 E'→Kp E0 va0 Hs E' st'.va H'→Zmj E' x ax→DfR E' df' dfs'→Zak cfg.T F L (k x st' df') E'.ρ=some o→G (some (ax,⟨tm',dfs',H'⟩))) :
    ∀ (N:Nat) (v:List D) (w:List Value) (tm:List Value) (H:AHeap),SRel C ⟨E0.ρ++v,E0.w++w,E0.ω⟩ g tm H→Kp E0 va0 Hs ⟨E0.ρ++v,E0.w++w,E0.ω⟩ g.va H →
     Zgr (fun v=>Zak cfg.T F L (rec 0 a g df fun x st' df'=>match x with
         | .normal=>bif ZnR df df' then match ZhW n m g st' with
          | some vals'=>.again vals'
          | none=>.stop 59
          else .stop 59
         | x=>.out (k x st' df')) (E0.ρ++v)) N v=some o→G (Zap P ext false (.loop a) ⟨tm,dfs,H⟩)
 | 0,v,w,tm,H,_,_,hi=>by simp [Zgr] at hi
 | N+1,v,w,tm,H,h,hkp,hi=>by
  have hleh:SE.le E0 ⟨E0.ρ++v,E0.w++w,E0.ω⟩:=⟨⟨v,rfl⟩,⟨w,rfl⟩,⟨[],by simp⟩⟩
  unfold Zgr at hi
  cases hb:Zak cfg.T F L (rec 0 a g df fun x st' df'=>match x with
        | .normal=>bif ZnR df df' then match ZhW n m g st' with
         | some vals'=>.again vals'
         | none=>.stop 59
         else .stop 59
        | x=>.out (k x st' df')) (E0.ρ++v) with
  | none=>simp only [hb] at hi;cases hi
  | some ob =>
   simp only [hb] at hi
   rw [ZdL]
   refine hrec C 0 a g ⟨E0.ρ++v,E0.w++w,E0.ω⟩ tm H df dfs ob (fun z=>G (Zgg z fun s1=>Zap P ext false (.loop a) s1)) _ hC h (hd.mono hleh hl0) ?_ hb
   intro x ax st' E' tm' H' df' dfs' hR hle hkk hx hd' hD
   have hout:Zak cfg.T F L (.out (k x st' df')) E'.ρ=some ob→G (some (ax,⟨tm',dfs',H'⟩)):=by
    intro hD
    rw [Zak] at hD
    obtain ⟨o',ho',rfl⟩:=Option.map_eq_some_iff.1 hD
    simp only [Option.some.injEq] at hi
    subst hi
    exact hk x ax st' E' tm' H' df' dfs' hR (hleh.trans hle) (hkp.trans hkk) hx hd' ho'
   cases hx with
   | normal =>
    dsimp only at hD
    obtain ⟨hbd,hD1⟩:=ZaA hD
    obtain rfl:=Zqm hbd
    obtain rfl:=(hd.mono (hleh.trans hle) hl0).det hd'
    split at hD1
    case h_2=>simp [Zak] at hD1
    rename_i vals' hv'
    rw [Zak,Option.some.injEq] at hD1
    subst hD1
    dsimp only at hi
    rw [Ze2]
    exact ZtQ hl0 hrec hC hn hm hd hk N (vals'.map (dv E'.ρ)) (vals'.map (SV.den E')) tm' H' (Zmv hR (hleh.trans hle) hl0 hn hm hv') ((hkp.trans hkk).trans (Zmu hR (hleh.trans hle) hl0 hn hm hv')) hi
   | exit=>rw [Zhr];exact hout hD
   | ret=>rw [Zi9];exact hout hD
   | panic hd=>rw [Zgf];exact hout hD
def Cx.withK (C:Cx) (K:List RC):Cx:=⟨C.T,K,C.H0,C.P0,C.Z,C.Q,C.hZ,C.hQ⟩
theorem VarOK.withK {K:List RC} {Pr:Nat→Prop}:∀ {a:VA} {d:D} {v:Value},VarOK (C.withK K) H Pr a d v=VarOK C H Pr a d v
 | .dd,_,_=>rfl
 | .sc,_,_=>rfl
 | .sh _,_,_=>rfl
 | .ow _,_,_=>rfl
theorem SRel.withK (h:SRel C E st tm H) {K:List RC} (hK:∀ (j:Nat) (r:RC),C.K[j]?=some r→K[j]?=some r):SRel (C.withK K) E st tm H where
 lw:=h.lw
 la:=h.la
 lo:=h.lo
 var:=fun i a d v h1 h2 h3=>by rw [VarOK.withK];exact h.var i a d v h1 h2 h3
 loc:=fun b sb a h1 h2=>by
  have:=h.loc b sb a h1 h2
  cases sb with
  | rc j s pd cs=>obtain ⟨r,vs,a1,a2,a3⟩:=this;exact ⟨r,vs,hK _ _ a1,a2,a3⟩
  | _=>exact this
 tm:=h.tm
 nd:=h.nd
 own:=h.own
 own2:=h.own2
 fm:=h.fm
 pn:=h.pn
theorem SRel.dropK {K:List RC} (h:SRel (C.withK K) E st tm H) {n:Nat} (hl:st.locs.all (ZDY n)=true) (hK:∀ (j:Nat) (r:RC),j<n→K[j]?=some r→C.K[j]?=some r):SRel C E st tm H where
 lw:=h.lw
 la:=h.la
 lo:=h.lo
 var:=fun i a d v h1 h2 h3=>by rw [←VarOK.withK (K:=K)];exact h.var i a d v h1 h2 h3
 loc:=fun b sb a h1 h2=>by
  have:=h.loc b sb a h1 h2
  rw [List.all_eq_true] at hl
  have hb:=hl sb (List.mem_of_getElem? h1)
  cases sb with
  | rc j s pd cs=>obtain ⟨r,vs,a1,a2,a3⟩:=this;exact ⟨r,vs,hK _ _ (by simpa [ZDY] using hb) a1,a2,a3⟩
  | _=>exact this
 tm:=h.tm
 nd:=h.nd
 own:=h.own
 own2:=h.own2
 fm:=h.fm
 pn:=h.pn
theorem CfgOK.withK (hF:CfgOK P cfg ext F) (K:List RC):CfgOK P { cfg with K:=K } ext F:=⟨hF.tab,hF.ent,hF.spec,hF.inl,hF.eqT,hF.rnd⟩
theorem Zv9 {pd:Option (Option Nat)}:∃ ax,Znn (Zto pd)=some ax∧Zmj E (ZzO pd) ax:=by
 cases pd with
 | none=>exact ⟨.normal,rfl,.normal⟩
 | some q=>cases q with
  | none=>exact ⟨.ret,rfl,.ret⟩
  | some i=>exact ⟨.exit i,rfl,.exit⟩
theorem ZrH (hF:CfgOK P cfg ext F) {rec2:Cfg→Rec} (hrec2:∀ K,Zfy P { cfg with K:=K } ext F L (rec2 { cfg with K:=K })) (hC:CC C cfg) (h:SRel C E st tm H) {df:DF} (hd:DfR E df dfs) {g:Operand} {ps:Array Tmp} {asg body:Code} {k:XE→SS→DF→FT}
    (hk:∀ x ax st' E' tm' H' df' dfs',SRel C E' st' tm' H'→SE.le E E'→Kp E st.va H E' st'.va H'→Zmj E' x ax→DfR E' df' dfs'→Zak cfg.T F L (k x st' df') E'.ρ=some o→G (some (ax,⟨tm',dfs',H'⟩)))
    (hD:Zak cfg.T F L (ZrI cfg rec2 g ps asg body st df k) E.ρ=some o):G (Zap P ext false (.rangeFunc g ps asg body) ⟨tm,dfs,H⟩):=by
 unfold ZrI at hD
 split at hD
 case h_2=>simp [Zak] at hD
 rename_i v hv
 split at hD
 case h_2=>simp [Zak] at hD
 rename_i f pre caps hfn
 split at hD
 case h_2=>simp [Zak] at hD
 rename_i fn hf
 split at hD
 case h_2=>simp [Zak] at hD
 rename_i c hc
 obtain ⟨hb,hD1⟩:=ZaA hD
 clear hD
 rw [Bool.and_eq_true] at hb
 obtain ⟨a1,a2,a3⟩:=ZaU h hv
 obtain ⟨c1,c0,c2⟩:=ZoL hfn a3
 have hen:=hF.ent _ _ hf
 have hrc:ZbV P ⟨tm,dfs,H⟩ g ps asg body=some (f,Zbk E pre++[.func (.yield H.next) #[] #[]]++Zbk E caps,H.push (.loop ⟨.ready,none,tm,ps,asg,body⟩)):=by
  unfold ZbV
  rw [if_pos a1]
  dsimp only
  rw [a2,c1]
  dsimp only
  unfold ZcP at hen
  split at hen
  · rename_i fn' hfn'
    rw [hfn']
    dsimp only
    rw [if_pos hen]
  · cases hen
 rw [ZgJ,hrc]
 dsimp only
 rw [ZdN (hF.inl f hb.1 _ _) (hF.tab.func _ _ hf) hc]
 have hsb:SBok (C.withK (cfg.K++[⟨ps,asg,body⟩])) ⟨E.ρ,E.w,E.ω++[H.next]⟩ (H.push (.loop ⟨.ready,none,tm,ps,asg,body⟩)) H.next (.rc cfg.K.length 0 none st.slots) :=
  ⟨⟨ps,asg,body⟩,tm,by show (cfg.K++[_])[cfg.K.length]?=_;simp,AHeap.push_get_new _ _,h.tm.mono ⟨⟨[],by simp⟩,⟨[],by simp⟩,⟨_,rfl⟩⟩ h.lw⟩
 have h1:=(h.withK (K:=cfg.K++[⟨ps,asg,body⟩]) (fun j r hj=>by rw [hC.K] at hj;rw [List.getElem?_append_left (ZaJ hj)];exact hj)).push hsb
 have hle1:SE.le E ⟨E.ρ,E.w,E.ω++[H.next]⟩:=⟨⟨[],by simp⟩,⟨[],by simp⟩,⟨_,rfl⟩⟩
 have hkp1:Kp E st.va H ⟨E.ρ,E.w,E.ω++[H.next]⟩ st.va (H.push (.loop ⟨.ready,none,tm,ps,asg,body⟩)):=⟨Nat.le_succ _,fun b hb _=>AHeap.push_get_old _ _ (Nat.ne_of_lt hb),fun b hb hp=>by
  rcases hp with hp | hp
  · rcases List.mem_append.1 hp with hp | hp
    · exact .inl hp
    · rw [List.mem_singleton] at hp;omega
  · exact .inr hp,fun b hb=>(List.mem_append.1 hb).imp id fun e=>by rw [List.mem_singleton] at e;rw [e];exact Nat.le_refl _⟩
 have hωn:(E.ω++[H.next]).getD st.locs.length 0=H.next:=by
  rw [←h.lo,List.getD_eq_getElem?_getD,List.getElem?_append_right (Nat.le_refl _),Nat.sub_self];rfl
 have hdn:DnL ⟨E.ρ,E.w,E.ω++[H.next]⟩ (pre++.yl st.locs.length::caps) (Zbk E pre++[.func (.yield H.next) #[] #[]]++Zbk E caps):=by
  have hok:okL E.ρ.length (E.ω++[H.next]).length (pre++.yl st.locs.length::caps)=true:=by
   refine ZcR (ZcC (Nat.le_refl _) (by simp) c0) ?_
   rw [okL,SV.ok,ZcC (Nat.le_refl _) (by simp) c2,List.length_append,h.lo];simp [Nat.blt]
  have:=ZdI (E:=⟨E.ρ,E.w,E.ω++[H.next]⟩) hok
  rw [ZbT,Zbk,SV.den,ZeH hle1 (by rw [h.lw];exact Nat.le_refl _) (Nat.le_refl _) c2,ZeH hle1 (by rw [h.lw];exact Nat.le_refl _) (Nat.le_refl _) c0] at this
  have e:(SE.mk E.ρ E.w (E.ω++[H.next])).ω.getD st.locs.length 0=H.next:=hωn
  rw [e] at this
  rw [List.append_assoc];exact this
 have hCC:CC (C.withK (cfg.K++[⟨ps,asg,body⟩])) { cfg with K:=cfg.K++[⟨ps,asg,body⟩] }:=⟨hC.T,rfl⟩
 have hent:=ZeF fn.ntmps h1 hdn
 refine hrec2 (cfg.K++[⟨ps,asg,body⟩]) (C.withK (cfg.K++[⟨ps,asg,body⟩])) (cfg.unr f) c _ ⟨E.ρ,E.w,E.ω++[H.next]⟩ _ _ [] [] o (fun z=>G (Zcc H.next ⟨tm,dfs,H⟩ (Zb6 P (Zap P ext false) fn.results.toList z))) _ hCC hent trivial ?_ hD1
 intro x ax st' E' tm' H' df' dfs' hR hle' hkp' hx hd' hD
 refine Zlj (R:=fun z=>G (Zcc H.next ⟨tm,dfs,H⟩ z)) hCC (hF.withK _) (hrec2 _) hR hx hd' ?_ ?_ hD
 · intro v st2 E2 H2 b1 b2 b3 b4 hD
   split at hD
   case h_2=>simp [Zak] at hD
   rename_i j s pd cs hsb2
   cases hs1:Nat.beq s 1 with
   | true=>rw [hs1] at hD;simp [Zak] at hD
   | false =>
   rw [hs1,cond_false] at hD
   obtain ⟨hlt,hD2⟩:=ZaA hD
   obtain ⟨a,e1,e2,r,vs,e3,e4,e5⟩:=b1.objAt (Zcr hsb2 (by simp))
   have hle2:=hle'.trans b2
   have ha:a=H.next:=by
    obtain ⟨_,_,⟨l,hl⟩⟩:=hle2
    have e1':((E.ω++[H.next])++l)[st.locs.length]?=some a:=by
     have:E2.ω=(E.ω++[H.next])++l:=hl
     rw [←this];exact e1
    rw [List.getElem?_append_left (by simp [h.lo]),List.getElem?_append_right (by rw [h.lo];exact Nat.le_refl _),h.lo,Nat.sub_self] at e1'
    simpa using e1'.symm
   subst ha
   obtain ⟨ax2,hx1,hx2⟩:=Zv9 (E:=E2) (pd:=pd)
   have hnb:ZAB s≠.busy:=by
    intro hb
    match s,hs1,hb with
    | 0,_,hb=>cases hb
    | 1,hs1,_=>cases hs1
    | _+2,_,hb=>cases hb
   have hre:Zcc H.next ⟨tm,dfs,H⟩ (some (.ret (v.den E2),H2))=some (ax2,⟨tm,dfs,H2.set H.next (.loop ⟨.exhausted,Zto pd,vs,r.ps,r.asg,r.body⟩)⟩):=by
    unfold Zcc
    dsimp only
    rw [e4]
    dsimp only
    rw [if_neg hnb,hx1]
   rw [hre]
   have h2:=b1.setObj (o:=.loop ⟨.exhausted,Zto pd,vs,r.ps,r.asg,r.body⟩) (sb:=.dead) e1 (by rw [e4];rfl) trivial
   have hkp2:=Zt0 b1 e1 (.loop ⟨.exhausted,Zto pd,vs,r.ps,r.asg,r.body⟩)
   have h3:=h2.dropK (n:=cfg.K.length) hlt (fun j r hj hh=>by rw [hC.K];rw [List.getElem?_append_left hj] at hh;exact hh)
   exact hk (ZzO pd) ax2 _ E2 tm _ df dfs (h3.slots (h.tm.mono (hle1.trans hle2) h.lw)) (hle1.trans hle2) (((hkp1.trans hkp').trans b3).trans hkp2) hx2 (hd.mono (hle1.trans hle2) h.lw) hD2
 · intro v w st2 E2 H2 b1 b2 b3 b4 hD
   simp [Zak] at hD
theorem ZrG (hF:CfgOK P cfg ext F) {rec:Rec} (hrec:Zfy P cfg ext F L rec) {rec2:Cfg→Rec} (hrec2:∀ K,Zfy P { cfg with K:=K } ext F L (rec2 { cfg with K:=K })):Zfy P cfg ext F L (ZiR cfg rec rec2):=by
 intro C u c st E tm H df dfs o G k hC h hd hk hD
 have rgn:∀ (l:List Oper),Zak cfg.T F L (Zvd cfg rec l l st df (k .normal) fun v st df=>k (.panic v) st df) E.ρ=some o→G (Zbq P (Zaw P ext) false l l ⟨tm,dfs,H⟩):=fun l hD =>
  ZiS hC hF hrec _ st E tm H df dfs _ _ G (fun e=>by cases e) h hd (fun st' E' tm' H' df' dfs' a1 a2 a2' a3 a4=>hk .normal .normal st' E' tm' H' df' dfs' a1 a2 a2' .normal a3 a4) (fun v w st' E' tm' H' df' dfs' a1 a2 a2' a3 a4 a5=>hk (.panic v) (.panic w) st' E' tm' H' df' dfs' a1 a2 a2' (.panic a3) a4 a5) hD
 cases c with
 | skip=>rw [ZhX];exact hk .normal .normal st E tm H df dfs h (SE.le.refl E) (Kp.refl E st.va H) .normal hd hD
 | region id ops draw =>
  cases draw with
  | false =>
   have:=ZhZ (P:=P) (ext:=ext) (rnd:=false) (id:=id) (l:=ops.toList) (s:=⟨tm,dfs,H⟩)
   rw [Array.toArray_toList] at this
   rw [this]
   exact rgn _ hD
  | true =>
   simp only [ZiR] at hD
   cases hp:ZdX ops.toList (Zbo ops.toList)&&((Zbo ops.toList).filterMap fun j=>ops.toList[j]?).all (fun o=>!Zbd o.op) with
   | false =>
    rw [hp,cond_false] at hD
    cases hp2:ZbD ops.toList (Zbo ops.toList) with
    | false=>rw [hp2] at hD;simp [Zak] at hD
    | true =>
     rw [hp2,cond_true] at hD
     have:=ZdM (P:=P) (ext:=ext) (rnd:=false) (id:=id) (ops:=ops) (s:=⟨tm,dfs,H⟩)
     rw [this]
     obtain ⟨xx,s',p1,p2⟩:=Zen hC hF hrec _ [] [] st E tm H (fun st=>k .normal st df) (fun v st=>k (.panic v) st df) G h (fun t ht=>by simp at ht) (fun st' E' tm' H' a1 a2 a2' a3=>hk .normal .normal st' E' tm' H' df dfs a1 a2 a2' .normal (hd.mono a2 h.lw) a3)
      (fun v w st' E' H' a1 a2 a2' a3 a4=>hk (.panic v) (.panic w) st' E' [] H' df dfs a1 a2 a2' (.panic a3) (hd.mono a2 h.lw) a4) hD
     exact Zwf hp2 p1 p2
   | true =>
    rw [hp,cond_true] at hD
    rw [Bool.and_eq_true] at hp
    obtain ⟨hp,hnd⟩:=hp
    rw [List.all_eq_true] at hnd
    have:=ZhY (P:=P) (ext:=ext) (rnd:=false) (id:=id) (l:=ops.toList) (s:=⟨tm,dfs,H⟩) (Zbo ops.toList) hp
    rw [Array.toArray_toList] at this
    rw [this]
    exact ZiS hC hF hrec _ st E tm H df dfs _ _ (fun z=>G (Zwe z)) (fun _ op ho=>by simpa using hnd op ho) h hd (fun st' E' tm' H' df' dfs' a1 a2 a2' a3 a4=>hk .normal .normal st' E' tm' H' df' dfs' a1 a2 a2' .normal a3 a4) (fun v w st' E' tm' H' df' dfs' a1 a2 a2' a3 a4 a5=>hk (.panic v) (.panic w) ⟨[],st'.locs,st'.va⟩ E' [] H' df' dfs' (a1.slots (ss:=[]) (vs:=[]) ⟨rfl,fun i s v h1 h2=>by simp at h1⟩) a2 a2' (.panic a3) a4 a5) hD
 | seq a b =>
  rw [Zgh]
  refine hrec C u a st E tm H df dfs o (fun z=>G (Zgg z fun s1=>Zap P ext false b s1)) _ hC h hd ?_ hD
  intro x ax st' E' tm' H' df' dfs' hR hle hkk hx hd' hD'
  cases hx with
  | normal =>
   rw [Ze2]
   exact hrec C u b st' E' tm' H' df' dfs' o G k hC hR hd' (fun x2 ax2 st2 E2 tm2 H2 df2 dfs2 a1 a2 a2' a3 a4 a5=>hk x2 ax2 st2 E2 tm2 H2 df2 dfs2 a1 (hle.trans a2) (hkk.trans a2') a3 a4 a5) hD'
  | exit=>rw [Zhr];exact hk _ _ _ _ _ _ _ _ hR hle hkk .exit hd' hD'
  | ret=>rw [Zi9];exact hk _ _ _ _ _ _ _ _ hR hle hkk .ret hd' hD'
  | panic hdn=>rw [Zgf];exact hk _ _ _ _ _ _ _ _ hR hle hkk (.panic hdn) hd' hD'
 | cond q a b =>
  simp only [ZiR] at hD
  split at hD
  case h_2=>simp [Zak] at hD
  rename_i v hv
  obtain ⟨a1,a2,a3⟩:=ZaU h hv
  obtain ⟨bb,st',h1,h2,h3,hva⟩:=ZmI h hD
  rw [←hva] at hk
  rw [Zh1 a1 (show aev tm q=.bool bb from a2.trans h1)]
  cases bb with
  | true=>exact hrec C u a st' E tm H df dfs o G k hC h2 hd hk h3
  | false=>exact hrec C u b st' E tm H df dfs o G k hC h2 hd hk h3
 | block id a =>
  rw [ZgM]
  refine hrec C u a st E tm H df dfs o (fun z=>G (ZfO id z)) _ hC h hd ?_ hD
  intro x ax st' E' tm' H' df' dfs' hR hle hkk hx hd' hD'
  cases hx with
  | normal=>exact hk _ _ _ _ _ _ _ _ hR hle hkk .normal hd' hD'
  | ret=>exact hk _ _ _ _ _ _ _ _ hR hle hkk .ret hd' hD'
  | panic hdn=>exact hk _ _ _ _ _ _ _ _ hR hle hkk (.panic hdn) hd' hD'
  | @exit i =>
   dsimp only at hD'
   rw [Zg5]
   cases hb:Nat.beq i id with
   | true =>
    rw [hb,cond_true] at hD'
    rw [if_pos (Nat.eq_of_beq_eq_true hb)]
    exact hk _ _ _ _ _ _ _ _ hR hle hkk .normal hd' hD'
   | false =>
    rw [hb,cond_false] at hD'
    rw [if_neg (fun e=>by rw [e] at hb;simp at hb)]
    exact hk _ _ _ _ _ _ _ _ hR hle hkk .exit hd' hD'
 | loop a =>
  simp only [ZiR] at hD
  cases u with
  | succ u =>
   dsimp only at hD
   rw [ZdL]
   refine hrec C (u+1) a st E tm H df dfs o (fun z=>G (Zgg z fun s1=>Zap P ext false (.loop a) s1)) _ hC h hd ?_ hD
   intro x ax st' E' tm' H' df' dfs' hR hle hkk hx hd' hD'
   cases hx with
   | normal =>
    rw [Ze2]
    exact hrec C u (.loop a) st' E' tm' H' df' dfs' o G k hC hR hd' (fun x2 ax2 st2 E2 tm2 H2 df2 dfs2 a1 a2 a2' a3 a4 a5=>hk x2 ax2 st2 E2 tm2 H2 df2 dfs2 a1 (hle.trans a2) (hkk.trans a2') a3 a4 a5) hD'
   | exit=>rw [Zhr];exact hk _ _ _ _ _ _ _ _ hR hle hkk .exit hd' hD'
   | ret=>rw [Zi9];exact hk _ _ _ _ _ _ _ _ hR hle hkk .ret hd' hD'
   | panic hdn=>rw [Zgf];exact hk _ _ _ _ _ _ _ _ hR hle hkk (.panic hdn) hd' hD'
  | zero =>
   dsimp only at hD
   split at hD
   case h_2=>simp [Zak] at hD
   rename_i vals hv
   rw [Zak] at hD
   have h0:=Zmv h (SE.le.refl E) h.lw h.la h.lo.symm hv
   exact ZtQ (E0:=E) h.lw hrec hC h.la h.lo.symm hd hk L _ _ tm H h0 (Zmu h (SE.le.refl E) h.lw h.la h.lo.symm hv) hD
 | exit id=>rw [Zh0];exact hk (.exit id) (.exit id) st E tm H df dfs h (SE.le.refl E) (Kp.refl E st.va H) .exit hd hD
 | ret=>rw [Zja];exact hk .ret .ret st E tm H df dfs h (SE.le.refl E) (Kp.refl E st.va H) .ret hd hD
 | label l=>rw [ZgL];exact hk .normal .normal st E tm H df dfs h (SE.le.refl E) (Kp.refl E st.va H) .normal hd hD
 | rangeFunc g ps asg body =>
  simp only [ZiR] at hD
  exact ZrH hF hrec2 hC h hd hk hD
 | _=>simp [ZiR,Zak] at hD
theorem ZiA:∀ (n:Nat) {cfg:Cfg},CfgOK P cfg ext F→Zfy P cfg ext F L (ZrM n cfg)
 | 0,cfg,hF=>by
  intro C u c st E tm H df dfs o G k hC h hd hk hD
  simp [ZrM,Zak] at hD
 | n+1,cfg,hF=>by
  intro C u c st E tm H df dfs o G k hC h hd hk hD
  exact ZrG hF (ZiA n hF) (fun K=>ZiA n (hF.withK K)) C u c st E tm H df dfs o G k hC h hd hk hD
end
end
section
open Go B
def ZAY (n m:Nat) (a:Alt) (v:SV) (st:SS):Option (List SV) :=
 let p:SS:=⟨[a.res],a.locs,a.va⟩
 let st2:SS:={ st with slots:=[v] }
 let b:=ZnM p st2 ((Zn1 0 n).map some++List.replicate a.n none,(List.range m).map some++List.replicate (a.locs.length-m) none)
 let vals:=b.1.drop n
 bif Nat.beq vals.length a.n&&chk st2 (Zn1 0 n++vals) (List.range m++b.2.drop m) p then some vals else none
def ZwB (n m:Nat) (pan:Bool) (v:SV) (st:SS):Nat→List Alt→FT
 | _,[]=>.stop 70
 | i,a::l=>bif (a.pan == pan) then match ZAY n m a v st with
     | some vals=>.fin i vals
     | none=>ZwB n m pan v st (i+1) l
  else ZwB n m pan v st (i+1) l
def Zbr (cfg:Cfg) (s:Sig):FT:=match cfg.T.func s.f with
 | some fn=>match fn.body with
  | some c=>bif Nat.ble s.args.length fn.ntmps then ZrM 400 cfg (cfg.unr s.f) c ⟨s.args++List.replicate (fn.ntmps-s.args.length) .jk,s.locs,s.va⟩ [] fun x st df=>ZrL cfg (ZrM 399 cfg) fn.results.toList x st df (fun v st=>ZwB s.va.length s.locs.length false v st 0 s.outs) (fun v st=>ZwB s.va.length s.locs.length true v st 0 s.outs) else .stop 73
  | none=>.stop 74
 | none=>.stop 74
def Zdd:Option Out→Option (Nat×List D)
 | some (.fin k v)=>some (k,v)
 | _=>none
section
variable {P:Program} {cfg:Cfg} {ext:CallT} {F:Nat→List D→Option (Nat×List D)} {L:Nat}
theorem Zn5 {T:Tabs} {C:Cx} {E0 E:SE} {st:SS} {v:SV} {w:Value} {H:AHeap} {tm:List Value} (h:SRel C E st tm H) (hle:SE.le E0 E) (hl:E0.w.length=E0.ρ.length) (hv:Dn E v w) {n m:Nat} (hn:n=E0.ρ.length) (hm:m=E0.ω.length) {pan:Bool} {k:Nat} {out:List D} :
    ∀ (l:List Alt) (i:Nat),Zak T F L (ZwB n m pan v st i l) E.ρ=some (.fin k out)→∃ (a:Alt) (ws:List Value) (os:List Nat),i≤k∧l[k-i]?=some a∧a.pan=pan∧out.length=a.n∧SRel C ⟨E0.ρ++out,E0.w++ws,E0.ω++os⟩ ⟨[a.res],a.locs,a.va⟩ [w] H∧∀ b,b∈os→b∈E.ω
 | [],i,hD=>by simp [ZwB,Zak] at hD
 | a::l,i,hD=>by
  have next:Zak T F L (ZwB n m pan v st (i+1) l) E.ρ=some (.fin k out)→∃ (a':Alt) (ws:List Value) (os:List Nat),i≤k∧(a::l)[k-i]?=some a'∧a'.pan=pan∧out.length=a'.n∧SRel C ⟨E0.ρ++out,E0.w++ws,E0.ω++os⟩ ⟨[a'.res],a'.locs,a'.va⟩ [w] H∧∀ b,b∈os→b∈E.ω:=by
   intro hD
   obtain ⟨a',ws,os,h1,h2,h3⟩:=Zn5 h hle hl hv hn hm l (i+1) hD
   refine ⟨a',ws,os,by omega,?_,h3⟩
   have:k-i=(k-(i+1))+1:=by omega
   rw [this,List.getElem?_cons_succ];exact h2
  unfold ZwB at hD
  cases hp:(a.pan == pan) with
  | false=>rw [hp,cond_false] at hD;exact next hD
  | true =>
   rw [hp,cond_true] at hD
   split at hD
   · rename_i vals hvals
     rw [Zak,Option.some.injEq,Out.fin.injEq] at hD
     obtain ⟨rfl,rfl⟩:=hD
     unfold ZAY at hvals
     dsimp only at hvals
     obtain ⟨hb,hvals⟩:=ZaK hvals
     simp only [Option.some.injEq] at hvals
     rw [hvals] at hb
     rw [Bool.and_eq_true] at hb
     have hc3:=hb.2
     unfold chk at hc3
     simp only [Bool.and_eq_true] at hc3
     have hc4:=hc3.1.1.1.2
     rw [List.all_eq_true] at hc4
     have hoss:∀ b,b∈((ZnM ⟨[a.res],a.locs,a.va⟩ { st with slots:=[v] } ((Zn1 0 n).map some++List.replicate a.n none,(List.range m).map some++List.replicate (a.locs.length-m) none)).2.drop m).map (fun b=>E.ω.getD b 0)→b∈E.ω:=by
      intro b hbb
      obtain ⟨x,hx,rfl⟩:=List.mem_map.1 hbb
      have hlt:x<E.ω.length:=by rw [h.lo];simpa using hc4 x (List.mem_append_right _ hx)
      rw [List.getD_eq_getElem?_getD,List.getElem?_eq_getElem hlt]
      exact List.getElem_mem hlt
     have hS:=(h.slots (ss:=[v]) (vs:=[w]) ⟨rfl,fun j s x h1 h2=>by
      cases j with
      | zero=>simp at h1 h2;subst h1;subst h2;exact hv
      | succ j=>simp at h1⟩).ren hb.2
     obtain ⟨h1,h2,h3⟩:=ZtN E0 E hle hl
     unfold SE.ren at hS
     rw [List.map_append,List.map_append,List.map_append,hn,hm,h1,h2,h3,←Zqg] at hS
     exact ⟨a,_,_,Nat.le_refl _,by rw [Nat.sub_self];rfl,by simpa using hp,by rw [List.length_map];exact Nat.eq_of_beq_eq_true hb.1,hS,fun b hb'=>hoss b (by rw [hn,hm];exact hb')⟩
   · exact next hD
theorem ZxL (hF:CfgOK P cfg ext F) (hK0:cfg.K=[]) {s:Sig} (hx:∀ args H,ext s.f args H=none):Zkk cfg.T (Zaw P ext) s fun ρ=>Zdd (Zak cfg.T F L (Zbr cfg s) ρ):=by
 intro C E args H k out hC hKK hH hP h hD
 have hCC:CC C cfg:=⟨hC,hKK.trans hK0.symm⟩
 have hD':Zak cfg.T F L (Zbr cfg s) E.ρ=some (.fin k out):=by
  unfold Zdd at hD
  dsimp only at hD
  split at hD
  · rename_i k' v' hh
    simp only [Option.some.injEq,Prod.mk.injEq] at hD
    obtain ⟨rfl,rfl⟩:=hD
    exact hh
  · cases hD
 clear hD
 unfold Zbr at hD'
 split at hD'
 case h_2=>simp [Zak] at hD'
 rename_i fn hfn
 split at hD'
 case h_2=>simp [Zak] at hD'
 rename_i c hc
 obtain ⟨hb,hD⟩:=ZaA hD'
 clear hD'
 have hle:s.args.length≤fn.ntmps:=Nat.le_of_ble_eq_true hb
 rw [ZdN (hx args H) (hF.tab.func _ _ hfn) hc]
 have hst:=ZeF (st:=⟨s.args,s.locs,s.va⟩) (args:=s.args) (vals:=args) fn.ntmps h h.tm
 refine ZiA 400 hF C (cfg.unr s.f) c _ E _ H [] [] (.fin k out) (fun z=>∃ (a:Alt) (ws:List Value) (os:List Nat) (v:Value) (H':AHeap),s.outs[k]?=some a∧out.length=a.n∧Zb6 P (Zap P ext false) fn.results.toList z=some (ZoW a.pan v,H') ∧
     SRel C ⟨E.ρ++out,E.w++ws,E.ω++os⟩ ⟨[a.res],a.locs,a.va⟩ [v] H'∧∀ b,b∈os→H.next≤b) _ hCC hst trivial ?_ hD
 intro x ax st' E' tm' H' df' dfs' hR hle' hkp hx hd' hD
 have hnew:∀ {E2:SE} {H0:AHeap} (os:List Nat) {ρ:List D} {w:List Value} {st2:SS} {tm2:List Value} {H2:AHeap} {va2:List VA},Kp E s.va H E2 va2 H0→SRel C ⟨ρ,w,E.ω++os⟩ st2 tm2 H2→(∀ b,b∈os→b∈E2.ω)→∀ b,b∈os→H.next≤b:=by
  intro E2 H0 os ρ w st2 tm2 H2 va2 hkp h5 h6 b hb
  refine (hkp.om b (h6 b hb)).resolve_left fun h7=>?_
  have:=h5.nd
  rw [List.nodup_append] at this
  exact this.2.2 b h7 b hb rfl
 refine Zlj (R:=fun z=>∃ (a:Alt) (ws:List Value) (os:List Nat) (v:Value) (H':AHeap),s.outs[k]?=some a∧out.length=a.n∧z=some (ZoW a.pan v,H') ∧
     SRel C ⟨E.ρ++out,E.w++ws,E.ω++os⟩ ⟨[a.res],a.locs,a.va⟩ [v] H'∧∀ b,b∈os→H.next≤b) hCC hF (ZiA 399 hF) hR hx hd' ?_ ?_ hD
 · intro v st2 E2 H2 b1 b2 b3 b4 hD
   obtain ⟨a,ws,os,_,h2,h3,h4,h5,h6⟩:=Zn5 b1 (hle'.trans b2) h.lw (v:=v) (w:=v.den E2) (.inr ⟨b4,rfl⟩) h.la h.lo.symm s.outs 0 hD
   exact ⟨a,ws,os,_,H2,by simpa using h2,h4,by unfold ZoW;rw [h3];rfl,h5,hnew os (hkp.trans b3) h5 h6⟩
 · intro v w st2 E2 H2 b1 b2 b3 b4 hD
   obtain ⟨a,ws,os,_,h2,h3,h4,h5,h6⟩:=Zn5 b1 (hle'.trans b2) h.lw b4 h.la h.lo.symm s.outs 0 hD
   exact ⟨a,ws,os,_,H2,by simpa using h2,h4,by unfold ZoW;rw [h3];rfl,h5,hnew os (hkp.trans b3) h5 h6⟩
end
structure Prg where
 T:Tabs
 eng:List (Nat×Sig)
 hnd:List (Nat×Sig)
 inl:FuncId→Bool
 unr:FuncId→Nat
 eqT:TypeId→Bool
def ZwV (l:List (Nat×Sig)) (f:FuncId):List (Nat×Sig):=l.filter fun p=>Nat.beq p.2.f f
def Prg.cfg (p:Prg):Cfg:=⟨p.T,fun f=>ZwV p.eng f++ZwV p.hnd f,p.inl,p.unr,p.eqT,[]⟩
def Zam:List (Nat×Sig)→Nat→Option Sig
 | [],_=>none
 | p::l,j=>bif Nat.beq p.1 j then some p.2 else Zam l j
def M (p:Prg) (hand:Nat→List D→Option (Nat×List D)):Nat→Nat→List D→Option (Nat×List D)
 | 0,j,ρ=>match Zam p.eng j with
  | some _=>none
  | none=>hand j ρ
 | n+1,j,ρ=>match Zam p.eng j with
  | some s=>Zdd (Zak p.T (M p hand n) n (Zbr p.cfg s) ρ)
  | none=>hand j ρ
structure PrgOK (P:Program) (p:Prg) (ext:CallT) (hand:Nat→List D→Option (Nat×List D)):Prop where
 tab:TabOK P p.T
 ent:∀ f fn,p.T.func f=some fn→ZcP P f=true
 inl:∀ g,p.inl g=true→∀ args H,ext g args H=none
 eqT:∀ t,p.eqT t=true→EqT P t
 rnd:∀ K args H,ext (P.funcs.size+K) args H=none
 eng:∀ j s,(j,s)∈p.eng→Zam p.eng j=some s∧∀ args H,ext s.f args H=none
 hnd:∀ j s,(j,s)∈p.hnd→Zam p.eng j=none∧Zkk p.T (Zaw P ext) s (hand j)
theorem ZEW {P:Program} {ext:CallT} {p:Prg} {hand:Nat→List D→Option (Nat×List D)} (h:PrgOK P p ext hand):∀ n j s,(j,s)∈p.eng++p.hnd→Zkk p.T (Zaw P ext) s (M p hand n j)
 | 0,j,s,hs=>by
  rcases List.mem_append.1 hs with hs | hs
  · intro C E args H k out _ _ _ _ _ hD
    simp only [M,(h.eng j s hs).1] at hD
    cases hD
  · have:M p hand 0 j=hand j:=by funext ρ;simp only [M,(h.hnd j s hs).1]
    rw [this];exact (h.hnd j s hs).2
 | n+1,j,s,hs=>by
  rcases List.mem_append.1 hs with hs | hs
  · have:M p hand (n+1) j=fun ρ=>Zdd (Zak p.T (M p hand n) n (Zbr p.cfg s) ρ):=by funext ρ;simp only [M,(h.eng j s hs).1]
    rw [this]
    refine ZxL (cfg:=p.cfg) ⟨h.tab,h.ent,fun f j' s' hm=>?_,h.inl,h.eqT,h.rnd⟩ rfl (h.eng j s hs).2
    rcases List.mem_append.1 hm with hm | hm
    · obtain ⟨h1,h2⟩:=List.mem_filter.1 hm
      exact ⟨Nat.eq_of_beq_eq_true h2,ZEW h n j' s' (List.mem_append_left _ h1)⟩
    · obtain ⟨h1,h2⟩:=List.mem_filter.1 hm
      exact ⟨Nat.eq_of_beq_eq_true h2,ZEW h n j' s' (List.mem_append_right _ h1)⟩
  · have:M p hand (n+1) j=hand j:=by funext ρ;simp only [M,(h.hnd j s hs).1]
    rw [this];exact (h.hnd j s hs).2
end
section
open Go B
abbrev Zd3:=Nat→List D→Option (Nat×List D)
noncomputable def ZbJ (f:List D→Option Out) (v:List D):Option Out:=lim fun n=>Zgr f n v
theorem ZeB (f:List D→Option Out):∀ n m v r,n≤m→Zgr f n v=some r→Zgr f m v=some r
 | 0,_,_,_,_,h=>by simp [Zgr] at h
 | n+1,0,_,_,hm,_=>by omega
 | n+1,m+1,v,r,hm,h=>by
  unfold Zgr at h ⊢
  split at h
  · exact ZeB f n m _ r (by omega) h
  · exact h
  · cases h
theorem Zd9 {f:List D→Option Out} {v:List D} {r:Out}:ZbJ f v=some r↔∃ n,Zgr f n v=some r:=ZiK fun n m r h g=>ZeB f n m v r h g
theorem ZbF (f:List D→Option Out) (v:List D):ZbJ f v=match f v with
    | some (.again v')=>ZbJ f v'
    | some (.done o)=>some o
    | _=>none:=by
 refine Zc6 fun r=>?_
 rw [Zd9]
 constructor
 · rintro ⟨n,hn⟩
   cases n with
   | zero=>simp [Zgr] at hn
   | succ n =>
    unfold Zgr at hn
    split at hn
    · rename_i v' hv;rw [hv];exact Zd9.2 ⟨n,hn⟩
    · rename_i o ho;rw [ho];exact hn
    · cases hn
 · intro h
   split at h
   · rename_i v' hv
     obtain ⟨n,hn⟩:=Zd9.1 h
     exact ⟨n+1,by unfold Zgr;rw [hv];exact hn⟩
   · rename_i o ho
     exact ⟨1,by unfold Zgr;rw [ho];exact h⟩
   · cases h
noncomputable def Zad (T:Tabs) (F:Zd3):FT→List D→Option Out
 | .fin k vs,δ=>some (.fin k (vs.map (dv δ)))
 | .again vs,δ=>some (.again (vs.map (dv δ)))
 | .out k,δ=>(Zad T F k δ).map .done
 | .bin op t a b k,δ=>(ZeI T op t (dv δ a) (dv δ b)).bind fun d=>Zad T F k (δ++[d])
 | .nilq b a k,δ=>(Zzc b (dv δ a)).bind fun d=>Zad T F k (δ++[d])
 | .un op a k,δ=>(unD op (dv δ a)).bind fun d=>Zad T F k (δ++[d])
 | .conv s t a k,δ=>(Zrs T s t (dv δ a)).bind fun d=>Zad T F k (δ++[d])
 | .len str a k,δ=>(ZcN str (dv δ a)).bind fun d=>Zad T F k (δ++[d])
 | .sidx t a i k,δ=>(Zkp T t (dv δ a) (dv δ i)).bind fun d=>Zad T F k (δ++[d])
 | .ssl _ a lo hi k,δ=>(Zx4 (dv δ a) (lo.map (dv δ)) (hi.map (dv δ))).bind fun d=>Zad T F k (δ++[d])
 | .lsl e a lo hi k,δ=>(Zkv e (dv δ a) (lo.map (dv δ)) (hi.map (dv δ))).bind fun d=>Zad T F k (δ++[d])
 | .bnd e a i k,δ=>bif Zcp e (dv δ a) (dv δ i) then Zad T F k δ else none
 | .ld e a ix o fl k,δ=>(ldD e (δ.getD a (.ag [])) (ixD δ ix) o fl).bind fun ds=>Zad T F k (δ++ds)
 | .mk e ag els k,δ=>Zad T F k (δ++[.sl e (els.map fun cs=>Zf0 ag (cs.map (dv δ))) []])
 | .app t a b k,δ=>(ZAP T t (dv δ a) (dv δ b)).bind fun d=>Zad T F k (δ++[d])
 | .upd e a ix o ag vs k,δ=>(ZC8 e (δ.getD a (.ag [])) (ixD δ ix) o ag (vs.map (dv δ))).bind fun d=>Zad T F k (δ++[d])
 | .eqs t neg l m k,δ=>(ZEE T t (l.map (dv δ)) (m.map (dv δ))).bind fun b=>Zad T F k (δ++[.v (.bool (neg != b))])
 | .min a b k,δ=>(ZAJ (dv δ a) (dv δ b)).bind fun d=>Zad T F k (δ++[d])
 | .mnew k,δ=>Zad T F k (δ++[.me []])
 | .mget kt z x ag keys k,δ=>(Zzm T kt z (δ.getD x (.ag [])) (ZAL ag (keys.map (dv δ)))).bind fun ds=>Zad T F k (δ++ds)
 | .mput kt x ag keys v k,δ=>(Zzi T kt (δ.getD x (.ag [])) (ZAL ag (keys.map (dv δ))) (dv δ v)).bind fun d=>Zad T F k (δ++[d])
 | .call j vs k1 k2 k3,δ=>(F j (vs.map (dv δ))).bind fun r=>match r.1 with
  | 0=>Zad T F k1 (δ++r.2)
  | 1=>Zad T F k2 (δ++r.2)
  | 2=>Zad T F k3 (δ++r.2)
  | _=>none
 | .br a k1 k2,δ=>brD (dv δ a) (Zad T F k1 δ) (Zad T F k2 δ)
 | .loop vs body,δ=>ZbJ (fun v=>Zad T F body (δ++v)) (vs.map (dv δ))
 | .probe _,_=>none
 | .stop _,_=>none
def Zd3.le (F F':Zd3):Prop:=∀ j ρ r,F j ρ=some r→F' j ρ=some r
theorem ZlO {f g:List D→Option Out} (h:∀ v r,f v=some r→g v=some r):∀ n v r,Zgr f n v=some r→Zgr g n v=some r
 | 0,_,_,hr=>by simp [Zgr] at hr
 | n+1,v,r,hr=>by
  unfold Zgr at hr ⊢
  split at hr
  · rename_i v' hv;rw [h _ _ hv];exact ZlO h n _ _ hr
  · rename_i o ho;rw [h _ _ ho];exact hr
  · cases hr
theorem ZuQ {α:Type} {x:D} {a b a' b':Option α} {r:α} (ha:a=some r→a'=some r) (hb:b=some r→b'=some r) (h:brD x a b=some r):brD x a' b'=some r:=by
 rcases Zqj h with ⟨rfl,h1⟩ | ⟨rfl,h1⟩
 · exact ha h1
 · exact hb h1
section
variable {T:Tabs}
theorem ZuC {F F':Zd3} (hF:Zd3.le F F') {L L':Nat} (hL:L≤L'):∀ (t:FT) (δ:List D) (o:Out),Zak T F L t δ=some o→Zak T F' L' t δ=some o:=by
 intro t
 induction t with
 | out k ih =>
  intro δ o h
  rw [Zak] at h ⊢
  obtain ⟨o',h1,rfl⟩:=Option.map_eq_some_iff.1 h
  rw [ih _ _ h1];rfl
 | bnd e a i k ih =>
  intro δ o h
  rw [Zak] at h ⊢
  obtain ⟨h1,h2⟩:=ZaK h
  rw [h1,cond_true];exact ih _ _ h2
 | mk e ag els k ih=>intro δ o h;rw [Zak] at h ⊢;exact ih _ _ h
 | mnew k ih=>intro δ o h;rw [Zak] at h ⊢;exact ih _ _ h
 | call j vs k1 k2 k3 ih1 ih2 ih3 =>
  intro δ o h
  rw [Zak,Option.bind_eq_some_iff] at h
  obtain ⟨r,h1,h2⟩:=h
  rw [Zak,hF _ _ _ h1]
  show (match r.1 with | 0=>_ | 1=>_ | 2=>_ | _=>_)=_
  split at h2
  · rename_i hr;rw [hr];exact ih1 _ _ h2
  · rename_i hr;rw [hr];exact ih2 _ _ h2
  · rename_i hr;rw [hr];exact ih3 _ _ h2
  · cases h2
 | br a k1 k2 ih1 ih2=>intro δ o h;rw [Zak] at h ⊢;exact ZuQ (ih1 _ _) (ih2 _ _) h
 | loop vs body ih =>
  intro δ o h
  rw [Zak] at h ⊢
  exact ZeB _ _ _ _ _ hL (ZlO (fun v r hv=>ih _ _ hv) _ _ _ h)
 | fin=>intro δ o h;exact h
 | again=>intro δ o h;exact h
 | probe=>intro δ o h;exact h
 | stop=>intro δ o h;exact h
 | _ =>
  rename_i ih
  intro δ o h
  rw [Zak,Option.bind_eq_some_iff] at h
  obtain ⟨d,h1,h2⟩:=h
  rw [Zak,h1]
  exact ih _ _ h2
theorem Zwi {F F':Zd3} (hF:Zd3.le F F') {L:Nat}:∀ (t:FT) (δ:List D) (o:Out),Zak T F L t δ=some o→Zad T F' t δ=some o:=by
 intro t
 induction t with
 | out k ih =>
  intro δ o h
  rw [Zak] at h
  rw [Zad]
  obtain ⟨o',h1,rfl⟩:=Option.map_eq_some_iff.1 h
  rw [ih _ _ h1];rfl
 | bnd e a i k ih =>
  intro δ o h
  rw [Zak] at h
  rw [Zad]
  obtain ⟨h1,h2⟩:=ZaK h
  rw [h1,cond_true];exact ih _ _ h2
 | mk e ag els k ih=>intro δ o h;rw [Zak] at h;rw [Zad];exact ih _ _ h
 | mnew k ih=>intro δ o h;rw [Zak] at h;rw [Zad];exact ih _ _ h
 | call j vs k1 k2 k3 ih1 ih2 ih3 =>
  intro δ o h
  rw [Zak,Option.bind_eq_some_iff] at h
  obtain ⟨r,h1,h2⟩:=h
  rw [Zad,hF _ _ _ h1]
  show (match r.1 with | 0=>_ | 1=>_ | 2=>_ | _=>_)=_
  split at h2
  · rename_i hr;rw [hr];exact ih1 _ _ h2
  · rename_i hr;rw [hr];exact ih2 _ _ h2
  · rename_i hr;rw [hr];exact ih3 _ _ h2
  · cases h2
 | br a k1 k2 ih1 ih2=>intro δ o h;rw [Zak] at h;rw [Zad];exact ZuQ (ih1 _ _) (ih2 _ _) h
 | loop vs body ih =>
  intro δ o h
  rw [Zak] at h
  rw [Zad]
  exact Zd9.2 ⟨L,ZlO (fun v r hv=>ih _ _ hv) _ _ _ h⟩
 | fin=>intro δ o h;rw [Zak] at h;rw [Zad];exact h
 | again=>intro δ o h;rw [Zak] at h;rw [Zad];exact h
 | probe=>intro δ o h;rw [Zak] at h;cases h
 | stop=>intro δ o h;rw [Zak] at h;cases h
 | _ =>
  rename_i ih
  intro δ o h
  rw [Zak,Option.bind_eq_some_iff] at h
  obtain ⟨d,h1,h2⟩:=h
  rw [Zad,h1]
  exact ih _ _ h2
def ZAs (M:Nat→Zd3):Prop:=∀ n m,n≤m→Zd3.le (M n) (M m)
noncomputable def ZEg (M:Nat→Zd3):Zd3:=fun j ρ=>lim fun n=>M n j ρ
theorem ZcD {M:Nat→Zd3} (h:ZAs M) {j:Nat} {ρ:List D} {r:Nat×List D}:ZEg M j ρ=some r↔∃ n,M n j ρ=some r:=ZiK fun n m r hn hr=>h n m hn j ρ r hr
theorem ZpT {f:List D→Option Out} {g:Nat→List D→Option Out} (hm:∀ n m v r,n≤m→g n v=some r→g m v=some r) (hg:∀ v r,f v=some r→∃ n,g n v=some r):∀ N v r,Zgr f N v=some r→∃ n,∀ m,n≤m→Zgr (g m) N v=some r
 | 0,_,_,h=>by simp [Zgr] at h
 | N+1,v,r,h=>by
  unfold Zgr at h
  split at h
  · rename_i v' hv
    obtain ⟨n1,h1⟩:=hg _ _ hv
    obtain ⟨n2,h2⟩:=ZpT hm hg N _ _ h
    refine ⟨max n1 n2,fun m hmm=>?_⟩
    unfold Zgr
    rw [hm n1 m _ _ (by omega) h1]
    exact h2 m (by omega)
  · rename_i o ho
    obtain ⟨n1,h1⟩:=hg _ _ ho
    refine ⟨n1,fun m hmm=>?_⟩
    unfold Zgr
    rw [hm n1 m _ _ hmm h1];exact h
  · cases h
theorem Zrr {M:Nat→Zd3} (hM:ZAs M):∀ (t:FT) (δ:List D) (o:Out),Zad T (ZEg M) t δ=some o→∃ n,Zak T (M n) n t δ=some o:=by
 have up:∀ {t:FT} {δ:List D} {o:Out} {n m:Nat},n≤m→Zak T (M n) n t δ=some o→Zak T (M m) m t δ=some o:=fun h1 h2=>ZuC (hM _ _ h1) h1 _ _ _ h2
 intro t
 induction t with
 | out k ih =>
  intro δ o h
  rw [Zad] at h
  obtain ⟨o',h1,rfl⟩:=Option.map_eq_some_iff.1 h
  obtain ⟨n,hn⟩:=ih _ _ h1
  exact ⟨n,by rw [Zak,hn];rfl⟩
 | bnd e a i k ih =>
  intro δ o h
  rw [Zad] at h
  obtain ⟨h1,h2⟩:=ZaK h
  obtain ⟨n,hn⟩:=ih _ _ h2
  exact ⟨n,by rw [Zak,h1,cond_true];exact hn⟩
 | mk e ag els k ih=>intro δ o h;rw [Zad] at h;obtain ⟨n,hn⟩:=ih _ _ h;exact ⟨n,by rw [Zak];exact hn⟩
 | mnew k ih=>intro δ o h;rw [Zad] at h;obtain ⟨n,hn⟩:=ih _ _ h;exact ⟨n,by rw [Zak];exact hn⟩
 | call j vs k1 k2 k3 ih1 ih2 ih3 =>
  intro δ o h
  rw [Zad,Option.bind_eq_some_iff] at h
  obtain ⟨r,h1,h2⟩:=h
  obtain ⟨n1,hn1⟩:=(ZcD hM).1 h1
  have fin:∀ {k:FT},(∃ n,Zak T (M n) n k (δ++r.2)=some o)→∃ m,M m j (vs.map (dv δ))=some r∧Zak T (M m) m k (δ++r.2)=some o:=by
   rintro k ⟨n2,hn2⟩
   exact ⟨max n1 n2,hM _ _ (by omega) _ _ _ hn1,up (by omega) hn2⟩
  split at h2
  · rename_i hr;obtain ⟨m,g1,g2⟩:=fin (ih1 _ _ h2);exact ⟨m,by rw [Zak,g1];show (match r.1 with | 0=>_ | 1=>_ | 2=>_ | _=>_)=_;rw [hr];exact g2⟩
  · rename_i hr;obtain ⟨m,g1,g2⟩:=fin (ih2 _ _ h2);exact ⟨m,by rw [Zak,g1];show (match r.1 with | 0=>_ | 1=>_ | 2=>_ | _=>_)=_;rw [hr];exact g2⟩
  · rename_i hr;obtain ⟨m,g1,g2⟩:=fin (ih3 _ _ h2);exact ⟨m,by rw [Zak,g1];show (match r.1 with | 0=>_ | 1=>_ | 2=>_ | _=>_)=_;rw [hr];exact g2⟩
  · cases h2
 | br a k1 k2 ih1 ih2 =>
  intro δ o h
  rw [Zad] at h
  rcases Zqj h with ⟨h1,h2⟩ | ⟨h1,h2⟩
  · obtain ⟨n,hn⟩:=ih1 _ _ h2;exact ⟨n,by rw [Zak,h1];exact hn⟩
  · obtain ⟨n,hn⟩:=ih2 _ _ h2;exact ⟨n,by rw [Zak,h1];exact hn⟩
 | loop vs body ih =>
  intro δ o h
  rw [Zad] at h
  obtain ⟨N,hN⟩:=Zd9.1 h
  obtain ⟨n,hn⟩:=ZpT (g:=fun n v=>Zak T (M n) n body (δ++v)) (fun n m v r h1 h2=>up h1 h2) (fun v r hv=>ih _ _ hv) N _ _ hN
  refine ⟨max n N,?_⟩
  rw [Zak]
  exact ZeB _ _ _ _ _ (by omega) (hn (max n N) (by omega))
 | fin=>intro δ o h;exact ⟨0,by rw [Zad] at h;rw [Zak];exact h⟩
 | again=>intro δ o h;exact ⟨0,by rw [Zad] at h;rw [Zak];exact h⟩
 | probe=>intro δ o h;rw [Zad] at h;cases h
 | stop=>intro δ o h;rw [Zad] at h;cases h
 | _ =>
  rename_i ih
  intro δ o h
  rw [Zad,Option.bind_eq_some_iff] at h
  obtain ⟨d,h1,h2⟩:=h
  obtain ⟨n,hn⟩:=ih _ _ h2
  exact ⟨n,by rw [Zak,h1];exact hn⟩
end
theorem ZdB {x:Option Out} {r:Nat×List D}:Zdd x=some r↔x=some (.fin r.1 r.2):=by
 unfold Zdd
 constructor
 · intro h
   split at h
   · simp only [Option.some.injEq] at h;subst h;rfl
   · cases h
 · intro h;rw [h]
theorem Zhq (p:Prg) (hand:Zd3):ZAs (M p hand):=by
 have step:∀ n,Zd3.le (M p hand n) (M p hand (n+1)):=by
  intro n
  induction n with
  | zero =>
   intro j ρ r h
   unfold M at h ⊢
   split at h
   · cases h
   · exact h
  | succ n ih =>
   intro j ρ r h
   unfold M at h ⊢
   split at h
   · exact ZdB.2 (ZuC ih (Nat.le_succ n) _ _ _ (ZdB.1 h))
   · exact h
 intro n m hm
 induction hm with
 | refl=>exact fun _ _ _ h=>h
 | step _ ih=>exact fun j ρ r h=>step _ _ _ _ (ih j ρ r h)
noncomputable def ML (p:Prg) (hand:Zd3):Zd3:=ZEg (M p hand)
theorem ZEZ {p:Prg} {hand:Zd3} {j:Nat} {s:Sig} (hs:Zam p.eng j=some s) (ρ:List D):ML p hand j ρ=Zdd (Zad p.T (ML p hand) (Zbr p.cfg s) ρ):=by
 refine Zc6 fun r=>?_
 rw [ZdB]
 constructor
 · intro h
   obtain ⟨n,hn⟩:=(ZcD (Zhq p hand)).1 h
   cases n with
   | zero=>simp [M,hs] at hn
   | succ n =>
    unfold M at hn
    rw [hs] at hn
    exact Zwi (fun j ρ r h=>(ZcD (Zhq p hand)).2 ⟨n,h⟩) _ _ _ (ZdB.1 hn)
 · intro h
   obtain ⟨n,hn⟩:=Zrr (Zhq p hand) _ _ _ h
   refine (ZcD (Zhq p hand)).2 ⟨n+1,?_⟩
   unfold M
   rw [hs]
   exact ZdB.2 hn
theorem ZAu {p:Prg} {hand:Zd3} {j:Nat} (hs:Zam p.eng j=none) (ρ:List D):ML p hand j ρ=hand j ρ:=by
 refine Zc6 fun r=>?_
 have:∀ n,M p hand n j ρ=hand j ρ:=by intro n;cases n<;>simp only [M,hs]
 constructor
 · intro h
   obtain ⟨n,hn⟩:=(ZcD (Zhq p hand)).1 h
   rw [←this n];exact hn
 · intro h
   exact (ZcD (Zhq p hand)).2 ⟨0,by rw [this];exact h⟩
theorem ZEY {P:Program} {ext:CallT} {p:Prg} {hand:Zd3} (h:PrgOK P p ext hand) {j:Nat} {s:Sig} (hs:(j,s)∈p.eng++p.hnd):Zkk p.T (Zaw P ext) s (ML p hand j):=by
 intro C E args H k out h1 h0 h2 h3 h4 h5
 obtain ⟨n,hn⟩:=(ZcD (Zhq p hand)).1 h5
 exact ZEW h n j s hs C E args H k out h1 h0 h2 h3 h4 hn
end
end X
end Go.Proofs.YtmocfnfnhgognaaGreat
