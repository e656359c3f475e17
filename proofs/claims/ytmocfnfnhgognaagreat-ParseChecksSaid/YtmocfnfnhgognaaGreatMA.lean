/-
  Lists, trees, names, numbers, types, expressions.
-/
import Derived.Test.YtmocfnfnhgognaaGreatMF
import Derived.ProofKit
import Derived.ChangeMaps5
import Derived.Test.YtmocfnfnhgognaaGreatMX2
import Derived.Test.YtmocfnfnhgognaaGreatMT
namespace Go.Proofs.YtmocfnfnhgognaaGreat
namespace X
section
open Go Go.Proofs B Go.ChangeShapes Go.WideShapes Go.ChangeAt Go.RowKit Go.ChangeMaps
abbrev dI (k:IntKind) (n:Int):D:=.v (.int k n)
abbrev dB (b:Bool):D:=.v (.bool b)
abbrev dS (s:ByteArray):D:=.v (.string s)
theorem ZaR (a b:Int):ZeI theTabs .eql 5 (.v (.int .u8 a)) (.v (.int .u8 b))=some (.v (.bool (decide (a=b)))):=by kernel_rfl
theorem ZhR (a b:Int):ZeI theTabs .neq 5 (.v (.int .u8 a)) (.v (.int .u8 b))=some (.v (.bool (!decide (a=b)))):=by kernel_rfl
theorem ZdG (a b:Int):ZeI theTabs .eql 3 (.v (.int .i64 a)) (.v (.int .i64 b))=some (.v (.bool (decide (a=b)))):=by kernel_rfl
theorem ZgB (a b:Int):ZeI theTabs .neq 3 (.v (.int .i64 a)) (.v (.int .i64 b))=some (.v (.bool (!decide (a=b)))):=by kernel_rfl
theorem Zlg (a b:Int):ZeI theTabs .lss 3 (.v (.int .i64 a)) (.v (.int .i64 b))=some (.v (.bool (decide (a<b)))):=by kernel_rfl
theorem ZxJ (a b:Int):ZeI theTabs .leq 3 (.v (.int .i64 a)) (.v (.int .i64 b))=some (.v (.bool (decide (a≤b)))):=by kernel_rfl
theorem ZrE (a b:Int):ZeI theTabs .geq 3 (.v (.int .i64 a)) (.v (.int .i64 b))=some (.v (.bool (decide (a≥b)))):=by kernel_rfl
theorem ZrD (a b:Int):ZeI theTabs .gtr 3 (.v (.int .i64 a)) (.v (.int .i64 b))=some (.v (.bool (decide (a > b)))):=by kernel_rfl
theorem ZCA {a b:Int} {w:Int} (h:IntKind.wrap .i64 (a+b)=w):ZeI theTabs .add 3 (.v (.int .i64 a)) (.v (.int .i64 b))=some (.v (.int .i64 w)):=by rw [←h];kernel_rfl
theorem ZuZ {a b:Int} {w:Int} (h:IntKind.wrap .i64 (a-b)=w):ZeI theTabs .sub 3 (.v (.int .i64 a)) (.v (.int .i64 b))=some (.v (.int .i64 w)):=by rw [←h];kernel_rfl
theorem Zca (s u:ByteArray):ZeI theTabs .eql 9 (.v (.string s)) (.v (.string u))=some (.v (.bool (Zax s u))):=by kernel_rfl
theorem Zww (s u:ByteArray):ZeI theTabs .neq 9 (.v (.string s)) (.v (.string u))=some (.v (.bool (!Zax s u))):=by kernel_rfl
theorem ZcM (p:Bool):unD .not (.v (.bool p))=some (.v (.bool (!p))):=by kernel_rfl
theorem brB {α:Type} (p:Bool) (a b:Option α):brD (.v (.bool p)) a b=if p then a else b:=by cases p<;>rfl
theorem ZAI (k k':IntKind) (a b:Int):ZAJ (.v (.int k a)) (.v (.int k' b))=some (.v (.int k (if b<a then b else a))):=rfl
theorem ZpS (s:ByteArray):ZcN true (.v (.string s))=some (.v (.int .i64 s.data.toList.length)):=rfl
theorem wrap_i64 {n:Int} (h0:-9223372036854775808≤n) (h1:n<9223372036854775808):IntKind.wrap .i64 n=n:=IntWalk.i64_in _ (by omega)
def Zav (e:Nat):Option (List D)→List D→D
 | none,[]=>.v (.slice none 0 0)
 | none,d::l=>.sl e (d::l) []
 | some x,l=>.sl e l x
inductive KG (e:Nat):List D→D→Prop
 | nil:KG e [] (.v (.slice none 0 0))
 | sl (l x:List D):KG e l (.sl e l x)
theorem Zar (e:Nat) (sp:Option (List D)) (l:List D):KG e l (Zav e sp l):=by
 cases sp with
 | some x=>exact .sl l x
 | none=>cases l with
  | nil=>exact .nil
  | cons t l=>exact .sl _ _
section
variable {e:Nat} {l:List D} {d:D}
theorem ZEh (h:KG e l d):ZcN false d=some (.v (.int .i64 l.length)):=by cases h<;>rfl
theorem ZFH (h:KG e l d) {i:Nat} (hi:i<l.length):Zcp e d (.v (.int .i64 (i:Int)))=true:=by
 cases h with
 | nil=>simp at hi
 | sl l x=>show (Nat.beq e e&&Nat.blt i l.length)=true;simp [Nat.blt];omega
theorem ldG (h:KG e l d) {i:Nat} {c:D} (hc:l[i]?=some c) {o:Nat} {fl:List Bool} {r:List D} (hr:(c.cells.drop o).take fl.length=r) (hf:ZrA fl r=true):ldD e d i o fl=some r:=by
 subst hr
 cases h with
 | nil=>simp at hc
 | sl l x=>unfold ldD;dsimp only;rw [hc];dsimp only;rw [hf];simp
theorem ZEf {x:List D} {n:Nat} (h:n≤(l++x).length):Zkv e (.sl e l x) none (some (.v (.int .i64 (n:Int))))=some (.sl e ((l++x).take n) ((l++x).drop n)):=by
 unfold Zkv
 dsimp only [Zde,Option.bind_some,ZvN]
 rw [if_pos (by omega)]
 dsimp only [Option.bind_some]
 rw [Int.toNat_natCast]
 have h1:(Nat.beq e e&&Nat.ble 0 n&&Nat.ble n (l++x).length)=true:=by simp [Nat.ble_eq] at *;omega
 rw [h1,cond_true];simp
end
theorem ZGN {t e:Nat} {i:TypeInfo} (hs:ZaD theTabs t=some (i,e)) {l m:List D} {d:D} (h:d=.sl e l []∨d=.v (.slice none 0 0)∧l=[]) {x:List D} (hm:m≠[]) (hb:(l.length+m.length)*i.bytes≤Zbx) (hn:l.length+m.length≤9223372036854775807) :
    ZAP theTabs t d (.sl e m x)=some (.sl e (l++m) []):=by
 cases m with
 | nil=>exact absurd rfl hm
 | cons c m =>
 unfold ZAP
 rw [hs]
 rcases h with rfl | ⟨rfl,rfl⟩
 · have h1:(Nat.beq e e&&Nat.beq e e&&Nat.ble (l.length+(c::m).length) 9223372036854775807&&Nat.ble ((l.length+(c::m).length)*i.bytes) Zbx)=true:=by
    rw [Nat.ble_eq_true_of_le hn,Nat.ble_eq_true_of_le hb];simp
   show cond (Nat.beq e e&&Nat.beq e e&&Nat.ble (l.length+(c::m).length) 9223372036854775807&&Nat.ble ((l.length+(c::m).length)*i.bytes) Zbx) (some (D.sl e (l++(c::m)) [])) none=_
   rw [h1];rfl
 · have h1:(Nat.beq e e&&Nat.ble (c::m).length 9223372036854775807&&Nat.ble ((c::m).length*i.bytes) Zbx)=true:=by
    rw [Nat.ble_eq_true_of_le (by simpa using hn),Nat.ble_eq_true_of_le (by simpa using hb)];simp
   show cond (Nat.beq e e&&Nat.ble (c::m).length 9223372036854775807&&Nat.ble ((c::m).length*i.bytes) Zbx) (some (D.sl e (c::m) [])) none=_
   rw [h1];rfl
def Zu9 (e:Nat):List D→D
 | []=>.v (.slice none 0 0)
 | d::l=>.sl e (d::l) []
theorem ZyG (e:Nat) (l:List D):Zu9 e l=.sl e l []∨Zu9 e l=.v (.slice none 0 0)∧l=[]:=by cases l;exact .inr ⟨rfl,rfl⟩;exact .inl rfl
theorem Ztq {e:Nat} {l:List D} (h:l≠[]):Zu9 e l=.sl e l []:=by cases l;exact absurd rfl h;rfl
def szE (t e b:Nat):Prop:=(ZaD theTabs t).map (fun x=>(x.1.bytes,x.2))=some (b,e)
theorem Zu2 {t e b:Nat} (hs:szE t e b) {l m x:List D} (hm:m≠[]) (hb:(l.length+m.length)*b≤140737488355328) (hn:l.length+m.length≤9223372036854775807):ZAP theTabs t (Zu9 e l) (.sl e m x)=some (.sl e (l++m) []):=by
 obtain ⟨⟨i,e'⟩,h1,h2⟩:=Option.map_eq_some_iff.1 hs
 simp only [Prod.mk.injEq] at h2
 obtain ⟨rfl,rfl⟩:=h2
 exact ZGN h1 (ZyG _ l) hm (by unfold Zbx;exact hb) hn
theorem ZjL {f:List D→Option Out} {I:Nat→List D→Prop} {Q:Out→Prop} (n:Nat) {v0:List D} (h0:I 0 v0)
    (hs:∀ i v,I i v→(∃ v',f v=some (.again v')∧I (i+1) v'∧i<n)∨∃ o,f v=some (.done o)∧Q o):∃ o,ZbJ f v0=some o∧Q o:=by
 have:∀ k i v,I i v→n≤i+k→∃ o,ZbJ f v=some o∧Q o:=by
  intro k
  induction k with
  | zero =>
   intro i v hI hn
   rcases hs i v hI with ⟨_,_,_,h⟩ | ⟨o,h,hq⟩
   · omega
   · exact ⟨o,by rw [ZbF,h],hq⟩
  | succ k ih =>
   intro i v hI hn
   rcases hs i v hI with ⟨v',h1,h2,h⟩ | ⟨o,h,hq⟩
   · rw [ZbF,h1];exact ih (i+1) v' h2 (by omega)
   · exact ⟨o,by rw [ZbF,h],hq⟩
 exact this n 0 v0 h0 (by omega)
theorem ZeC {f:List D→Option Out} {o:Out} (n:Nat) (g:Nat→List D) (hs:∀ i,i<n→f (g i)=some (.again (g (i+1)))) (he:f (g n)=some (.done o)):ZbJ f (g 0)=some o:=by
 have:∀ k i,i+k=n→ZbJ f (g i)=some o:=by
  intro k
  induction k with
  | zero=>intro i hi;rw [ZbF];have:i=n:=by omega
          rw [this,he]
  | succ k ih=>intro i hi;rw [ZbF,hs i (by omega)];exact ih (i+1) (by omega)
 exact this n 0 (by omega)
theorem Zdz {α:Type} {f:List D→Option Out} {oF oT:Out} (l:List α) (p:α→Bool) (g:Nat→List D)
    (hs:∀ i a,l[i]?=some a→f (g i)=if p a then some (.again (g (i+1))) else some (.done oF)) (he:f (g l.length)=some (.done oT)):ZbJ f (g 0)=some (if l.all p then oT else oF):=by
 have:∀ (m:List α) (i:Nat),i≤l.length→l.drop i=m→ZbJ f (g i)=some (if m.all p then oT else oF):=by
  intro m
  induction m with
  | nil =>
   intro i hl hi
   rw [List.drop_eq_nil_iff] at hi
   rw [ZbF]
   have h:i=l.length:=by omega
   rw [h,he];rfl
  | cons a m ih =>
   intro i hl hi
   have hg:l[i]?=some a:=by
    have:(l.drop i)[0]?=some a:=by rw [hi];rfl
    simpa using this
   rw [ZbF,hs i a hg]
   cases hp:p a with
   | true =>
    simp only [if_true,List.all_cons,hp,Bool.true_and]
    refine ih (i+1) (List.getElem?_eq_some_iff.1 hg).1 ?_
    rw [←List.tail_drop,hi];rfl
   | false=>simp [hp]
 exact this l 0 (Nat.zero_le _) rfl
theorem ZhL (T:Tabs) (F:Zd3) (vs:List SV) (body:FT) (δ:List D):Zad T F (.loop vs body) δ=ZbJ (fun v=>Zad T F body (δ++v)) (vs.map (dv δ)):=by rw [Zad]
theorem ZdH (a:Addr):Zck a 0=a:=by cases a;simp [Zck]
theorem Zu5 (a:Addr) (i j:Nat):Zck (Zck a i) j=Zck a (i+j):=by simp only [Zck];congr 1;omega
theorem ZmK {H:AHeap}:∀ (n m:Nat) (a:Addr) (v w:List Value),H.readN a n=some v→H.readN (Zck a n) m=some w→H.readN a (n+m)=some (v++w)
 | 0,m,a,v,w,h,g=>by
  simp only [AHeap.readN,Option.some.injEq] at h
  subst h
  rw [ZdH] at g
  rw [Nat.zero_add,List.nil_append];exact g
 | n+1,m,a,v,w,h,g=>by
  rw [Nat.add_right_comm]
  unfold AHeap.readN at h ⊢
  split at h
  case h_2=>cases h
  rename_i u hu
  split at h
  case h_2=>cases h
  rename_i us hus
  simp only [Option.some.injEq] at h
  subst h
  have:=ZmK n m (Zck a 1) us w hus (by rw [Zu5,Nat.add_comm 1 n];exact g)
  rw [this];rfl
theorem Zm6 {H:AHeap} {a:Addr} {k:Nat} (f:Nat→List Value):∀ n,(∀ i,i<n→H.readN (Zck a (i*k)) k=some (f i))→H.readN a (n*k)=some ((List.range n).flatMap f)
 | 0,_=>by rw [Nat.zero_mul];rfl
 | n+1,h=>by
  rw [Nat.succ_mul,List.range_succ,List.flatMap_append]
  refine ZmK _ _ _ _ _ (Zm6 f n fun i hi=>h i (by omega)) ?_
  rw [h n (by omega)];simp
section
variable {T:Tabs} {H:AHeap} {A:Nat→Prop}
theorem Zu6:∀ {l:List D} {v:List Value} {m:List D} {w:List Value},Rs T H A l v→Rs T H A m w→Rs T H A (l++m) (v++w)
 | _,_,_,_,.nil,g=>g
 | _,_,_,_,.cons h g,k=>.cons h (Zu6 g k)
theorem Zp3 (t:Nat→D) (f:Nat→List Value):∀ l:List Nat,(∀ i,i∈l→Rs T H A (t i).cells (f i))→Rs T H A (ZcK (l.map t)) (l.flatMap f)
 | [],_=>.nil
 | i::l,h=>by
  rw [List.map_cons,ZcK,List.flatMap_cons,List.flatMap_cons]
  exact Zu6 (h i (by simp)) (Zp3 t f l fun j hj=>h j (by simp [hj]))
end
section
variable {H:Type} {enc:TypeId×Value→H} {W:World} {base:Nat} {held:Bool} {A:Nat→Prop}
abbrev Cin (W:World) (A:Nat→Prop) (ds:List D) (cs:List Value):Prop:=Rs theTabs (Zcy W) A ds (cs.map (ZfQ W))∧∀ v,v∈cs→VRel (ZcI W) (ZfQ W v) v
theorem Cin.nil:Cin W A [] []:=⟨.nil,fun _ h=>by simp at h⟩
theorem Cin.cons {d:D} {v:Value} {ds:List D} {cs:List Value} (h:R theTabs (Zcy W) A d (ZfQ W v)) (g:VRel (ZcI W) (ZfQ W v) v) (k:Cin W A ds cs):Cin W A (d::ds) (v::cs) :=
 ⟨.cons h k.1,fun u hu=>by rcases List.mem_cons.1 hu with rfl | hu;exact g;exact k.2 u hu⟩
theorem Cin.v {v:Value} {ds:List D} {cs:List Value} (h:Zab v=true) (f:Zba v=true) (k:Cin W A ds cs):Cin W A (.v v::ds) (v::cs) :=
 k.cons (by rw [ZlU (.closed h)];exact .v h f) (by rw [ZlU (.closed h)];exact .closed h)
theorem Cin.app {ds ds':List D} {cs cs':List Value} (h:Cin W A ds cs) (g:Cin W A ds' cs'):Cin W A (ds++ds') (cs++cs') :=
 ⟨by rw [List.map_append];exact Zu6 h.1 g.1,fun u hu=>by rcases List.mem_append.1 hu with hu | hu;exact h.2 u hu;exact g.2 u hu⟩
abbrev Wok (t:TypeId) (d:DataW H):Prop:=∀ w,w∈DataW.weights Tryz.prog t d→w≤reachBytes
theorem Zpe {P:Program} {e:TypeId} {w:Nat}:∀ {l:List (DataW H)} {d:DataW H},d∈l→w∈d.weights P e→w∈DataW.weightsAll P e l
 | [],_,h,_=>by cases h
 | c::l,d,h,g=>by
  rw [DataW.weightsAll,List.mem_append]
  rcases List.mem_cons.1 h with rfl | h
  · exact .inl g
  · exact .inr (Zpe h g)
theorem Zmr {P:Program} {w:Nat}:∀ {ts:List TypeId} {ds:List (DataW H)} {i:Nat} {t:TypeId} {d:DataW H},ts[i]?=some t→ds[i]?=some d→w∈d.weights P t→w∈DataW.weightsEach P ts ds
 | [],_,_,_,_,h,_,_=>by simp at h
 | _::_,[],_,_,_,_,h,_=>by simp at h
 | t::ts,d::ds,0,_,_,h,g,k=>by
  simp only [List.getElem?_cons_zero,Option.some.injEq] at h g
  subst h;subst g
  rw [DataW.weightsEach,List.mem_append];exact .inl k
 | t::ts,d::ds,i+1,_,_,h,g,k=>by
  simp only [List.getElem?_cons_succ] at h g
  rw [DataW.weightsEach,List.mem_append];exact .inr (Zmr h g k)
theorem Wok.field {t:TypeId} {fs:Array Field} {parts:List (DataW H)} (hu:Tryz.prog.underlying t=some (.struct fs)) (h:Wok t (.agg parts)) {i:Nat} {f:Field} {d:DataW H} (hf:fs[i]?=some f) (hd:parts[i]?=some d):Wok f.type d:=by
 intro w hw
 refine h w ?_
 rw [DataW.weights,hu]
 exact Zmr (i:=i) (by rw [List.getElem?_map,Array.getElem?_toList,hf];rfl) hd hw
theorem Zvs {α:Type} [Inhabited α] (hA:∀ b,A b) (dOf:α→D) (Q:α→Prop) {e c ts:Nat} (hc:Tryz.prog.cellsOf e=c) (hc0:0<c) (hi0:(theTabs.info e).map (·.size)=some c) (hu:Tryz.prog.underlying ts=some (.slice e))
    {n:Nat} {v:Value} {x:DataW H×List MemPlace} (h:DataW.trod enc Tryz.prog W base (fun _=>true) held n ts [v]=some x) (hw:Wok ts x.1)
    (hel:∀ (m:Nat) (cs:List Value) (x:DataW H×List MemPlace),m<n→DataW.trod enc Tryz.prog W base (fun _=>true) held m e cs=some x→Wok e x.1→∃ t:α,Q t∧(dOf t).cells.length=c∧cs.length=c∧Cin W A (dOf t).cells cs) :
    ∃ (sp:Option (List D)) (l:List α),(∀ t,t∈l→Q t)∧l.length*Tryz.prog.bytesOf e≤reachBytes∧R theTabs (Zcy W) A (Zav e sp (l.map dOf)) (ZfQ W v)∧VRel (ZcI W) (ZfQ W v) v:=by
 rcases DataW.trod_slice hu h with ⟨e0,_⟩ | ⟨ad,len,cap,elems,rest,n'',rfl,e0,rfl,hb,hlc,hcap,hel0,hE,hR,_⟩
 · simp only [List.cons.injEq,and_true] at e0
   subst e0
   have f4:ZfQ W (.slice none 0 0)=.slice none 0 0:=ZlU (.closed rfl)
   exact ⟨none,[],by simp,by simp,by rw [f4];exact .v rfl rfl,by rw [f4];exact .closed rfl⟩
 · simp only [List.cons.injEq,and_true] at e0
   subst e0
   rw [hc] at hE hR
   have hw1:(elems.length+rest.length)*Tryz.prog.bytesOf e≤reachBytes:=hw _ (by rw [DataW.weights,hu];dsimp only;rw [List.length_map,List.length_map];exact List.mem_cons_self)
   have hw2:∀ y,y∈elems→Wok e y.1:=fun y hy w hw3=>hw w (by
    rw [DataW.weights,hu];dsimp only
    exact List.mem_cons_of_mem _ (List.mem_append_left _ (Zpe (List.mem_map_of_mem hy) hw3)))
   have hw4:len*Tryz.prog.bytesOf e≤reachBytes:=Nat.le_trans (Nat.mul_le_mul_right _ (by omega)) hw1
   unfold maxLen at hcap
   rcases Nat.eq_zero_or_pos cap with hc1 | hc1
   · subst hc1
     obtain rfl:len=0:=by omega
     obtain ⟨c,hc⟩:=ZlV W ad
     refine ⟨some [],[],by simp,by simp,?_,Zrh⟩
     rw [hc];exact .nil
   have hrow:ad.spot=none∧ZlQ W ad.block=true:=by
    have:∃ cs,W.cells? base (ad.add 0) c=some cs:=by
     rcases Nat.eq_zero_or_pos len with hl0 | hl0
     · subst hl0
       obtain ⟨hr1,hr2⟩:=hR rfl
       have h1:=hr2 0 (by omega)
       rw [List.getElem?_eq_getElem (by omega),Option.bind_eq_some_iff] at h1
       obtain ⟨cs,h2,_⟩:=h1
       exact ⟨cs,by simpa using h2⟩
     · have h1:=hE 0 hl0
       rw [List.getElem?_eq_getElem (by omega),Option.bind_eq_some_iff] at h1
       obtain ⟨cs,h2,_⟩:=h1
       exact ⟨cs,by simpa using h2⟩
    obtain ⟨cs,hcs⟩:=this
    obtain ⟨h1,h2⟩:=cells?_at hcs
    have h3:=h2 0 (cs[0]'(by omega)) (List.getElem?_eq_getElem (by omega))
    have h4:=Zle h3
    simpa [Addr.add] using h4
   obtain ⟨hsp,hir⟩:=hrow
   have hg:=Zrd hsp hir hlc
   have f4:=ZlU hg
   have hv4:VRel (ZcI W) (ZfQ W (.slice (some ad) len cap)) (.slice (some ad) len cap):=by rw [f4];exact hg
   rcases Nat.eq_zero_or_pos len with hl0 | hl0
   · subst hl0
     exact ⟨some [],[],by simp,by simp,by rw [f4];exact .nil,hv4⟩
   have hel1:∀ i,i<len→∃ (cs:List Value) (t:α),Q t∧(dOf t).cells.length=c∧cs.length=c∧W.cells? base (ad.add (i*c)) c=some cs∧Cin W A (dOf t).cells cs:=by
    intro i hi
    have h1:=hE i hi
    rw [List.getElem?_eq_getElem (by omega),Option.bind_eq_some_iff] at h1
    obtain ⟨cs,h2,h3⟩:=h1
    obtain ⟨t,g1,g2,g3,g4⟩:=hel n'' cs _ (by omega) h3 (hw2 _ (List.getElem_mem _))
    exact ⟨cs,t,g1,g2,g3,h2,g4⟩
   obtain ⟨fc,ft,hft⟩:∃ (fc:Nat→List Value) (ft:Nat→α),∀ i,i<len→Q (ft i)∧(dOf (ft i)).cells.length=c∧(fc i).length=c∧W.cells? base (ad.add (i*c)) c=some (fc i)∧Cin W A (dOf (ft i)).cells (fc i):=by
    refine ⟨fun i=>if h:i<len then (hel1 i h).choose else [],fun i=>if h:i<len then (hel1 i h).choose_spec.choose else default,fun i hi=>?_⟩
    dsimp only
    rw [dif_pos hi,dif_pos hi]
    exact (hel1 i hi).choose_spec.choose_spec
   have hread:(Zcy W).readN ad (len*c)=some ((List.range len).flatMap fun i=>(fc i).map (ZfQ W)):=by
    refine Zm6 _ len fun i hi=>?_
    obtain ⟨_,_,g2,g3,g5⟩:=hft i hi
    obtain ⟨h1,h2⟩:=cells?_at g3
    have hsp':(Zck ad (i*c)).spot=none:=hsp
    refine Zid (a:=Zck ad (i*c)) hsp' g2 fun j v hj=>?_
    have h3:=h2 j v hj
    rw [ZnX hsp,ZnX hsp'] at h3
    exact ⟨h3,g5.2 v (List.mem_of_getElem? hj)⟩
   have hrel:=Zp3 (T:=theTabs) (H:=Zcy W) (A:=A) (fun i=>dOf (ft i)) (fun i=>(fc i).map (ZfQ W)) (List.range len) fun i hi=>(hft i (List.mem_range.1 hi)).2.2.2.2.1
   have hll:((List.range len).map ft).length=len:=by simp
   refine ⟨some [],(List.range len).map ft,fun t ht=>?_,by rw [hll];exact hw4,?_,hv4⟩
   · obtain ⟨i,hi,rfl⟩:=List.mem_map.1 ht
     exact (hft i (List.mem_range.1 hi)).1
   · rw [f4]
     obtain ⟨inf,hi,hsz⟩:=Option.map_eq_some_iff.1 hi0
     obtain ⟨c',e',fz,hcl⟩:=ZfM hir
     have hmm:((List.range len).map ft).map dOf=(List.range len).map fun i=>dOf (ft i):=by rw [List.map_map];rfl
     have hcl2:(((List.range len).map ft).map dOf).length=len:=by rw [List.length_map,hll]
     refine R.sl (x:=[]) (vs:=(List.range len).flatMap fun i=>(fc i).map (ZfQ W)) hi ?_ (by rw [hsz];omega) (hA _) ?_ ?_ ?_ ?_ hcl2.symm ?_
     · intro h0
       rw [List.append_nil] at h0
       rw [h0] at hcl2
       simp at hcl2;omega
     · rw [List.append_nil,hcl2,hsz,hread]
     · intro d hd
       rw [List.append_nil,hmm] at hd
       obtain ⟨i,hi,rfl⟩:=List.mem_map.1 hd
       rw [hsz];exact (hft i (List.mem_range.1 hi)).2.1
     · rw [List.append_nil,hmm];exact hrel
     · unfold AHeap.elemOk
       rw [Zgs hcl];rfl
     · rw [List.append_nil,hcl2];exact hlc
end
end
section
open Go B
mutual
inductive Sr:D→D→Prop
 | v (u:Value):Sr (.v u) (.v u)
 | dag:Sr (.ag []) (.ag [])
 | sl {e:Nat} (he:Nat.beq e 25=false) {l:List D} (hl:∀ d,d∈l→isV d=true):Sr (.sl e l []) (.sl e l [])
 | nil (y:List D):Sr (.v (.slice none 0 0)) (.sl 25 [] y)
 | nd {l m x y z:List D} (h:Srn l m) (g:Srn x y):Sr (.sl 25 l x) (.sl 25 m (y++z))
inductive Srn:List D→List D→Prop
 | nil:Srn [] []
 | cons (a b c d:Value) {k k':D} {l m:List D} (h:Sr k k') (g:Srn l m):Srn (.ag [.v a,.v b,.v c,.v d,k]::l) (.ag [.v a,.v b,.v c,.v d,k']::m)
end
inductive Srs:List D→List D→Prop
 | nil:Srs [] []
 | cons {a b:D} {l m:List D} (h:Sr a b) (g:Srs l m):Srs (a::l) (b::m)
theorem Srn.len:∀ {l m:List D},Srn l m→l.length=m.length
 | _,_,.nil=>rfl
 | _,_,.cons _ _ _ _ _ g=>by rw [List.length_cons,List.length_cons,Srn.len g]
theorem Srn.get:∀ {l m:List D},Srn l m→∀ {i:Nat} {d:D},l[i]?=some d→∃ a b c e k k',d=.ag [.v a,.v b,.v c,.v e,k]∧m[i]?=some (.ag [.v a,.v b,.v c,.v e,k'])∧Sr k k'
 | _,_,.nil,i,d,h=>by simp at h
 | _,_,.cons a b c e h g,0,d,q=>by simp only [List.getElem?_cons_zero,Option.some.injEq] at q;subst q;exact ⟨a,b,c,e,_,_,rfl,rfl,h⟩
 | _,_,.cons _ _ _ _ h g,i+1,d,q=>by rw [List.getElem?_cons_succ] at q;obtain ⟨a,b,c,e,k,k',h1,h2,h3⟩:=Srn.get g q;exact ⟨a,b,c,e,k,k',h1,by rw [List.getElem?_cons_succ];exact h2,h3⟩
theorem Srn.app:∀ {l m l' m':List D},Srn l m→Srn l' m'→Srn (l++l') (m++m')
 | _,_,_,_,.nil,h=>h
 | _,_,_,_,.cons a b c d h g,h'=>.cons a b c d h (Srn.app g h')
theorem Srn.take:∀ {l m:List D},Srn l m→∀ n,Srn (l.take n) (m.take n)
 | _,_,.nil,n=>by rw [List.take_nil];exact .nil
 | _,_,.cons _ _ _ _ _ _,0=>.nil
 | _,_,.cons a b c d h g,n+1=>.cons a b c d h (Srn.take g n)
theorem Srn.drop:∀ {l m:List D},Srn l m→∀ n,Srn (l.drop n) (m.drop n)
 | _,_,.nil,n=>by rw [List.drop_nil];exact .nil
 | _,_,.cons a b c d h g,0=>.cons a b c d h g
 | _,_,.cons _ _ _ _ _ g,n+1=>Srn.drop g n
theorem Srs.len:∀ {l m:List D},Srs l m→l.length=m.length
 | _,_,.nil=>rfl
 | _,_,.cons _ g=>by rw [List.length_cons,List.length_cons,Srs.len g]
theorem Srs.get:∀ {l m:List D},Srs l m→∀ {i:Nat} {d:D},l[i]?=some d→∃ d',m[i]?=some d'∧Sr d d'
 | _,_,.nil,i,d,h=>by simp at h
 | _,_,.cons h g,0,d,e=>by simp only [List.getElem?_cons_zero,Option.some.injEq] at e;subst e;exact ⟨_,rfl,h⟩
 | _,_,.cons h g,i+1,d,e=>by rw [List.getElem?_cons_succ] at e;obtain ⟨d',h1,h2⟩:=Srs.get g e;exact ⟨d',by rw [List.getElem?_cons_succ];exact h1,h2⟩
theorem Srs.getD {l m:List D} (h:Srs l m) (i:Nat):Sr (l.getD i (.ag [])) (m.getD i (.ag [])):=by
 rw [List.getD_eq_getElem?_getD,List.getD_eq_getElem?_getD]
 cases e:l[i]? with
 | some d=>obtain ⟨d',h1,h2⟩:=h.get e;rw [h1];exact h2
 | none =>
  have:m[i]?=none:=by rw [List.getElem?_eq_none_iff] at e ⊢;rw [←h.len];exact e
  rw [this];exact .dag
theorem Srs.app:∀ {l m l' m':List D},Srs l m→Srs l' m'→Srs (l++l') (m++m')
 | _,_,_,_,.nil,h=>h
 | _,_,_,_,.cons h g,h'=>.cons h (Srs.app g h')
theorem Sr.dv {δ δ':List D} (h:Srs δ δ') (s:SV):Sr (dv δ s) (dv δ' s):=by
 cases s with
 | c v=>exact .v v
 | x i=>exact h.getD i
 | _=>exact .dag
theorem Srs.dvs {δ δ':List D} (h:Srs δ δ'):∀ vs:List SV,Srs (vs.map (dv δ)) (vs.map (dv δ'))
 | []=>.nil
 | s::vs=>.cons (Sr.dv h s) (Srs.dvs h vs)
def Zf5:Value→Bool
 | .slice none 0 0=>true
 | _=>false
theorem Sr.inv {u:Value} {d:D} (h:Sr (.v u) d) (hn:Zf5 u=false):d=.v u:=by
 cases h with
 | v=>rfl
 | nil=>cases hn
theorem ZBY {δ δ':List D} (h:Srs δ δ') (ix:Ix):ixD δ' ix=ixD δ ix:=by
 cases ix with
 | k n=>rfl
 | x i =>
  have h1:=h.getD i
  unfold ixD
  dsimp only
  generalize δ.getD i (.ag [])=a at *
  generalize δ'.getD i (.ag [])=b at *
  cases h1<;>rfl
section
variable {T:Tabs} {a a' b b':D} {r:D}
theorem ZxQ {f:D→D→Option D} (hf:∀ x y r,f x y=some r→∃ u w q,x=.v u∧y=.v w∧r=.v q∧Zf5 u=false∧Zf5 w=false) (ha:Sr a a') (hb:Sr b b') (h:f a b=some r):∃ r',f a' b'=some r'∧Sr r r':=by
 obtain ⟨u,w,q,rfl,rfl,rfl,n1,n2⟩:=hf _ _ _ h
 rw [ha.inv n1,hb.inv n2]
 exact ⟨_,h,.v q⟩
theorem ZE2 {f:D→Option D} (hf:∀ x r,f x=some r→∃ u q,x=.v u∧r=.v q∧Zf5 u=false) (ha:Sr a a') (h:f a=some r):∃ r',f a'=some r'∧Sr r r':=by
 obtain ⟨u,q,rfl,rfl,n1⟩:=hf _ _ h
 rw [ha.inv n1]
 exact ⟨_,h,.v q⟩
theorem ZuW {α:Type} {b:Bool} {x:Option α} {r:α} (h:(bif b then none else x)=some r):b=false∧x=some r:=by
 cases b with
 | false=>exact ⟨rfl,h⟩
 | true=>cases h
theorem ZtI {u:Value} (h:Zf5 u=true):u=.slice none 0 0:=by
 unfold Zf5 at h
 split at h
 · rfl
 · cases h
def nsl (T:Tabs) (t:TypeId):Bool:=match T.und t with
 | some (.slice _)=>false
 | _=>true
theorem Zzd {d:TypeDesc} {v w:Value} {q:Bool} (hd:∀ e,d≠.slice e) (hv:Zf5 v=true∨Zf5 w=true) (h:ZjG d v w=some q):False:=by
 unfold ZjG at h
 split at h
 all_goals first | (cases h;done) | (exact absurd rfl (hd _)) | (rcases hv with hv | hv<;>cases ZtI hv)
theorem Zqb {op:BinOp} {t:TypeId} (ht:nsl T t=true) {v w:Value} (hv:Zf5 v=true∨Zf5 w=true):Znk T (ρ2 v w) op t (.tmp 0) (.tmp 1)=none:=by
 have hd:∀ d,T.und t=some d→∀ e,d≠.slice e:=by
  intro d h1 e h2
  unfold nsl at ht
  rw [h1,h2] at ht;cases ht
 cases hx:Znk T (ρ2 v w) op t (.tmp 0) (.tmp 1) with
 | none=>rfl
 | some r =>
  exfalso
  unfold Znk at hx
  rw [show ZaO [Operand.tmp 0,Operand.tmp 1]=true from rfl,cond_true] at hx
  replace hv:Zf5 (ρ2 v w (.tmp 0))=true∨Zf5 (ρ2 v w (.tmp 1))=true:=hv
  generalize ρ2 v w (.tmp 0)=a at *
  generalize ρ2 v w (.tmp 1)=b at *
  split at hx
  · rcases hv with hv | hv<;>cases hv
  · rcases hv with hv | hv<;>cases hv
  · rcases hv with hv | hv<;>cases hv
  · rcases hv with hv | hv<;>cases hv
  · split at hx
    · rename_i e;exact hd _ e _ rfl
    · cases hx
  · obtain ⟨_,hx⟩:=ZuW hx
    split at hx
    · rename_i d e
      split at hx
      · rename_i q hq;exact Zzd (hd d e) hv hq
      · cases hx
    · cases hx
theorem ZCv {op:BinOp} {t:TypeId} (ht:nsl T t=true) (x y r:D) (h:ZeI T op t x y=some r):∃ u w q,x=.v u∧y=.v w∧r=.v q∧Zf5 u=false∧Zf5 w=false:=by
 unfold ZeI at h
 split at h
 · rename_i u w
   obtain ⟨q,h1,rfl⟩:=Option.map_eq_some_iff.1 h
   refine ⟨_,_,q,rfl,rfl,rfl,?_,?_⟩
   · cases hn:Zf5 u with
     | false=>rfl
     | true=>unfold ZCu at h1;rw [Zqb ht (.inl hn)] at h1;cases h1
   · cases hn:Zf5 w with
     | false=>rfl
     | true=>unfold ZCu at h1;rw [Zqb ht (.inr hn)] at h1;cases h1
 · cases h
theorem Zk9 {t:TypeId} {v w:Value} (hv:Zf5 v=true∨Zf5 w=true):ZdC T (ρ2 v w) t (.tmp 0) (.tmp 1)=none:=by
 cases hx:ZdC T (ρ2 v w) t (.tmp 0) (.tmp 1) with
 | none=>rfl
 | some r =>
  exfalso
  unfold ZdC at hx
  rw [show ZaO [Operand.tmp 0,Operand.tmp 1]=true from rfl,cond_true] at hx
  replace hv:Zf5 (ρ2 v w (.tmp 0))=true∨Zf5 (ρ2 v w (.tmp 1))=true:=hv
  generalize ρ2 v w (.tmp 0)=a at *
  generalize ρ2 v w (.tmp 1)=b at *
  split at hx
  · rcases hv with hv | hv<;>cases hv
  · rcases hv with hv | hv<;>cases hv
  · cases hx
theorem Zx5 {t:TypeId} (x y r:D) (h:Zkp T t x y=some r):∃ u w q,x=.v u∧y=.v w∧r=.v q∧Zf5 u=false∧Zf5 w=false:=by
 unfold Zkp at h
 split at h
 · rename_i u w
   obtain ⟨q,h1,rfl⟩:=Option.map_eq_some_iff.1 h
   refine ⟨_,_,q,rfl,rfl,rfl,?_,?_⟩
   · cases hn:Zf5 u with
     | false=>rfl
     | true=>rw [Zk9 (.inl hn)] at h1;cases h1
   · cases hn:Zf5 w with
     | false=>rfl
     | true=>rw [Zk9 (.inr hn)] at h1;cases h1
 · cases h
theorem ZBL (x y r:D) (h:ZAJ x y=some r):∃ u w q,x=.v u∧y=.v w∧r=.v q∧Zf5 u=false∧Zf5 w=false:=by
 unfold ZAJ at h
 split at h
 · simp only [Option.some.injEq] at h;exact ⟨_,_,_,rfl,rfl,h.symm,rfl,rfl⟩
 · cases h
theorem ZC9 {op:UnOp} (x r:D) (h:unD op x=some r):∃ u q,x=.v u∧r=.v q∧Zf5 u=false:=by
 unfold unD at h
 split at h
 · rename_i u
   obtain ⟨q,h1,rfl⟩:=Option.map_eq_some_iff.1 h
   refine ⟨_,q,rfl,rfl,?_⟩
   cases hn:Zf5 u with
   | false=>rfl
   | true =>
    obtain rfl:=ZtI hn
    cases op<;>cases h1
 · cases h
theorem Zzw {n:Bool} (ha:Sr a a') (h:ZcN n a=some r):∃ r',ZcN n a'=some r'∧Sr r r':=by
 cases n with
 | true =>
  cases ha with
  | v u=>refine ⟨r,h,?_⟩;simp only [ZcN,cond_true] at h;split at h<;>simp only [Option.some.injEq,reduceCtorEq] at h;subst h;exact .v _
  | _=>simp [ZcN] at h
 | false =>
  cases ha with
  | v u=>refine ⟨r,h,?_⟩;simp only [ZcN,cond_false] at h;split at h<;>simp only [Option.some.injEq,reduceCtorEq] at h;subst h;exact .v _;subst h;exact .v _
  | nd g1 g2=>simp only [ZcN,cond_false,Option.some.injEq] at h ⊢;subst h;rw [g1.len];exact ⟨_,rfl,.v _⟩
  | sl he hl=>refine ⟨r,h,?_⟩;simp only [ZcN,cond_false,Option.some.injEq] at h;subst h;exact .v _
  | nil y=>simp only [ZcN,cond_false,Option.some.injEq] at h;subst h;exact ⟨_,rfl,.v _⟩
  | dag=>simp [ZcN] at h
theorem Zzg {n:Nat} (ha:Sr a a') (h:ZvN a=some n):ZvN a'=some n:=by
 cases ha with
 | v u=>exact h
 | _=>simp [ZvN] at h
theorem ZdU {δ δ':List D} (hd:Srs δ δ') {k n:Nat} {lo:Option SV} (h:Zde k (lo.map (dv δ))=some n):Zde k (lo.map (dv δ'))=some n:=by
 cases lo with
 | none=>exact h
 | some s=>exact Zzg (Sr.dv hd s) h
theorem Zx3 {δ δ':List D} (hd:Srs δ δ') {lo hi:Option SV} (ha:Sr a a') (h:Zx4 a (lo.map (dv δ)) (hi.map (dv δ))=some r):∃ r',Zx4 a' (lo.map (dv δ')) (hi.map (dv δ'))=some r'∧Sr r r':=by
 unfold Zx4 at h
 split at h
 case h_2=>cases h
 rw [ha.inv rfl]
 rw [Option.bind_eq_some_iff] at h
 obtain ⟨l,h1,h⟩:=h
 rw [Option.bind_eq_some_iff] at h
 obtain ⟨m,h2,h⟩:=h
 obtain ⟨h3,h4⟩:=ZaK h
 simp only [Option.some.injEq] at h4
 subst h4
 refine ⟨_,?_,.v _⟩
 unfold Zx4
 dsimp only
 rw [ZdU hd h1,Option.bind_some,ZdU hd h2,Option.bind_some,h3,cond_true]
theorem Zuu {s t:TypeId} {v:Value} (hv:Zf5 v=true):Zj1 T (ρ1 v) s t (.tmp 0)=none:=by
 cases hx:Zj1 T (ρ1 v) s t (.tmp 0) with
 | none=>rfl
 | some r =>
  exfalso
  unfold Zj1 at hx
  rw [show Zaa (Operand.tmp 0)=true from rfl,cond_true] at hx
  replace hv:Zf5 (ρ1 v (.tmp 0))=true:=hv
  generalize ρ1 v (.tmp 0)=a at *
  split at hx
  · cases hv
  · cases hv
  · cases hx
theorem ZzS {s t:TypeId} (x r:D) (h:Zrs T s t x=some r):∃ u q,x=.v u∧r=.v q∧Zf5 u=false:=by
 unfold Zrs at h
 split at h
 · rename_i u
   obtain ⟨q,h1,rfl⟩:=Option.map_eq_some_iff.1 h
   refine ⟨_,q,rfl,rfl,?_⟩
   cases hn:Zf5 u with
   | false=>rfl
   | true=>rw [Zuu hn] at h1;cases h1
 · cases h
theorem Zzr {δ δ':List D} (hd:Srs δ δ') {e:Nat} {lo hi:Option SV} (ha:Sr a a') (h:Zkv e a (lo.map (dv δ)) (hi.map (dv δ))=some r) (he:Nat.beq e 25=true):∃ r',Zkv e a' (lo.map (dv δ')) (hi.map (dv δ'))=some r'∧Sr r r':=by
 obtain rfl:=Nat.eq_of_beq_eq_true he
 cases ha with
 | v u =>
  unfold Zkv at h
  split at h
  · rename_i e;cases e
  · rename_i e
    simp only [D.v.injEq] at e
    subst e
    rw [Option.bind_eq_some_iff] at h
    obtain ⟨l,h1,h⟩:=h
    rw [Option.bind_eq_some_iff] at h
    obtain ⟨m,h2,h⟩:=h
    obtain ⟨h3,h4⟩:=ZaK h
    simp only [Option.some.injEq] at h4
    subst h4
    refine ⟨_,?_,.v _⟩
    show ((Zde 0 (lo.map (dv δ'))).bind fun l=>(Zde 0 (hi.map (dv δ'))).bind fun h=>bif Nat.beq l 0&&Nat.beq h 0 then some (D.v (.slice none 0 0)) else none)=_
    rw [ZdU hd h1,Option.bind_some,ZdU hd h2,Option.bind_some,h3,cond_true]
  · cases h
 | nil y =>
  replace h:((Zde 0 (lo.map (dv δ))).bind fun l=>(Zde 0 (hi.map (dv δ))).bind fun h=>bif Nat.beq l 0&&Nat.beq h 0 then some (D.v (.slice none 0 0)) else none)=some r:=h
  rw [Option.bind_eq_some_iff] at h
  obtain ⟨l,h1,h⟩:=h
  rw [Option.bind_eq_some_iff] at h
  obtain ⟨m,h2,h⟩:=h
  obtain ⟨h3,h4⟩:=ZaK h
  simp only [Option.some.injEq] at h4
  subst h4
  rw [Bool.and_eq_true] at h3
  obtain rfl:=Nat.eq_of_beq_eq_true h3.1
  obtain rfl:=Nat.eq_of_beq_eq_true h3.2
  refine ⟨.sl 25 [] y,?_,.nil y⟩
  unfold Zkv
  dsimp only
  rw [ZdU hd h1,Option.bind_some,List.length_nil,ZdU hd h2,Option.bind_some,Nat.beq_refl]
  simp only [Nat.sub_self,List.take_zero,List.drop_zero,List.nil_append,Bool.true_and]
  rfl
 | @nd l m x y z g1 g2 =>
  unfold Zkv at h
  dsimp only at h
  rw [Option.bind_eq_some_iff] at h
  obtain ⟨i,h1,h⟩:=h
  rw [Option.bind_eq_some_iff] at h
  obtain ⟨j,h2,h⟩:=h
  obtain ⟨h3,h4⟩:=ZaK h
  simp only [Option.some.injEq] at h4
  subst h4
  rw [Bool.and_eq_true,Bool.and_eq_true] at h3
  obtain ⟨⟨h5,h6⟩,h7⟩:=h3
  have h7':=Nat.le_of_ble_eq_true h7
  have h6':=Nat.le_of_ble_eq_true h6
  have hg:=g1.app g2
  have hlen:=hg.len
  rw [g1.len] at h2
  refine ⟨.sl 25 (((m++(y++z)).drop i).take (j-i)) ((m++(y++z)).drop j),?_,?_⟩
  · unfold Zkv
    dsimp only
    rw [ZdU hd h1,Option.bind_some,ZdU hd h2,Option.bind_some,h5,h6,Nat.ble_eq_true_of_le (show j≤(m++(y++z)).length by rw [←List.append_assoc,List.length_append,←hlen];omega)]
    rfl
  · have q1:((m++y)++z).drop i=(m++y).drop i++z:=List.drop_append_of_le_length (by rw [←hlen];omega)
    have q2:((m++y).drop i++z).take (j-i)=((m++y).drop i).take (j-i):=List.take_append_of_le_length (by rw [List.length_drop,←hlen];omega)
    have q3:((m++y)++z).drop j=(m++y).drop j++z:=List.drop_append_of_le_length (by rw [←hlen];omega)
    rw [←List.append_assoc,q1,q2,q3]
    exact .nd ((hg.drop i).take (j-i)) (hg.drop j)
 | sl he hl =>
  unfold Zkv at h
  dsimp only at h
  rw [Option.bind_eq_some_iff] at h
  obtain ⟨i,h1,h⟩:=h
  rw [Option.bind_eq_some_iff] at h
  obtain ⟨j,h2,h⟩:=h
  obtain ⟨h3,h4⟩:=ZaK h
  rw [Bool.and_eq_true,Bool.and_eq_true] at h3
  have:=Nat.eq_of_beq_eq_true h3.1.1
  subst this
  rw [Nat.beq_refl] at he;cases he
 | dag=>simp [Zkv] at h
theorem Zz7 {e:Nat} (ha:Sr a a') (hb:Sr b b') (h:Zcp e a b=true):Zcp e a' b'=true:=by
 have hb':b'=b:=by
  unfold Zcp at h
  split at h
  · exact hb.inv rfl
  · cases h
 subst hb'
 cases ha with
 | v u=>exact h
 | dag=>exact h
 | sl=>exact h
 | nil y=>simp [Zcp] at h
 | nd g1 g2 =>
  unfold Zcp at h ⊢
  split at h
  · rename_i e1
    cases e1
    rw [←g1.len];exact h
  · cases h
def ZCU (e o:Nat) (fl:List Bool):Bool:=bif Nat.beq e 25 then match o,fl with
    | 0,[true,true,true,true,false]=>true
    | 0,[true]=>true
    | 4,[false]=>true
    | _,_=>false
 else match o,fl with
  | 0,[true]=>true
  | _,_=>false
theorem ZBR {e ix o:Nat} {fl:List Bool} {ds:List D} (hk:ZCU e o fl=true) (ha:Sr a a') (h:ldD e a ix o fl=some ds):∃ ds',ldD e a' ix o fl=some ds'∧Srs ds ds':=by
 cases ha with
 | v u=>simp [ldD] at h
 | dag=>simp [ldD] at h
 | nil y=>simp [ldD] at h
 | @sl e' he l hl =>
  refine ⟨ds,h,?_⟩
  unfold ldD at h
  dsimp only at h
  split at h
  case h_2=>cases h
  rename_i d hd
  obtain ⟨h1,h2⟩:=ZaK h
  simp only [Option.some.injEq] at h2
  subst h2
  rw [Bool.and_eq_true] at h1
  obtain rfl:=Nat.eq_of_beq_eq_true h1.1
  have hv:=hl d (List.mem_of_getElem? hd)
  unfold ZCU at hk
  rw [he,cond_false] at hk
  split at hk
  · cases d with
    | v u=>exact .cons (.v u) .nil
    | _=>cases hv
  · cases hk
 | @nd l m x y z g1 g2 =>
  unfold ldD at h
  dsimp only at h
  split at h
  case h_2=>cases h
  rename_i d hd
  obtain ⟨h1,h2⟩:=ZaK h
  simp only [Option.some.injEq] at h2
  subst h2
  rw [Bool.and_eq_true] at h1
  have he:=Nat.eq_of_beq_eq_true h1.1
  obtain ⟨a,b,c,w,k,k',rfl,hm,hs⟩:=g1.get hd
  unfold ZCU at hk
  rw [h1.1,cond_true] at hk
  have e:∀ q,ldD e (.sl 25 m (y++z)) ix o fl=q↔(bif Nat.beq e 25&&ZrA fl (([D.v a,.v b,.v c,.v w,k'].drop o).take fl.length) then some (([D.v a,.v b,.v c,.v w,k'].drop o).take fl.length) else none)=q:=by
   intro q
   unfold ldD
   dsimp only
   rw [hm];rfl
  split at hk
  · exact ⟨_,(e _).2 (by rw [h1.1];rfl),.cons (.v a) (.cons (.v b) (.cons (.v c) (.cons (.v w) (.cons hs .nil))))⟩
  · exact ⟨_,(e _).2 (by rw [h1.1];rfl),.cons (.v a) .nil⟩
  · exact ⟨_,(e _).2 (by rw [h1.1];rfl),.cons hs .nil⟩
  · cases hk
def isC:SV→Bool
 | .c _=>true
 | _=>false
def ZCR (ag:Bool) (els:List (List SV)):Bool:=!ag&&els.all fun cs=>match cs with
 | [.c _]=>true
 | _=>false
theorem ZBK {ag:Bool} (δ δ':List D):∀ {els:List (List SV)},ZCR ag els=true→(els.map fun cs=>Zf0 ag (cs.map (dv δ')))=(els.map fun cs=>Zf0 ag (cs.map (dv δ)))∧∀ d,d∈(els.map fun cs=>Zf0 ag (cs.map (dv δ)))→isV d=true
 | [],_=>⟨rfl,fun d hd=>by cases hd⟩
 | cs::els,h=>by
  unfold ZCR at h
  rw [List.all_cons,Bool.and_eq_true,Bool.and_eq_true] at h
  obtain ⟨h1,h2,h3⟩:=h
  cases ag with
  | true=>cases h1
  | false =>
  obtain ⟨g1,g2⟩:=ZBK (ag:=false) δ δ' (els:=els) (by unfold ZCR;rw [h3];rfl)
  split at h2
  · refine ⟨by rw [List.map_cons,List.map_cons,g1];rfl,fun d hd=>?_⟩
    rw [List.map_cons] at hd
    rcases List.mem_cons.1 hd with rfl | hd
    · rfl
    · exact g2 d hd
  · cases h2
end
inductive OR:Out→Out→Prop
 | fin (k:Nat) {vs ws:List D} (h:Srs vs ws):OR (.fin k vs) (.fin k ws)
 | again {vs ws:List D} (h:Srs vs ws):OR (.again vs) (.again ws)
 | done {o o':Out} (h:OR o o'):OR (.done o) (.done o')
def okT (T:Tabs) (S:Nat→Bool):FT→Bool
 | .fin _ _=>true
 | .again _=>true
 | .out k=>okT T S k
 | .bin _ t _ _ k=>nsl T t&&okT T S k
 | .un _ _ k=>okT T S k
 | .conv _ _ _ k=>okT T S k
 | .len _ _ k=>okT T S k
 | .sidx _ _ _ k=>okT T S k
 | .ssl _ _ _ _ k=>okT T S k
 | .lsl e _ _ _ k=>Nat.beq e 25&&okT T S k
 | .bnd _ _ _ k=>okT T S k
 | .ld e _ _ o fl k=>ZCU e o fl&&okT T S k
 | .mk e ag els k=>!Nat.beq e 25&&ZCR ag els&&okT T S k
 | .min _ _ k=>okT T S k
 | .call j _ k1 k2 k3=>S j&&okT T S k1&&okT T S k2&&okT T S k3
 | .br _ k1 k2=>okT T S k1&&okT T S k2
 | .loop _ body=>okT T S body
 | .stop _=>true
 | _=>false
def SrF (S:Nat→Bool) (F:Zd3):Prop:=∀ j,S j=true→∀ (ρ ρ':List D) (r:Nat×List D),Srs ρ ρ'→F j ρ=some r→∃ r',F j ρ'=some r'∧r'.1=r.1∧Srs r.2 r'.2
theorem Zt5 {f g:List D→Option Out} (h:∀ v v' o,Srs v v'→f v=some o→∃ o',g v'=some o'∧OR o o'):∀ n v v' o,Srs v v'→Zgr f n v=some o→∃ o',Zgr g n v'=some o'∧OR o o'
 | 0,_,_,_,_,h=>by simp [Zgr] at h
 | n+1,v,v',o,hv,e=>by
  unfold Zgr at e
  split at e
  · rename_i w hw
    obtain ⟨o',h1,h2⟩:=h v v' _ hv hw
    cases h2 with
    | again hs =>
     obtain ⟨o'',h3,h4⟩:=Zt5 h n _ _ _ hs e
     exact ⟨o'',by unfold Zgr;rw [h1];exact h3,h4⟩
  · rename_i q hq
    obtain ⟨o',h1,h2⟩:=h v v' _ hv hq
    simp only [Option.some.injEq] at e
    subst e
    cases h2 with
    | done hs=>exact ⟨_,by unfold Zgr;rw [h1],hs⟩
  · cases e
section
variable {T:Tabs} {F:Zd3} {S:Nat→Bool} {L:Nat}
theorem Zh8 {k:FT} {δ δ':List D} {o:Out} {f f':Option D} (hd:Srs δ δ') (hf:∀ r,f=some r→∃ r',f'=some r'∧Sr r r') (ih:∀ (δ δ':List D) (o:Out),Srs δ δ'→Zak T F L k δ=some o→∃ o',Zak T F L k δ'=some o'∧OR o o')
    (h:f.bind (fun d=>Zak T F L k (δ++[d]))=some o):∃ o',f'.bind (fun d=>Zak T F L k (δ'++[d]))=some o'∧OR o o':=by
 rw [Option.bind_eq_some_iff] at h
 obtain ⟨d,h1,h2⟩:=h
 obtain ⟨d',h3,h4⟩:=hf d h1
 rw [h3,Option.bind_some]
 exact ih _ _ _ (hd.app (.cons h4 .nil)) h2
theorem ZzQ (hF:SrF S F):∀ (t:FT),okT T S t=true→∀ (δ δ':List D) (o:Out),Srs δ δ'→Zak T F L t δ=some o→∃ o',Zak T F L t δ'=some o'∧OR o o':=by
 intro t
 induction t with
 | fin k vs=>intro _ δ δ' o hd h;rw [Zak] at h ⊢;simp only [Option.some.injEq] at h;subst h;exact ⟨_,rfl,.fin k (hd.dvs vs)⟩
 | again vs=>intro _ δ δ' o hd h;rw [Zak] at h ⊢;simp only [Option.some.injEq] at h;subst h;exact ⟨_,rfl,.again (hd.dvs vs)⟩
 | out k ih =>
  intro hk δ δ' o hd h
  rw [Zak] at h ⊢
  obtain ⟨o',h1,rfl⟩:=Option.map_eq_some_iff.1 h
  obtain ⟨o'',h2,h3⟩:=ih hk _ _ _ hd h1
  exact ⟨_,by rw [h2];rfl,.done h3⟩
 | bin op t a b k ih=>intro hk δ δ' o hd h;unfold okT at hk;rw [Bool.and_eq_true] at hk;rw [Zak] at h ⊢;exact Zh8 hd (fun r hr=>ZxQ (f:=ZeI T op t) (ZCv hk.1) (Sr.dv hd a) (Sr.dv hd b) hr) (ih hk.2) h
 | un op a k ih=>intro hk δ δ' o hd h;rw [Zak] at h ⊢;exact Zh8 hd (fun r hr=>ZE2 (f:=unD op) ZC9 (Sr.dv hd a) hr) (ih hk) h
 | conv s t a k ih=>intro hk δ δ' o hd h;rw [Zak] at h ⊢;exact Zh8 hd (fun r hr=>ZE2 (f:=Zrs T s t) ZzS (Sr.dv hd a) hr) (ih hk) h
 | len str a k ih=>intro hk δ δ' o hd h;rw [Zak] at h ⊢;exact Zh8 hd (fun r hr=>Zzw (Sr.dv hd a) hr) (ih hk) h
 | sidx t a i k ih=>intro hk δ δ' o hd h;rw [Zak] at h ⊢;exact Zh8 hd (fun r hr=>ZxQ (f:=Zkp T t) Zx5 (Sr.dv hd a) (Sr.dv hd i) hr) (ih hk) h
 | ssl t a lo hi k ih=>intro hk δ δ' o hd h;rw [Zak] at h ⊢;exact Zh8 hd (fun r hr=>Zx3 hd (Sr.dv hd a) hr) (ih hk) h
 | lsl e a lo hi k ih=>intro hk δ δ' o hd h;unfold okT at hk;rw [Bool.and_eq_true] at hk;rw [Zak] at h ⊢;exact Zh8 hd (fun r hr=>Zzr hd (Sr.dv hd a) hr hk.1) (ih hk.2) h
 | min a b k ih=>intro hk δ δ' o hd h;rw [Zak] at h ⊢;exact Zh8 hd (fun r hr=>ZxQ ZBL (Sr.dv hd a) (Sr.dv hd b) hr) (ih hk) h
 | bnd e a i k ih =>
  intro hk δ δ' o hd h
  rw [Zak] at h ⊢
  obtain ⟨h1,h2⟩:=ZaK h
  rw [Zz7 (Sr.dv hd a) (Sr.dv hd i) h1,cond_true]
  exact ih hk _ _ _ hd h2
 | ld e a ix p fl k ih =>
  intro hk δ δ' o hd h
  rw [Zak] at h ⊢
  rw [Option.bind_eq_some_iff] at h
  obtain ⟨ds,h1,h2⟩:=h
  unfold okT at hk
  rw [Bool.and_eq_true] at hk
  obtain ⟨ds',h3,h4⟩:=ZBR hk.1 (hd.getD a) h1
  rw [ZBY hd,h3,Option.bind_some]
  exact ih hk.2 _ _ _ (hd.app h4) h2
 | mk e ag els k ih =>
  intro hk δ δ' o hd h
  rw [Zak] at h ⊢
  unfold okT at hk
  rw [Bool.and_eq_true,Bool.and_eq_true] at hk
  obtain ⟨m1,m2⟩:=ZBK δ δ' hk.1.2
  rw [m1]
  exact ih hk.2 _ _ _ (hd.app (.cons (.sl (by simpa using hk.1.1) m2) .nil)) h
 | call j vs k1 k2 k3 ih1 ih2 ih3 =>
  intro hk δ δ' o hd h
  unfold okT at hk
  rw [Bool.and_eq_true,Bool.and_eq_true,Bool.and_eq_true] at hk
  obtain ⟨⟨⟨hj,g1⟩,g2⟩,g3⟩:=hk
  rw [Zak,Option.bind_eq_some_iff] at h
  obtain ⟨r,h1,h2⟩:=h
  obtain ⟨r',h3,h4,h5⟩:=hF j hj _ _ _ (hd.dvs vs) h1
  rw [Zak,h3]
  show ∃ o',(match r'.1 with | 0=>_ | 1=>_ | 2=>_ | _=>_)=some o'∧_
  rw [h4]
  split at h2
  · rename_i hr;rw [hr];exact ih1 g1 _ _ _ (hd.app h5) h2
  · rename_i hr;rw [hr];exact ih2 g2 _ _ _ (hd.app h5) h2
  · rename_i hr;rw [hr];exact ih3 g3 _ _ _ (hd.app h5) h2
  · cases h2
 | br a k1 k2 ih1 ih2 =>
  intro hk δ δ' o hd h
  unfold okT at hk
  rw [Bool.and_eq_true] at hk
  rw [Zak] at h ⊢
  have ha:=Sr.dv hd a
  rcases Zqj h with ⟨e,h1⟩ | ⟨e,h1⟩
  · rw [e] at ha;rw [ha.inv rfl];exact ih1 hk.1 _ _ _ hd h1
  · rw [e] at ha;rw [ha.inv rfl];exact ih2 hk.2 _ _ _ hd h1
 | loop vs body ih =>
  intro hk δ δ' o hd h
  rw [Zak] at h ⊢
  exact Zt5 (fun v v' o hv h=>ih hk _ _ _ (hd.app hv) h) _ _ _ _ (hd.dvs vs) h
 | stop=>intro _ δ δ' o _ h;rw [Zak] at h;cases h
 | _=>intro hk;cases hk
end
theorem ZFM {p:Prg} {hand:Zd3} {S:Nat→Bool} (hS:∀ j,S j=true→∃ t,(Zam p.eng j).map (Zbr p.cfg)=some t∧okT p.T S t=true):∀ n,SrF S (M p hand n)
 | 0=>by
  intro j hj ρ ρ' r _ h
  obtain ⟨t,h1,_⟩:=hS j hj
  unfold M at h
  cases hs:Zam p.eng j with
  | none=>rw [hs] at h1;cases h1
  | some s=>rw [hs] at h;cases h
 | n+1=>by
  intro j hj ρ ρ' r hr h
  obtain ⟨t,h1,h2⟩:=hS j hj
  unfold M at h ⊢
  cases hs:Zam p.eng j with
  | none=>rw [hs] at h1;cases h1
  | some s =>
   rw [hs] at h h1
   simp only [Option.map_some,Option.some.injEq] at h1
   dsimp only at h ⊢
   rw [h1] at h ⊢
   obtain ⟨o',h3,h4⟩:=ZzQ (ZFM hS n) t h2 _ _ _ hr (ZdB.1 h)
   obtain ⟨r1,r2⟩:=r
   generalize hq:Out.fin (r1,r2).1 (r1,r2).2=q at h4
   cases h4 with
   | @fin k vs ws g =>
    simp only [Out.fin.injEq] at hq
    obtain ⟨rfl,rfl⟩:=hq
    exact ⟨(r1,ws),ZdB.2 h3,rfl,g⟩
   | again=>cases hq
   | done=>cases hq
theorem ZEX {p:Prg} {hand:Zd3} {S:Nat→Bool} (hS:∀ j,S j=true→∃ t,(Zam p.eng j).map (Zbr p.cfg)=some t∧okT p.T S t=true):SrF S (ML p hand):=by
 intro j hj ρ ρ' r hr h
 obtain ⟨n,hn⟩:=(ZcD (Zhq p hand)).1 h
 obtain ⟨r',h1,h2,h3⟩:=ZFM hS n j hj _ _ _ hr hn
 exact ⟨r',(ZcD (Zhq p hand)).2 ⟨n,h1⟩,h2,h3⟩
end
section
open Go Go.Proofs B Go.ChangeShapes Go.WideShapes Go.ChangeAt Go.RowKit Go.ChangeMaps
section
variable {α β:Type} (f:α→β) (a d:α) (l m n:List α) (i:Nat)
theorem Ka:(a::l).map f=f a::l.map f:=rfl
theorem Kb:([]:List α).map f=[]:=rfl
theorem Kc:a::l++m=a::(l++m):=rfl
theorem Kd:[]++l=l:=rfl
theorem Ke:l++m++n=l++(m++n):=List.append_assoc l m n
theorem Kf:(a::l).getD 0 d=a:=rfl
theorem Kg:(a::l).getD (i+1) d=l.getD i d:=rfl
theorem Kh (g:α→Option β):(some a).bind g=g a:=rfl
theorem Ki:Option.map f (some a)=some (f a):=rfl
theorem Kj:(false=true)=False:=Bool.false_eq_true
theorem Kk:((i:Int)).toNat=i:=Int.toNat_natCast i
theorem Kl {h:Decidable True}:decide True=true:=decide_true h
end
inductive Tree where
 | mk (k a:Int) (s:ByteArray) (n:Int) (p:Option (List D)) (l:List Tree)
mutual
def Tree.cells:Tree→List D
 | .mk k a s n p l=>[dI .u8 k,dI .i64 a,dS s,dI .u64 n,Zav 25 p (ZnD l)]
def ZnD:List Tree→List D
 | []=>[]
 | t::l=>.ag t.cells::ZnD l
end
def Tree.d (t:Tree):D:=.ag t.cells
theorem Zld:∀ l:List Tree,ZnD l=l.map Tree.d
 | []=>by rw [ZnD];rfl
 | t::l=>by rw [ZnD,Zld l];rfl
theorem Tree.c (k a:Int) (s:ByteArray) (n:Int) (p:Option (List D)) (l:List Tree):(Tree.mk k a s n p l).cells=[dI .u8 k,dI .i64 a,dS s,dI .u64 n,Zav 25 p (l.map Tree.d)]:=by rw [Tree.cells,Zld]
theorem Tree.cells_len (t:Tree):t.cells.length=5:=by cases t;rw [Tree.cells];rfl
mutual
theorem Tree.ind {P:Tree→Prop} (h:∀ k a s n p l,(∀ u,u∈l→P u)→P (.mk k a s n p l)):∀ t,P t
 | .mk k a s n p l=>h k a s n p l (Tree.indL h l)
theorem Tree.indL {P:Tree→Prop} (h:∀ k a s n p l,(∀ u,u∈l→P u)→P (.mk k a s n p l)):∀ l:List Tree,∀ u,u∈l→P u
 | [],u,hu=>by cases hu
 | v::l,u,hu=>by
  rcases List.mem_cons.1 hu with e | hu
  · rw [e];exact Tree.ind h v
  · exact Tree.indL h l u hu
end
theorem Zv2 {α:Type} (f:α→D) {l:List α} {i:Nat} {a:α} (h:l[i]?=some a):(l.map f)[i]?=some (f a):=by rw [List.getElem?_map,h];rfl
theorem Zbl {α:Type} {e:Nat} {f:α→D} {l:List α} {d:D} (h:KG e (l.map f) d):ZcN false d=some (.v (.int .i64 (l.length:Int))):=by rw [ZEh h,List.length_map]
theorem ZbP {α:Type} {e:Nat} {f:α→D} {l:List α} {d:D} (h:KG e (l.map f) d) {i:Nat} (hi:i<l.length):Zcp e d (.v (.int .i64 (i:Int)))=true:=ZFH h (by simpa using hi)
theorem mld {α:Type} {e:Nat} {f:α→D} {l:List α} {d:D} (h:KG e (l.map f) d) {i:Nat} {a:α} (ha:l[i]?=some a) {o:Nat} {fl:List Bool} {r:List D} (hr:((f a).cells.drop o).take fl.length=r) (hf:ZrA fl r=true):ldD e d i o fl=some r:=ldG h (Zv2 f ha) hr hf
theorem ltY {i n:Nat} (h:i<n):ZeI theTabs .lss 3 (.v (.int .i64 (i:Int))) (.v (.int .i64 (n:Int)))=some (.v (.bool true)):=by rw [Zlg];simp;omega
theorem ltN (n:Nat):ZeI theTabs .lss 3 (.v (.int .i64 (n:Int))) (.v (.int .i64 (n:Int)))=some (.v (.bool false)):=by rw [Zlg];simp
theorem Ziu {i:Nat} (h:i<140737488355328):ZeI theTabs .add 3 (.v (.int .i64 (i:Int))) (.v (.int .i64 1))=some (.v (.int .i64 ((i+1:Nat):Int))):=ZCA (by rw [wrap_i64]<;>omega)
theorem Zq7 (b:Bool) (x y:Option Out):(if (!b)=true then x else y)=if b=true then y else x:=by cases b<;>rfl
theorem ldN {l:List Tree} {d:D} {i:Nat} (h:KG 25 (l.map Tree.d) d) {k a:Int} {s:ByteArray} {n:Int} {p:Option (List D)} {m:List Tree} (ha:l[i]?=some (.mk k a s n p m)) :
    ldD 25 d i 0 [true,true,true,true,false]=some [.v (.int .u8 k),.v (.int .i64 a),.v (.string s),.v (.int .u64 n),Zav 25 p (m.map Tree.d)] :=
 mld h ha (by unfold Tree.d D.cells;dsimp only;rw [Tree.c];rfl) rfl
theorem Zct {α:Type} (p:α→Bool) (l:List α) {f:List D→Option Out}
    (hs:∀ i a,i<l.length→l[i]?=some a→f [.v (.int .i64 (i:Int))]=if p a then some (.again [.v (.int .i64 ((i+1:Nat):Int))]) else some (.done (.fin 0 [.v (.bool false)])))
    (he:f [.v (.int .i64 ((l.length:Nat):Int))]=some (.done (.fin 0 [.v (.bool true)]))) :
    ZbJ f [.v (.int .i64 0)]=some (.fin 0 [.v (.bool (l.all p))]):=by
 have:=Zdz (oF:=.fin 0 [.v (.bool false)]) (oT:=.fin 0 [.v (.bool true)]) l p (fun i=>[.v (.int .i64 (i:Int))]) (fun i a ha=>hs i a (List.getElem?_eq_some_iff.1 ha).1 ha) he
 refine this.trans ?_
 cases l.all p<;>rfl
mutual
def Tree.fits:Tree→Prop
 | .mk _ _ s n _ l=>s.data.toList.length<9223372036854775808∧l.length<140737488355328∧Zm8 l
def Zm8:List Tree→Prop
 | []=>True
 | t::l=>t.fits∧Zm8 l
end
theorem Za8:∀ {l:List Tree} {t:Tree},Zm8 l→t∈l→t.fits
 | u::l,t,h,ht=>by
  rw [Zm8] at h
  rcases List.mem_cons.1 ht with e | ht
  · rw [e];exact h.1
  · exact Za8 h.2 ht
 | [],t,_,ht=>by cases ht
theorem ZjS:∀ {l:List Tree},(∀ t,t∈l→t.fits)→Zm8 l
 | [],_=>by rw [Zm8];trivial
 | t::l,h=>by rw [Zm8];exact ⟨h t (by simp),ZjS fun u hu=>h u (by simp [hu])⟩
theorem ZFB {α:Type}:∀ {l:List α},l.length=5→∃ a b c d e,l=[a,b,c,d,e]
 | [a,b,c,d,e],_=>⟨a,b,c,d,e,rfl⟩
section
variable {H:Type} {enc:TypeId×Value→H} {W:World} {base:Nat} {held:Bool} {A:Nat→Prop}
instance:Inhabited Tree:=⟨.mk 0 0 ⟨#[]⟩ 0 none []⟩
theorem few {n b:Nat} (h:n*b≤reachBytes) (hb:0<b):n<140737488355328:=by
 have:n*1≤n*b:=Nat.mul_le_mul_left _ hb
 unfold reachBytes at h
 omega
theorem ZxR (hA:∀ b,A b):∀ (n:Nat) {cs:List Value} {x:DataW H×List MemPlace},DataW.trod enc Tryz.prog W base (fun _=>true) held n 25 cs=some x→Wok 25 x.1→∃ t:Tree,t.fits∧t.d.cells.length=5∧cs.length=5∧Cin W A t.d.cells cs:=by
 intro n
 induction n using Nat.strongRecOn with
 | _ n ih =>
 intro cs x h hw
 obtain ⟨xs,n',rfl,rfl,hl,hxl,hf⟩:=DataW.trod_struct (Zmt Tryz.underlying25) h
 have hl5:cs.length=5:=by rw [hl,ZuI]
 obtain ⟨v0,v1,v2,v3,v4,rfl⟩:=ZFB hl5
 have hx5:xs.length=5:=hxl
 have h0:DataW.trod enc Tryz.prog W base (fun _=>true) held n' 5 ((([v0,v1,v2,v3,v4]:List Value).drop 0).take (Tryz.prog.cellsOf 5))=xs[0]?:=hf 0 _ rfl
 have h1:DataW.trod enc Tryz.prog W base (fun _=>true) held n' 3 ((([v0,v1,v2,v3,v4]:List Value).drop 1).take (Tryz.prog.cellsOf 3))=xs[1]?:=hf 1 _ rfl
 have h2:DataW.trod enc Tryz.prog W base (fun _=>true) held n' 9 ((([v0,v1,v2,v3,v4]:List Value).drop 2).take (Tryz.prog.cellsOf 9))=xs[2]?:=hf 2 _ rfl
 have h3:DataW.trod enc Tryz.prog W base (fun _=>true) held n' 22 ((([v0,v1,v2,v3,v4]:List Value).drop 3).take (Tryz.prog.cellsOf 22))=xs[3]?:=hf 3 _ rfl
 have h4:DataW.trod enc Tryz.prog W base (fun _=>true) held n' 23 ((([v0,v1,v2,v3,v4]:List Value).drop 4).take (Tryz.prog.cellsOf 23))=xs[4]?:=hf 4 _ rfl
 have hw2:∀ y,xs[4]?=some y→Wok 23 y.1:=fun y hy=>hw.field (Zmt Tryz.underlying25) (i:=4) rfl (by rw [List.getElem?_map,hy];rfl)
 rw [List.getElem?_eq_getElem (by omega)] at h0 h1 h2 h3 h4
 simp only [ZCp,ZCq,ZzZ,ZCo,ZzY,List.drop_zero,List.drop_succ_cons,List.take_succ_cons,List.take_zero] at h0 h1 h2 h3 h4
 obtain ⟨k,e0,_⟩:=DataW.trod_int Tryz.underlying5 h0
 obtain ⟨a,e1,_⟩:=DataW.trod_int Tryz.underlying3 h1
 obtain ⟨s,e2,_,hs⟩:=DataW.trod_string Tryz.underlying9 h2
 obtain ⟨b,e3,_⟩:=DataW.trod_int Tryz.underlying22 h3
 simp only [List.cons.injEq,and_true] at e0 e1 e2 e3
 subst e0;subst e1;subst e2;subst e3
 obtain ⟨sp,l,g0,g1,g2,g3⟩:=Zvs (W:=W) hA Tree.d Tree.fits ZuI (by decide) (by kernel_rfl) (Zmt Tryz.underlying23) h4 (hw2 _ (List.getElem?_eq_getElem (by omega))) (fun m cs x hm hx hw3=>ih m (by omega) hx hw3)
 refine ⟨.mk k a s b sp l,?_,Tree.cells_len _,rfl,?_⟩
 · rw [Tree.fits]
   exact ⟨by unfold maxLen at hs;rw [Array.length_toList];have:s.data.size=s.size:=rfl;omega,few g1 (of_decide_eq_true (by kernel_rfl)),ZjS g0⟩
 unfold Tree.d D.cells
 dsimp only
 rw [Tree.c]
 exact Cin.v rfl rfl (Cin.v rfl rfl (Cin.v rfl rfl (Cin.v rfl rfl (Cin.cons g2 g3 Cin.nil))))
end
end
section
open Go B Go.Proofs
variable {hand:Zd3}
theorem ZkH (a b:Int):ZeI theTabs .geq 5 (.v (.int .u8 a)) (.v (.int .u8 b))=some (.v (.bool (decide (a≥b)))):=by kernel_rfl
theorem ZkG (a b:Int):ZeI theTabs .leq 5 (.v (.int .u8 a)) (.v (.int .u8 b))=some (.v (.bool (decide (a≤b)))):=by kernel_rfl
theorem Zau (a b:Int):ZeI theTabs .eql 22 (.v (.int .u64 a)) (.v (.int .u64 b))=some (.v (.bool (decide (a=b)))):=by kernel_rfl
theorem Zit (a b:Int):ZeI theTabs .leq 22 (.v (.int .u64 a)) (.v (.int .u64 b))=some (.v (.bool (decide (a≤b)))):=by kernel_rfl
theorem Zwx (a b:Int):ZeI theTabs .add 3 (.v (.int .i64 a)) (.v (.int .i64 b))=some (.v (.int .i64 (IntKind.wrap .i64 (a+b)))):=by kernel_rfl
def ZdY (c:Int):Bool:=decide (97≤c∧c≤122)||decide (65≤c∧c≤90)||decide (c=95)
def azs:D:=.sl 5 [dI .u8 97,dI .u8 122,dI .u8 65,dI .u8 90,dI .u8 95,dI .u8 95] []
theorem ZDV (c:Int) (i a b:Int) (j:Int) (h:(i,a,b,j)∈[((0:Int),(97:Int),(122:Int),(2:Int)),(2,65,90,4),(4,95,95,6)]):Zad theTabs (ML prg hand) Zeq [dI .u8 c,azs,dI .i64 i] =
    brD (dB (decide (c≥a))) (brD (dB (decide (c≤b))) (some (.done (.fin 0 [dB true]))) (some (.again [dI .i64 j]))) (some (.again [dI .i64 j])):=by
 simp only [List.mem_cons,Prod.mk.injEq,List.not_mem_nil,or_false] at h
 rcases h with ⟨rfl,rfl,rfl,rfl⟩ | ⟨rfl,rfl,rfl,rfl⟩ | ⟨rfl,rfl,rfl,rfl⟩
 · kernel_rfl
 · kernel_rfl
 · kernel_rfl
theorem ZGE (c:Int):Zad theTabs (ML prg hand) Zeq [dI .u8 c,azs,dI .i64 6]=some (.done (.fin 0 [dB false])):=by kernel_rfl
theorem ZFh (c:Int):ML prg hand 129 [dI .u8 c]=some (0,[dB (ZdY c)]):=by
 rw [Zah ZDC]
 show Zdd (ZbJ (fun v=>Zad theTabs (ML prg hand) Zeq ([dI .u8 c,azs]++v)) [dI .i64 0])=_
 rw [ZbF]
 simp only [Kc,Kd]
 rw [ZDV c 0 97 122 2 (by simp),brB,brB]
 have h2:ZbJ (fun v=>Zad theTabs (ML prg hand) Zeq (dI .u8 c::azs::v)) [dI .i64 2]=some (.fin 0 [dB (decide (65≤c∧c≤90)||decide (c=95))]):=by
  rw [ZbF,ZDV c 2 65 90 4 (by simp),brB,brB]
  have h4:ZbJ (fun v=>Zad theTabs (ML prg hand) Zeq (dI .u8 c::azs::v)) [dI .i64 4]=some (.fin 0 [dB (decide (c=95))]):=by
   rw [ZbF,ZDV c 4 95 95 6 (by simp),brB,brB]
   have h6:ZbJ (fun v=>Zad theTabs (ML prg hand) Zeq (dI .u8 c::azs::v)) [dI .i64 6]=some (.fin 0 [dB false]):=by
    rw [ZbF,ZGE]
   by_cases h1:c≥95<;>by_cases h2:c≤95<;>simp [h1,h2,h6]<;>omega
  by_cases h1:c≥65<;>by_cases h2:c≤90<;>simp [h1,h2,h4]<;>omega
 unfold ZdY
 by_cases h1:c≥97<;>by_cases h3:c≤122<;>simp [h1,h3,h2,Zdd]<;>omega
theorem ZFi (c:Int):ML prg hand 125 [dI .u8 c]=some (0,[dB (ZdY c)]):=by
 rw [Zah ZBu];unfold ZxU
 simp only [Zad,dv,Ka,Kb,Kc,Kd,Kf,Kg,Kh,ZaR,ZkH,ZkG,brB]
 unfold ZdY
 by_cases h1:97≤c<;>by_cases h2:c≤122<;>by_cases h3:65≤c<;>by_cases h4:c≤90<;>simp [h1,h2,h3,h4,Zdd]<;>omega
theorem t94 (s:ByteArray):ML prg hand 94 [dS s]=some (0,[dI .u64 (if Zax s (str [105,56]) then 255 else if Zax s (str [105,51,50]) then 4294967295 else 18446744073709551615)]):=by
 rw [Zah ZFn];unfold ZDb
 simp only [Zad,dv,Ka,Kb,Kc,Kd,Kf,Kg,Kh,Zca,brB]
 cases Zax s (str [105,56])<;>cases Zax s (str [105,51,50])<;>rfl
theorem Zvu {s:ByteArray} {n:Nat} {b:UInt8} (h:s.data.toList[n]?=some b):Zkp theTabs 9 (dS s) (.v (.int .i64 (n:Int)))=some (dI .u8 b.toNat):=by
 have hu:theTabs.und 9=some .string:=by kernel_rfl
 unfold Zkp ZdC
 dsimp only
 rw [hu]
 show Option.map D.v (okV (match s.data.toList[n]? with | some b=>fV (Value.int IntKind.u8 ↑b.toNat) | none=>none))=_
 rw [h];rfl
theorem ZeU {n:Nat} (h:n+1<9223372036854775808):IntKind.wrap .i64 ((n:Int)+1)=((n+1:Nat):Int):=by rw [wrap_i64 (by omega) (by omega)];rfl
def Zqe (c:Int):Bool:=decide (48≤c∧c≤57)
def Zlk (b:UInt8):Bool:=ZdY b.toNat||Zqe b.toNat
def Zry (l:List UInt8) (i:Nat):Nat:=i+((l.drop i).takeWhile Zlk).length
theorem ZvD {l:List UInt8} {i:Nat} (h:l.length≤i):Zry l i=i:=by unfold Zry;rw [List.drop_eq_nil_of_le h];rfl
theorem Ztb {l:List UInt8} {i:Nat} {b:UInt8} (h:l[i]?=some b):Zry l i=if Zlk b then Zry l (i+1) else i:=by
 have hi:=(List.getElem?_eq_some_iff.1 h)
 obtain ⟨hl,he⟩:=hi
 unfold Zry
 rw [List.drop_eq_getElem_cons hl,he,List.takeWhile_cons]
 cases Zlk b with
 | true=>simp;omega
 | false=>simp
theorem ZGs (s:ByteArray) (f0:D) {i:Nat} {b:UInt8} (h:s.data.toList[i]?=some b) (hl:s.data.toList.length<9223372036854775808):Zad theTabs (ML prg hand) ZgI [dS s,f0,dI .i64 i] =
    if Zlk b then some (.again [dI .i64 ((i+1:Nat):Int)]) else some (.done (.fin 0 [dI .i64 i])):=by
 have hi:=(List.getElem?_eq_some_iff.1 h).1
 unfold ZgI
 simp only [Zad,dv,Ka,Kb,Kc,Kd,Ke,Kf,Kg,Kh,Ki,ZkH,ZkG,Zlg,brB,ZpS,Zvu h,ZFi,Zwx]
 have h1:decide ((i:Int)<(s.data.toList.length:Int))=true:=by simpa using hi
 rw [h1,ZeU (by omega)]
 unfold Zlk Zqe
 by_cases h2:(48:Int)≤b.toNat<;>by_cases h3:(b.toNat:Int)≤57<;>cases ZdY b.toNat<;>simp [h2,h3]
theorem ZvU (e:Nat) (l x:List D):ZcN false (.sl e l x)=some (dI .i64 l.length):=rfl
theorem ZjK {f:List D→Option Out} (l:List UInt8) (hs:∀ i b,l[i]?=some b→f [dI .i64 (i:Nat)]=if Zlk b then some (.again [dI .i64 ((i+1:Nat):Int)]) else some (.done (.fin 0 [dI .i64 i])))
    (he:f [dI .i64 (l.length:Nat)]=some (.done (.fin 0 [dI .i64 (l.length:Nat)]))):∀ (k i:Nat),i+k=l.length→ZbJ f [dI .i64 i]=some (.fin 0 [dI .i64 (Zry l i)])
 | 0,i,h=>by
  obtain rfl:i=l.length:=by omega
  rw [ZbF,he,ZvD (Nat.le_refl _)]
 | k+1,i,h=>by
  obtain ⟨b,hb⟩:∃ b,l[i]?=some b:=⟨_,List.getElem?_eq_getElem (by omega)⟩
  rw [ZbF,hs i b hb,Ztb hb]
  cases Zlk b with
  | true=>exact ZjK l hs he k (i+1) (by omega)
  | false=>rfl
theorem ZFV (s:ByteArray) {i:Nat} (hi:i≤s.data.toList.length) (hl:s.data.toList.length<9223372036854775808):ML prg hand 126 [dS s,dI .i64 i]=some (0,[dI .i64 (Zry s.data.toList i)]):=by
 rw [Zah ZBt]
 show Zdd (ZbJ (fun v=>Zad theTabs (ML prg hand) ZgI ([dS s,dI .i64 i]++v)) [dI .i64 i])=_
 rw [ZjK s.data.toList (fun j b hb=>ZGs s _ hb hl) ?_ (s.data.toList.length-i) i (by omega)]
 · rfl
 · unfold ZgI
   simp only [Zad,dv,Ka,Kb,Kc,Kd,Ke,Kf,Kg,Kh,Ki,Zlg,brB,ZpS]
   have:decide ((s.data.toList.length:Int)<(s.data.toList.length:Int))=false:=by simp
   rw [this];rfl
def dgs:D:=.sl 5 [dI .u8 48,dI .u8 57] []
theorem ZGo (s:ByteArray) (n c:Int) (l lt b p:D):Zad theTabs (ML prg hand) ZgG [dS s,dI .i64 n,l,lt,b,p,dI .u8 c,dgs,dI .i64 0] =
    brD (dB (decide (c≥48))) (brD (dB (decide (c≤57))) (some (.done (.again [dI .i64 (IntKind.wrap .i64 (n+1))]))) (some (.again [dI .i64 2]))) (some (.again [dI .i64 2])):=by kernel_rfl
theorem ZGn (s:ByteArray) (n c:Int) (l lt b p:D):Zad theTabs (ML prg hand) ZgG [dS s,dI .i64 n,l,lt,b,p,dI .u8 c,dgs,dI .i64 2]=some (.done (.done (.fin 0 [dI .i64 n]))):=by kernel_rfl
theorem ldg (s:ByteArray) (n c:Int) (l lt b p:D):ZbJ (fun v=>Zad theTabs (ML prg hand) ZgG (dS s::dI .i64 n::l::lt::b::p::dI .u8 c::dgs::v)) [dI .i64 0] =
    if Zqe c then some (.again [dI .i64 (IntKind.wrap .i64 (n+1))]) else some (.done (.fin 0 [dI .i64 n])):=by
 have h2:ZbJ (fun v=>Zad theTabs (ML prg hand) ZgG (dS s::dI .i64 n::l::lt::b::p::dI .u8 c::dgs::v)) [dI .i64 2]=some (.done (.fin 0 [dI .i64 n])):=by
  rw [ZbF,ZGn]
 rw [ZbF,ZGo,brB,brB]
 unfold Zqe
 by_cases h1:c≥48<;>by_cases h3:c≤57<;>simp [h1,h3,h2]<;>omega
theorem Zc3 (d:D):Zf0 false [d]=d:=rfl
theorem ZGr (s:ByteArray) {i:Nat} {b:UInt8} (h:s.data.toList[i]?=some b) (hl:s.data.toList.length<9223372036854775808):Zad theTabs (ML prg hand) ZgH [dS s,dI .i64 i] =
    if Zlk b then some (.again [dI .i64 ((i+1:Nat):Int)]) else some (.done (.fin 0 [dI .i64 i])):=by
 have hi:=(List.getElem?_eq_some_iff.1 h).1
 have hd:=ldg (hand:=hand) s i b.toNat (dI .i64 s.data.toList.length) (dB true) (dI .u8 b.toNat) (dB false)
 unfold dgs at hd
 have h1:decide ((i:Int)<(s.data.toList.length:Int))=true:=by simpa using hi
 unfold ZgH
 simp only [Zad,dv,Ka,Kb,Kc,Kd,Ke,Kf,Kg,Kh,Ki,Zlg,brB,ZpS,Zvu h,ZFh,Zwx,Zc3,h1]
 unfold Zlk
 cases hp:ZdY b.toNat with
 | true=>simp [ZeU (show i+1<9223372036854775808 by omega)]
 | false =>
  simp only [Kj,if_false,if_true,Bool.false_or]
  refine (congrArg _ rfl).trans (hd.trans ?_)
  rw [ZeU (by omega)]
theorem ZFT (s:ByteArray) (hl:s.data.toList.length<9223372036854775808):ML prg hand 130 [dS s]=some (0,[dI .i64 (Zry s.data.toList 0)]):=by
 rw [Zah ZDB]
 show Zdd (ZbJ (fun v=>Zad theTabs (ML prg hand) ZgH ([dS s]++v)) [dI .i64 ((0:Nat):Int)])=_
 rw [ZjK s.data.toList (fun j b hb=>ZGr s hb hl) ?_ (s.data.toList.length) 0 (by omega)]
 · rfl
 · unfold ZgH
   simp only [Zad,dv,Ka,Kb,Kc,Kd,Ke,Kf,Kg,Kh,Ki,Zlg,brB,ZpS]
   have:decide ((s.data.toList.length:Int)<(s.data.toList.length:Int))=false:=by simp
   rw [this];rfl
theorem ZFI {e:Nat} {l x:List D} {k:IntKind} {i:Nat} (h:i<l.length):Zcp e (.sl e l x) (.v (.int k (i:Int)))=true:=by
 show (Nat.beq e e&&Nat.blt i l.length)=true
 simp [Nat.blt];omega
theorem ldC {e:Nat} {l x:List D} {i:Nat} {v:Value} (h:l[i]?=some (.v v)):ldD e (.sl e l x) i 0 [true]=some [.v v]:=by
 unfold ldD
 dsimp only
 rw [h]
 show (bif Nat.beq e e&&ZrA [true] [D.v v] then some [D.v v] else none)=_
 simp [ZrA,isV]
theorem s85 (s u:ByteArray) (ss:List ByteArray) (x:List D) {i:Nat} (h:ss[i]?=some u) (hl:ss.length<9223372036854775808):Zad theTabs (ML prg hand) Zi1 [dS s,.sl 9 (ss.map dS) x,dI .i64 i] =
    if !Zax u s then some (.again [dI .i64 ((i+1:Nat):Int)]) else some (.done (.fin 0 [dB true])):=by
 have hi:=(List.getElem?_eq_some_iff.1 h).1
 have hg:(ss.map dS)[i]?=some (.v (.string u)):=by rw [List.getElem?_map,h];rfl
 have h1:decide ((i:Int)<(ss.length:Int))=true:=by simpa using hi
 unfold Zi1
 simp only [Zad,dv,ixD,Ka,Kb,Kc,Kd,Ke,Kf,Kg,Kh,Ki,Zlg,Zca,brB,cond_true,ZvU,List.length_map,ZFI (e:=9) (l:=ss.map dS) (x:=x) (k:=.i64) (i:=i) (by simpa using hi),ldC hg,Kk,Zwx,h1]
 rw [ZeU (by omega)]
 cases Zax u s<;>rfl
theorem t85 (s:ByteArray) (ss:List ByteArray) (x:List D) (hl:ss.length<9223372036854775808):ML prg hand 85 [dS s,.sl 9 (ss.map dS) x]=some (0,[dB (ss.any fun u=>Zax u s)]):=by
 rw [Zah ZFp]
 show Zdd (ZbJ (fun v=>Zad theTabs (ML prg hand) Zi1 ([dS s,.sl 9 (ss.map dS) x]++v)) [dI .i64 ((0:Nat):Int)])=_
 rw [Zdz (oF:=.fin 0 [dB true]) (oT:=.fin 0 [dB false]) ss (fun u=>!Zax u s) (fun i=>[dI .i64 (i:Nat)]) (fun i u hu=>s85 s u ss x hu hl) ?_]
 · have:(ss.any fun u=>Zax u s) = !(ss.all fun u=>!Zax u s):=by simp [List.not_all_eq_any_not]
   rw [this]
   cases (ss.all fun u=>!Zax u s)<;>rfl
 · unfold Zi1
   simp only [Zad,dv,ixD,Ka,Kb,Kc,Kd,Ke,Kf,Kg,Kh,Ki,Zlg,brB,ZvU,List.length_map]
   have:decide ((ss.length:Int)<(ss.length:Int))=false:=by simp
   rw [this];rfl
theorem ZGq (s u:ByteArray) (ss:List ByteArray) (x:List D) {i:Nat} (h:ss[i]?=some u) (hl:ss.length<9223372036854775808):Zad theTabs (ML prg hand) ZgF [dS s,.sl 9 (ss.map dS) x,dI .i64 ss.length,dI .i64 i] =
    if !Zax s u then some (.again [dI .i64 ((i+1:Nat):Int)]) else some (.done (.fin 0 [dB true])):=by
 have hi:=(List.getElem?_eq_some_iff.1 h).1
 have hg:(ss.map dS)[i]?=some (.v (.string u)):=by rw [List.getElem?_map,h];rfl
 have h1:decide ((i:Int)<(ss.length:Int))=true:=by simpa using hi
 unfold ZgF
 simp only [Zad,dv,ixD,Ka,Kb,Kc,Kd,Ke,Kf,Kg,Kh,Ki,Zlg,Zca,brB,cond_true,ZFI (e:=9) (l:=ss.map dS) (x:=x) (k:=.i64) (i:=i) (by simpa using hi),ldC hg,Kk,Zwx,h1]
 rw [ZeU (by omega)]
 cases Zax s u<;>rfl
theorem ZFD (s:ByteArray) (ss:List ByteArray) (x:List D) (hl:ss.length<9223372036854775808):ZbJ (fun v=>Zad theTabs (ML prg hand) ZgF ([dS s,.sl 9 (ss.map dS) x,dI .i64 ss.length]++v)) [dI .i64 ((0:Nat):Int)]=some (.fin 0 [dB (ss.any fun u=>Zax s u)]):=by
 rw [Zdz (oF:=.fin 0 [dB true]) (oT:=.fin 0 [dB false]) ss (fun u=>!Zax s u) (fun i=>[dI .i64 (i:Nat)]) (fun i u hu=>ZGq s u ss x hu hl) ?_]
 · have:(ss.any fun u=>Zax s u) = !(ss.all fun u=>!Zax s u):=by simp [List.not_all_eq_any_not]
   rw [this]
   cases (ss.all fun u=>!Zax s u)<;>rfl
 · unfold ZgF
   simp only [Zad,dv,ixD,Ka,Kb,Kc,Kd,Ke,Kf,Kg,Kh,Ki,Zlg,brB]
   have:decide ((ss.length:Int)<(ss.length:Int))=false:=by simp
   rw [this];rfl
theorem ZFR (s:ByteArray) (ss:List ByteArray) (x:List D) (hl:ss.length<9223372036854775808):ML prg hand 152 [dS s,.sl 9 (ss.map dS) x]=some (0,[dB (ss.any fun u=>Zax s u)]):=by
 rw [Zah ZDz]
 unfold ZAT
 simp only [Zad,dv,Ka,Kb,Kc,Kd,Kf,Kg,Kh,ZvU,List.length_map]
 exact congrArg Zdd (ZFD s ss x hl)
def keptL:List ByteArray:=[str [114,101,99,111,114,100],str [102,110],str [118,97,114],str [105,102],str [101,108,115,101],str [119,104,105,108,101],str [102,111,114],str [115,119,105,116,99,104],str [99,97,115,101],str [100,101,102,97,117,108,116],str [98,114,101,97,107],str [99,111,110,116,105,110,117,101],str [114,101,116,117,114,110],str [116,114,97,112],str [110,101,119],str [116,114,117,101],str [102,97,108,115,101],str [105,56],str [105,51,50],str [105,54,52],str [98,111,111,108],str [98,121,116,101,115],str [108,101,110],str [99,117,116],str [98,121,116,101],str [112,117,115,104],str [112,111,112]]
def Zt4 (s:ByteArray):Bool:=keptL.any fun u=>Zax s u
theorem ZFS (s:ByteArray):ML prg hand 131 [dS s]=some (0,[dB (Zt4 s)]):=by
 rw [Zah ZDA]
 unfold ZAU
 simp only [Zad,dv,Ka,Kb,Kc,Kd,Kf,Kg,Zc3]
 have:=ZFR (hand:=hand) s keptL [] (by decide)
 unfold keptL at this
 simp only [Ka,Kb] at this
 rw [this];rfl
theorem ZFU (s:ByteArray):ML prg hand 127 [dS s]=some (0,[dB (Zt4 s)]):=by
 rw [Zah ZBs]
 unfold ZxT
 simp only [Zad,dv,Ka,Kb,Kc,Kd,Kf,Kg,Kh,Zc3,ZvU]
 exact congrArg Zdd (ZFD s keptL [] (by decide))
theorem Zaq (s:ByteArray):Zax s (str [])=s.data.toList.isEmpty:=by
 show Zc2 s.data.toList []=_
 cases s.data.toList<;>rfl
def Zbc (s:ByteArray):Bool:=match s.data.toList with
 | []=>false
 | b::_=>ZdY b.toNat&&decide ((Zry s.data.toList 0:Int)=s.data.toList.length)&&!Zt4 s
theorem t98 (s:ByteArray) (hl:s.data.toList.length<9223372036854775808):ML prg hand 98 [dS s]=some (0,[dB (Zbc s)]):=by
 rw [Zah ZF9]
 unfold ZE3 Zbc
 simp only [Zad,dv,Ka,Kb,Kc,Kd,Ke,Kf,Kg,Kh,Zww,brB,Zaq]
 cases h:s.data.toList with
 | nil=>rfl
 | cons b l =>
  have h0:=Zvu (s:=s) (n:=0) (b:=b) (by rw [h];rfl)
  have h0':Zkp theTabs 9 (dS s) (.v (.int .i64 0))=some (dI .u8 b.toNat):=h0
  have hr:=ZFT (hand:=hand) s hl
  rw [h] at hr
  simp only [Kc,Kd,Kf,Kg,Kh,ZdG,ZcM,brB,h0',ZFh,hr,ZpS,h,ZFS]
  cases ZdY b.toNat with
  | false=>rfl
  | true =>
   cases hd:decide ((Zry (b::l) 0:Int)=(b::l).length)<;>cases Zt4 s<;>simp [Zdd]
theorem t87 (s:ByteArray) (hl:s.data.toList.length<9223372036854775808):ML prg hand 87 [dS s]=some (0,[dB (Zbc s)]):=by
 rw [Zah ZFo]
 unfold ZDc Zbc
 simp only [Zad,dv,Ka,Kb,Kc,Kd,Ke,Kf,Kg,Kh,Zww,brB,Zaq]
 cases h:s.data.toList with
 | nil=>rfl
 | cons b l =>
  have h0:=Zvu (s:=s) (n:=0) (b:=b) (by rw [h];rfl)
  have h0':Zkp theTabs 9 (dS s) (.v (.int .i64 0))=some (dI .u8 b.toNat):=h0
  have hr:ML prg hand 126 [dS s,.v (.int .i64 0)]=some (0,[dI .i64 (Zry s.data.toList 0)]):=ZFV (hand:=hand) s (i:=0) (Nat.zero_le _) hl
  rw [h] at hr
  simp only [Kc,Kd,Kf,Kg,Kh,ZdG,ZcM,brB,h0',ZFi,hr,ZpS,h,ZFU]
  cases ZdY b.toNat with
  | false=>rfl
  | true =>
   cases hd:decide ((Zry (b::l) 0:Int)=(b::l).length)<;>cases Zt4 s<;>simp [Zdd]
def ZAz (s:ByteArray):Int:=if Zax s (str [105,56]) then 255 else if Zax s (str [105,51,50]) then 4294967295 else 18446744073709551615
def ZgP (s:ByteArray):Bool:=Zax s (str [105,54,52])||Zax s (str [105,51,50])||Zax s (str [105,56])
theorem t63 (k a:Int) (s:ByteArray) (n:Int) (d:D) (hl:s.data.toList.length<9223372036854775808):ML prg hand 63 [dI .u8 k,dI .i64 a,dS s,dI .u64 n,d]=some (0,[dB (Zbc s&&decide (n=0))]):=by
 rw [Zah ZGh]
 unfold ZFb
 simp only [Zad,dv,Ka,Kb,Kc,Kd,Kf,Kg,Kh,Zau,brB,t98 s hl]
 cases Zbc s<;>rfl
end
section
open Go B Go.Proofs
variable {hand:Zd3}
def ZaF (s:ByteArray):Bool:=s.data.toList.isEmpty
def ZAO (s:ByteArray):Bool:=Zax s (str [105,56])||Zax s (str [105,51,50])||Zax s (str [105,54,52])||Zax s (str [98,111,111,108])||Zax s (str [98,121,116,101,115])
theorem t76 (s:ByteArray):ML prg hand 76 [dS s]=some (0,[dI .u64 (if ZaF s||ZgP s then ZAz s else 0),dB (ZaF s||ZgP s)]):=by
 rw [Zah ZGe]
 unfold ZE8
 simp only [Zad,dv,Ka,Kb,Kc,Kd,Kf,Kg,Kh,Zca,brB,Zaq]
 unfold ZaF ZgP ZAz
 have x1:Zax s (str [105,56])=true→Zax s (str [105,51,50])=false∧Zax s (str [105,54,52])=false:=by
  intro h;rw [ZbE,decide_eq_true_eq] at h;subst h;decide
 have x2:Zax s (str [105,51,50])=true→Zax s (str [105,54,52])=false:=by
  intro h;rw [ZbE,decide_eq_true_eq] at h;subst h;decide
 have x3:s.data.toList.isEmpty=true→Zax s (str [105,56])=false∧Zax s (str [105,51,50])=false∧Zax s (str [105,54,52])=false:=by
  intro h
  rw [←Zaq,ZbE,decide_eq_true_eq] at h;subst h;decide
 cases h0:s.data.toList.isEmpty<;>cases h1:Zax s (str [105,56])<;>cases h2:Zax s (str [105,51,50])<;>cases h3:Zax s (str [105,54,52])<;>simp_all [Zdd]
def ZB2 (k:Int) (s:ByteArray) (n:Int) (len:Nat):Bool:=decide (k=40)&&(ZaF s||ZgP s)&&decide (n≤ZAz s)&&decide (len=0)
theorem t74 (k a:Int) (s:ByteArray) (n:Int) (sp:Option (List D)) (l:List Tree):ML prg hand 74 [dI .u8 k,dI .i64 a,dS s,dI .u64 n,Zav 25 sp (l.map Tree.d)]=some (0,[dB (ZB2 k s n l.length)]):=by
 rw [Zah ZGf]
 have hlen:=Zbl (Zar 25 sp (l.map Tree.d))
 generalize Zav 25 sp (l.map Tree.d)=d at *
 unfold ZE9
 simp only [Zad,dv,Ka,Kb,Kc,Kd,Ke,Kf,Kg,Kh,ZaR,Zit,ZdG,brB,t76,hlen]
 unfold ZB2
 have e:decide ((l.length:Int)=0)=decide (l.length=0):=by simp
 rw [e]
 cases hq:(ZaF s||ZgP s) with
 | true =>
  simp only [if_true]
  cases decide (k=40)<;>cases decide (n≤ZAz s)<;>cases decide (l.length=0)<;>simp [Zdd]
 | false=>cases decide (k=40)<;>simp [Zdd]
theorem Zod (s:ByteArray):ML prg hand 85 [dS s,.sl 9 [dS (str [105,56]),dS (str [105,51,50]),dS (str [105,54,52])] []]=some (0,[dB (ZgP s)]):=by
 have h:=t85 (hand:=hand) s [str [105,56],str [105,51,50],str [105,54,52]] [] (by decide)
 have hc:∀ u,Zax u s=Zax s u:=fun u=>by rw [ZbE,ZbE];exact decide_eq_decide.2 eq_comm
 refine h.trans ?_
 unfold ZgP
 simp only [List.any_cons,List.any_nil,hc,Bool.or_false]
 cases Zax s (str [105,56])<;>cases Zax s (str [105,51,50])<;>cases Zax s (str [105,54,52])<;>rfl
theorem ZFQ (s:ByteArray):ML prg hand 94 [dS s]=some (0,[dI .u64 (ZAz s)]):=t94 s
theorem Zx1 (k a:Int) (s:ByteArray) (n:Int) (sp:Option (List D)) (l:List Tree):ML prg hand 4809 [dI .u8 k,dI .i64 a,dS s,dI .u64 n,Zav 25 sp (l.map Tree.d)]=some (0,[dB (ZB2 k s n l.length)]):=by
 rw [Zah Zxc]
 have hlen:=Zbl (Zar 25 sp (l.map Tree.d))
 generalize Zav 25 sp (l.map Tree.d)=d at *
 unfold Zr9
 simp only [Zad,dv,Ka,Kb,Kc,Kd,Ke,Kf,Kg,Kh,ZaR,Zit,ZdG,Zca,brB,ZFQ,hlen,Zaq,Zc3,Zod]
 unfold ZB2 ZaF
 have e:decide ((l.length:Int)=0)=decide (l.length=0):=by simp
 rw [e]
 cases s.data.toList.isEmpty<;>cases ZgP s<;>cases decide (k=40)<;>cases decide (n≤ZAz s)<;>cases decide (l.length=0)<;>simp [Zdd]
end
section
open Go B Go.Proofs
variable {hand:Zd3}
noncomputable def tv (hand:Zd3) (j:Nat) (t:Tree):Bool:=match ML prg hand j t.cells with
 | some (0,[.v (.bool b)])=>b
 | _=>false
def Ok (hand:Zd3) (j:Nat) (t:Tree):Prop:=ML prg hand j t.cells=some (0,[.v (.bool (tv hand j t))])
def sh2 (p q:Tree→Bool):List Tree→Bool
 | [x,y]=>p x&&q y
 | _=>false
theorem ZsI (p q:Tree→Bool) (x y:Tree):sh2 p q [x,y]=(p x&&q y):=rfl
theorem Zf3 {p q:Tree→Bool} {l:List Tree} (h:l.length≠2):sh2 p q l=false:=by
 unfold sh2
 split
 · exact absurd rfl h
 · rfl
theorem ZqB {j:Nat} {t:Tree} {b:Bool} (h:ML prg hand j t.cells=some (0,[.v (.bool b)])):tv hand j t=b:=by unfold tv;rw [h];rfl
theorem Zwz {j:Nat} {t:Tree} {b:Bool} (h:ML prg hand j t.cells=some (0,[.v (.bool b)])):Ok hand j t:=by unfold Ok;rw [ZqB h];exact h
theorem Ok.c {j:Nat} {k a:Int} {s:ByteArray} {n:Int} {p:Option (List D)} {l:List Tree} (h:Ok hand j (.mk k a s n p l)) :
    ML prg hand j [.v (.int .u8 k),.v (.int .i64 a),.v (.string s),.v (.int .u64 n),Zav 25 p (l.map Tree.d)]=some (0,[.v (.bool (tv hand j (.mk k a s n p l)))]):=by
 unfold Ok at h;rw [Tree.c] at h;exact h
theorem Zvn {l:List Tree} {d:D} (h:KG 25 (l.map Tree.d) d) (hl:l.length<140737488355328) (ih:∀ t,t∈l→Ok hand 39 t):ML prg hand 6739 [d]=some (0,[.v (.bool (l.all (tv hand 39)))]):=by
 rw [Zah ZBf]
 unfold ZwH
 simp only [Zad,dv,Ka,Kb,Kc,Kd,Kf,Kh,Zbl h]
 refine (congrArg Zdd (Zct (tv hand 39) l (fun i a hi ha=>?_) ?_)).trans rfl
 · have r1:=ih a (List.mem_of_getElem? ha)
   cases a with
   | mk k' a' s' n' p' m' =>
   have r2:=r1.c
   unfold Zi4
   simp only [Zad,dv,ixD,Ka,Kb,Kc,Kd,Ke,Kf,Kg,if_true,Kh,Ki,ZcM,brB,cond_true,Kk,ltY hi,ZbP h hi,ldN h ha,r2,Ziu (Nat.lt_trans hi hl)]
   exact Zq7 _ _ _
 · unfold Zi4
   simp only [Zad,dv,ixD,Ka,Kb,Kc,Kd,Ke,Kf,Kg,if_false,Kj,Kh,Ki,brB,Kk,ltN]
theorem ZDo {l:List Tree} {d:D} (h:KG 25 (l.map Tree.d) d) (hl:l.length<140737488355328) (ih:∀ t,t∈l→Ok hand 40 t):ML prg hand 6740 [d]=some (0,[.v (.bool (l.all (tv hand 40)))]):=by
 rw [Zah ZBe]
 unfold ZwG
 simp only [Zad,dv,Ka,Kb,Kc,Kd,Kf,Kh,Zbl h]
 refine (congrArg Zdd (Zct (tv hand 40) l (fun i a hi ha=>?_) ?_)).trans rfl
 · have r1:=ih a (List.mem_of_getElem? ha)
   cases a with
   | mk k' a' s' n' p' m' =>
   have r2:=r1.c
   unfold Zi3
   simp only [Zad,dv,ixD,Ka,Kb,Kc,Kd,Ke,Kf,Kg,if_true,Kh,Ki,ZcM,brB,cond_true,Kk,ltY hi,ZbP h hi,ldN h ha,r2,Ziu (Nat.lt_trans hi hl)]
   exact Zq7 _ _ _
 · unfold Zi3
   simp only [Zad,dv,ixD,Ka,Kb,Kc,Kd,Ke,Kf,Kg,if_false,Kj,Kh,Ki,brB,Kk,ltN]
theorem ZDn {l:List Tree} {d:D} (h:KG 25 (l.map Tree.d) d) (hl:l.length<140737488355328) (ih:∀ t,t∈l→Ok hand 41 t):ML prg hand 6741 [d]=some (0,[.v (.bool (l.all (tv hand 41)))]):=by
 rw [Zah ZBd]
 unfold ZwF
 simp only [Zad,dv,Ka,Kb,Kc,Kd,Kf,Kh,Zbl h]
 refine (congrArg Zdd (Zct (tv hand 41) l (fun i a hi ha=>?_) ?_)).trans rfl
 · have r1:=ih a (List.mem_of_getElem? ha)
   cases a with
   | mk k' a' s' n' p' m' =>
   have r2:=r1.c
   unfold Zi2
   simp only [Zad,dv,ixD,Ka,Kb,Kc,Kd,Ke,Kf,Kg,if_true,Kh,Ki,ZcM,brB,cond_true,Kk,ltY hi,ZbP h hi,ldN h ha,r2,Ziu (Nat.lt_trans hi hl)]
   exact Zq7 _ _ _
 · unfold Zi2
   simp only [Zad,dv,ixD,Ka,Kb,Kc,Kd,Ke,Kf,Kg,if_false,Kj,Kh,Ki,brB,Kk,ltN]
theorem ZDp {l:List Tree} {d:D} (h:KG 25 (l.map Tree.d) d) (hl:l.length<140737488355328) (ih:∀ t,t∈l→Ok hand 120 t):ML prg hand 6720 [d]=some (0,[.v (.bool (l.all (tv hand 120)))]):=by
 rw [Zah ZBh]
 unfold ZwJ
 simp only [Zad,dv,Ka,Kb,Kc,Kd,Kf,Kh,Zbl h]
 refine (congrArg Zdd (Zct (tv hand 120) l (fun i a hi ha=>?_) ?_)).trans rfl
 · have r1:=ih a (List.mem_of_getElem? ha)
   cases a with
   | mk k' a' s' n' p' m' =>
   have r2:=r1.c
   unfold Zi6
   simp only [Zad,dv,ixD,Ka,Kb,Kc,Kd,Ke,Kf,Kg,if_true,Kh,Ki,ZcM,brB,cond_true,Kk,ltY hi,ZbP h hi,ldN h ha,r2,Ziu (Nat.lt_trans hi hl)]
   exact Zq7 _ _ _
 · unfold Zi6
   simp only [Zad,dv,ixD,Ka,Kb,Kc,Kd,Ke,Kf,Kg,if_false,Kj,Kh,Ki,brB,Kk,ltN]
theorem ZxZ {l:List Tree} {d:D} (h:KG 25 (l.map Tree.d) d) (hl:l.length<140737488355328) (ih:∀ t,t∈l→Ok hand 123 t):ML prg hand 6723 [d]=some (0,[.v (.bool (l.all (tv hand 123)))]):=by
 rw [Zah ZBg]
 unfold ZwI
 simp only [Zad,dv,Ka,Kb,Kc,Kd,Kf,Kh,Zbl h]
 refine (congrArg Zdd (Zct (tv hand 123) l (fun i a hi ha=>?_) ?_)).trans rfl
 · have r1:=ih a (List.mem_of_getElem? ha)
   cases a with
   | mk k' a' s' n' p' m' =>
   have r2:=r1.c
   unfold Zi5
   simp only [Zad,dv,ixD,Ka,Kb,Kc,Kd,Ke,Kf,Kg,if_true,Kh,Ki,ZcM,brB,cond_true,Kk,ltY hi,ZbP h hi,ldN h ha,r2,Ziu (Nat.lt_trans hi hl)]
   exact Zq7 _ _ _
 · unfold Zi5
   simp only [Zad,dv,ixD,Ka,Kb,Kc,Kd,Ke,Kf,Kg,if_false,Kj,Kh,Ki,brB,Kk,ltN]
theorem ZDm {l:List Tree} {d:D} (h:KG 25 (l.map Tree.d) d) (hl:l.length<140737488355328) (ih:∀ t,t∈l→Ok hand 4801 t):ML prg hand 9101 [d]=some (0,[.v (.bool (l.all (tv hand 4801)))]):=by
 rw [Zah Zw1]
 unfold ZrY
 simp only [Zad,dv,Ka,Kb,Kc,Kd]
 refine (congrArg Zdd (Zct (tv hand 4801) l (fun i a hi ha=>?_) ?_)).trans rfl
 · have r1:=ih a (List.mem_of_getElem? ha)
   cases a with
   | mk k' a' s' n' p' m' =>
   have r2:=r1.c
   unfold Zi0
   simp only [Zad,dv,ixD,Ka,Kb,Kc,Kd,Ke,Kf,Kg,if_true,Kh,Ki,ZcM,brB,cond_true,Kk,Zbl h,ltY hi,ZbP h hi,ldN h ha,r2,Ziu (Nat.lt_trans hi hl)]
   exact Zq7 _ _ _
 · unfold Zi0
   simp only [Zad,dv,ixD,Ka,Kb,Kc,Kd,Ke,Kf,Kg,if_false,Kj,Kh,Ki,brB,Kk,Zbl h,ltN]
theorem Zst {l:List Tree} {d:D} (h:KG 25 (l.map Tree.d) d) (hl:l.length<140737488355328) (ih:∀ t,t∈l→Ok hand 4802 t):ML prg hand 9102 [d]=some (0,[.v (.bool (l.all (tv hand 4802)))]):=by
 rw [Zah Zw0]
 unfold ZrX
 simp only [Zad,dv,Ka,Kb,Kc,Kd]
 refine (congrArg Zdd (Zct (tv hand 4802) l (fun i a hi ha=>?_) ?_)).trans rfl
 · have r1:=ih a (List.mem_of_getElem? ha)
   cases a with
   | mk k' a' s' n' p' m' =>
   have r2:=r1.c
   unfold ZiZ
   simp only [Zad,dv,ixD,Ka,Kb,Kc,Kd,Ke,Kf,Kg,if_true,Kh,Ki,ZcM,brB,cond_true,Kk,Zbl h,ltY hi,ZbP h hi,ldN h ha,r2,Ziu (Nat.lt_trans hi hl)]
   exact Zq7 _ _ _
 · unfold ZiZ
   simp only [Zad,dv,ixD,Ka,Kb,Kc,Kd,Ke,Kf,Kg,if_false,Kj,Kh,Ki,brB,Kk,Zbl h,ltN]
theorem ZDl {l:List Tree} {d:D} (h:KG 25 (l.map Tree.d) d) (hl:l.length<140737488355328) (ih:∀ t,t∈l→Ok hand 4803 t):ML prg hand 9103 [d]=some (0,[.v (.bool (l.all (tv hand 4803)))]):=by
 rw [Zah ZwZ]
 unfold ZrW
 simp only [Zad,dv,Ka,Kb,Kc,Kd]
 refine (congrArg Zdd (Zct (tv hand 4803) l (fun i a hi ha=>?_) ?_)).trans rfl
 · have r1:=ih a (List.mem_of_getElem? ha)
   cases a with
   | mk k' a' s' n' p' m' =>
   have r2:=r1.c
   unfold ZiY
   simp only [Zad,dv,ixD,Ka,Kb,Kc,Kd,Ke,Kf,Kg,if_true,Kh,Ki,ZcM,brB,cond_true,Kk,Zbl h,ltY hi,ZbP h hi,ldN h ha,r2,Ziu (Nat.lt_trans hi hl)]
   exact Zq7 _ _ _
 · unfold ZiY
   simp only [Zad,dv,ixD,Ka,Kb,Kc,Kd,Ke,Kf,Kg,if_false,Kj,Kh,Ki,brB,Kk,Zbl h,ltN]
theorem ZAZ {l:List Tree} {d:D} (h:KG 25 (l.map Tree.d) d) (hl:l.length<140737488355328) (ih:∀ t,t∈l→Ok hand 4805 t):ML prg hand 9105 [d]=some (0,[.v (.bool (l.all (tv hand 4805)))]):=by
 rw [Zah ZwY]
 unfold ZrV
 simp only [Zad,dv,Ka,Kb,Kc,Kd]
 refine (congrArg Zdd (Zct (tv hand 4805) l (fun i a hi ha=>?_) ?_)).trans rfl
 · have r1:=ih a (List.mem_of_getElem? ha)
   cases a with
   | mk k' a' s' n' p' m' =>
   have r2:=r1.c
   unfold ZiX
   simp only [Zad,dv,ixD,Ka,Kb,Kc,Kd,Ke,Kf,Kg,if_true,Kh,Ki,ZcM,brB,cond_true,Kk,Zbl h,ltY hi,ZbP h hi,ldN h ha,r2,Ziu (Nat.lt_trans hi hl)]
   exact Zq7 _ _ _
 · unfold ZiX
   simp only [Zad,dv,ixD,Ka,Kb,Kc,Kd,Ke,Kf,Kg,if_false,Kj,Kh,Ki,brB,Kk,Zbl h,ltN]
theorem ZDk {l:List Tree} {d:D} (h:KG 25 (l.map Tree.d) d) (hl:l.length<140737488355328) (ih:∀ t,t∈l→Ok hand 4810 t):ML prg hand 9110 [d]=some (0,[.v (.bool (l.all (tv hand 4810)))]):=by
 rw [Zah ZwX]
 unfold ZrU
 simp only [Zad,dv,Ka,Kb,Kc,Kd]
 refine (congrArg Zdd (Zct (tv hand 4810) l (fun i a hi ha=>?_) ?_)).trans rfl
 · have r1:=ih a (List.mem_of_getElem? ha)
   cases a with
   | mk k' a' s' n' p' m' =>
   have r2:=r1.c
   unfold ZiW
   simp only [Zad,dv,ixD,Ka,Kb,Kc,Kd,Ke,Kf,Kg,if_true,Kh,Ki,ZcM,brB,cond_true,Kk,Zbl h,ltY hi,ZbP h hi,ldN h ha,r2,Ziu (Nat.lt_trans hi hl)]
   exact Zq7 _ _ _
 · unfold ZiW
   simp only [Zad,dv,ixD,Ka,Kb,Kc,Kd,Ke,Kf,Kg,if_false,Kj,Kh,Ki,brB,Kk,Zbl h,ltN]
theorem ZDj {l:List Tree} {d:D} (h:KG 25 (l.map Tree.d) d) (hl:l.length<140737488355328) (ih:∀ t,t∈l→Ok hand 4813 t):ML prg hand 9113 [d]=some (0,[.v (.bool (l.all (tv hand 4813)))]):=by
 rw [Zah ZwW]
 unfold ZrT
 simp only [Zad,dv,Ka,Kb,Kc,Kd]
 refine (congrArg Zdd (Zct (tv hand 4813) l (fun i a hi ha=>?_) ?_)).trans rfl
 · have r1:=ih a (List.mem_of_getElem? ha)
   cases a with
   | mk k' a' s' n' p' m' =>
   have r2:=r1.c
   unfold ZiV
   simp only [Zad,dv,ixD,Ka,Kb,Kc,Kd,Ke,Kf,Kg,if_true,Kh,Ki,ZcM,brB,cond_true,Kk,Zbl h,ltY hi,ZbP h hi,ldN h ha,r2,Ziu (Nat.lt_trans hi hl)]
   exact Zq7 _ _ _
 · unfold ZiV
   simp only [Zad,dv,ixD,Ka,Kb,Kc,Kd,Ke,Kf,Kg,if_false,Kj,Kh,Ki,brB,Kk,Zbl h,ltN]
theorem ZA6 {l:List Tree} {d:D} (k a:Int) (s:ByteArray) (n:Int) (h:KG 25 (l.map Tree.d) d) (i40:∀ t,t∈l→Ok hand 40 t):ML prg hand 6501 [.v (.int .u8 k),.v (.int .i64 a),.v (.string s),.v (.int .u64 n),d]=some (0,[.v (.bool (decide (l.length=1)&&l.all (tv hand 40)))]):=by
 rw [Zah ZBr]
 unfold ZwT
 by_cases hm:l.length=1
 · match l,hm,h,i40 with
   | [x],_,h,i40 =>
   have hlen:ZcN false d=some (.v (.int .i64 1)):=Zbl h
   have b0:Zcp 25 d (.v (.int .i64 0))=true:=ZbP h (i:=0) (by simp)
   have r0:=i40 x (by simp)
   obtain ⟨k0,a0,s0,n0,p0,m0⟩:=x
   have g0:=ldN (i:=0) h rfl
   have q0:=r0.c
   simp only [Zad,dv,ixD,Ka,Kb,Kc,Kd,Ke,Kf,Kg,if_false,Kj,Kh,ZgB,ZcM,brB,cond_true,hlen,Kl,Bool.not_true,b0,g0,q0]
   simp only [List.length_cons,List.length_nil,Nat.zero_add,Kl,Bool.true_and,List.all_cons,List.all_nil,Bool.and_true]
   cases tv hand 40 (Tree.mk k0 a0 s0 n0 p0 m0)<;>rfl
 · have e1:decide ((l.length:Int)=1)=false:=decide_eq_false (by omega)
   simp only [Zad,dv,ixD,Ka,Kb,Kc,Kd,Ke,Kf,Kg,if_true,Kh,ZgB,brB,Zbl h,e1,Bool.not_false]
   rw [decide_eq_false hm,Bool.false_and];rfl
theorem ZA5 {l:List Tree} {d:D} (k a:Int) (s:ByteArray) (n:Int) (h:KG 25 (l.map Tree.d) d) (i39:∀ t,t∈l→Ok hand 39 t):ML prg hand 6502 [.v (.int .u8 k),.v (.int .i64 a),.v (.string s),.v (.int .u64 n),d]=some (0,[.v (.bool (decide (l.length=1)&&l.all (tv hand 39)))]):=by
 rw [Zah ZBq]
 unfold ZwS
 by_cases hm:l.length=1
 · match l,hm,h,i39 with
   | [x],_,h,i39 =>
   have hlen:ZcN false d=some (.v (.int .i64 1)):=Zbl h
   have b0:Zcp 25 d (.v (.int .i64 0))=true:=ZbP h (i:=0) (by simp)
   have r0:=i39 x (by simp)
   obtain ⟨k0,a0,s0,n0,p0,m0⟩:=x
   have g0:=ldN (i:=0) h rfl
   have q0:=r0.c
   simp only [Zad,dv,ixD,Ka,Kb,Kc,Kd,Ke,Kf,Kg,if_false,Kj,Kh,ZgB,ZcM,brB,cond_true,hlen,Kl,Bool.not_true,b0,g0,q0]
   simp only [List.length_cons,List.length_nil,Nat.zero_add,Kl,Bool.true_and,List.all_cons,List.all_nil,Bool.and_true]
   cases tv hand 39 (Tree.mk k0 a0 s0 n0 p0 m0)<;>rfl
 · have e1:decide ((l.length:Int)=1)=false:=decide_eq_false (by omega)
   simp only [Zad,dv,ixD,Ka,Kb,Kc,Kd,Ke,Kf,Kg,if_true,Kh,ZgB,brB,Zbl h,e1,Bool.not_false]
   rw [decide_eq_false hm,Bool.false_and];rfl
theorem Zx0 {l:List Tree} {d:D} (k a:Int) (s:ByteArray) (n:Int) (h:KG 25 (l.map Tree.d) d) (i39:∀ t,t∈l→Ok hand 39 t):ML prg hand 6503 [.v (.int .u8 k),.v (.int .i64 a),.v (.string s),.v (.int .u64 n),d]=some (0,[.v (.bool (decide (l.length=2)&&l.all (tv hand 39)))]):=by
 rw [Zah ZBp]
 unfold ZwR
 by_cases hm:l.length=2
 · match l,hm,h,i39 with
   | [x,y],_,h,i39 =>
   have hlen:ZcN false d=some (.v (.int .i64 2)):=Zbl h
   have b0:Zcp 25 d (.v (.int .i64 0))=true:=ZbP h (i:=0) (by simp)
   have r0:=i39 x (by simp)
   have b1:Zcp 25 d (.v (.int .i64 1))=true:=ZbP h (i:=1) (by simp)
   have r1:=i39 y (by simp)
   obtain ⟨k0,a0,s0,n0,p0,m0⟩:=x
   have g0:=ldN (i:=0) h rfl
   have q0:=r0.c
   obtain ⟨k1,a1,s1,n1,p1,m1⟩:=y
   have g1:=ldN (i:=1) h rfl
   have q1:=r1.c
   simp only [Zad,dv,ixD,Ka,Kb,Kc,Kd,Ke,Kf,Kg,if_false,Kj,Kh,ZgB,ZcM,brB,cond_true,hlen,Kl,Bool.not_true,b0,g0,q0,b1,g1,q1]
   simp only [List.length_cons,List.length_nil,Nat.zero_add,Nat.reduceAdd,Kl,Bool.true_and,List.all_cons,List.all_nil,Bool.and_true]
   cases tv hand 39 (Tree.mk k0 a0 s0 n0 p0 m0)<;>cases tv hand 39 (Tree.mk k1 a1 s1 n1 p1 m1)<;>rfl
 · have e1:decide ((l.length:Int)=2)=false:=decide_eq_false (by omega)
   simp only [Zad,dv,ixD,Ka,Kb,Kc,Kd,Ke,Kf,Kg,if_true,Kh,ZgB,brB,Zbl h,e1,Bool.not_false]
   rw [decide_eq_false hm,Bool.false_and];rfl
theorem ZA4 {l:List Tree} {d:D} (k a:Int) (s:ByteArray) (n:Int) (h:KG 25 (l.map Tree.d) d) (i39:∀ t,t∈l→Ok hand 39 t):ML prg hand 6504 [.v (.int .u8 k),.v (.int .i64 a),.v (.string s),.v (.int .u64 n),d]=some (0,[.v (.bool (decide (l.length=3)&&l.all (tv hand 39)))]):=by
 rw [Zah ZBo]
 unfold ZwQ
 by_cases hm:l.length=3
 · match l,hm,h,i39 with
   | [x,y,z],_,h,i39 =>
   have hlen:ZcN false d=some (.v (.int .i64 3)):=Zbl h
   have b0:Zcp 25 d (.v (.int .i64 0))=true:=ZbP h (i:=0) (by simp)
   have r0:=i39 x (by simp)
   have b1:Zcp 25 d (.v (.int .i64 1))=true:=ZbP h (i:=1) (by simp)
   have r1:=i39 y (by simp)
   have b2:Zcp 25 d (.v (.int .i64 2))=true:=ZbP h (i:=2) (by simp)
   have r2:=i39 z (by simp)
   obtain ⟨k0,a0,s0,n0,p0,m0⟩:=x
   have g0:=ldN (i:=0) h rfl
   have q0:=r0.c
   obtain ⟨k1,a1,s1,n1,p1,m1⟩:=y
   have g1:=ldN (i:=1) h rfl
   have q1:=r1.c
   obtain ⟨k2,a2,s2,n2,p2,m2⟩:=z
   have g2:=ldN (i:=2) h rfl
   have q2:=r2.c
   simp only [Zad,dv,ixD,Ka,Kb,Kc,Kd,Ke,Kf,Kg,if_false,Kj,Kh,ZgB,ZcM,brB,cond_true,hlen,Kl,Bool.not_true,b0,g0,q0,b1,g1,q1,b2,g2,q2]
   simp only [List.length_cons,List.length_nil,Nat.zero_add,Nat.reduceAdd,Kl,Bool.true_and,List.all_cons,List.all_nil,Bool.and_true]
   cases tv hand 39 (Tree.mk k0 a0 s0 n0 p0 m0)<;>cases tv hand 39 (Tree.mk k1 a1 s1 n1 p1 m1)<;>cases tv hand 39 (Tree.mk k2 a2 s2 n2 p2 m2)<;>rfl
 · have e1:decide ((l.length:Int)=3)=false:=decide_eq_false (by omega)
   simp only [Zad,dv,ixD,Ka,Kb,Kc,Kd,Ke,Kf,Kg,if_true,Kh,ZgB,brB,Zbl h,e1,Bool.not_false]
   rw [decide_eq_false hm,Bool.false_and];rfl
theorem ZA3 {l:List Tree} {d:D} (k a:Int) (s:ByteArray) (n:Int) (h:KG 25 (l.map Tree.d) d) (i39:∀ t,t∈l→Ok hand 39 t) (i119:∀ t,t∈l→Ok hand 119 t):ML prg hand 6505 [.v (.int .u8 k),.v (.int .i64 a),.v (.string s),.v (.int .u64 n),d]=some (0,[.v (.bool (sh2 (tv hand 119) (tv hand 39) l))]):=by
 rw [Zah ZBn]
 unfold ZwP
 by_cases hm:l.length=2
 · match l,hm,h,i39,i119 with
   | [x,y],_,h,i39,i119 =>
   have hlen:ZcN false d=some (.v (.int .i64 2)):=Zbl h
   have b0:Zcp 25 d (.v (.int .i64 0))=true:=ZbP h (i:=0) (by simp)
   have r0:=i119 x (by simp)
   have b1:Zcp 25 d (.v (.int .i64 1))=true:=ZbP h (i:=1) (by simp)
   have r1:=i39 y (by simp)
   obtain ⟨k0,a0,s0,n0,p0,m0⟩:=x
   have g0:=ldN (i:=0) h rfl
   have q0:=r0.c
   obtain ⟨k1,a1,s1,n1,p1,m1⟩:=y
   have g1:=ldN (i:=1) h rfl
   have q1:=r1.c
   simp only [Zad,dv,ixD,Ka,Kb,Kc,Kd,Ke,Kf,Kg,if_false,Kj,Kh,ZgB,ZcM,brB,cond_true,hlen,Kl,Bool.not_true,b0,g0,q0,b1,g1,q1]
   rw [ZsI]
   cases tv hand 119 (Tree.mk k0 a0 s0 n0 p0 m0)<;>cases tv hand 39 (Tree.mk k1 a1 s1 n1 p1 m1)<;>rfl
 · have e1:decide ((l.length:Int)=2)=false:=decide_eq_false (by omega)
   simp only [Zad,dv,ixD,Ka,Kb,Kc,Kd,Ke,Kf,Kg,if_true,Kh,ZgB,brB,Zbl h,e1,Bool.not_false]
   rw [Zf3 hm];rfl
theorem ZA2 {l:List Tree} {d:D} (k a:Int) (s:ByteArray) (n:Int) (h:KG 25 (l.map Tree.d) d) (i39:∀ t,t∈l→Ok hand 39 t) (i72:∀ t,t∈l→Ok hand 72 t):ML prg hand 6506 [.v (.int .u8 k),.v (.int .i64 a),.v (.string s),.v (.int .u64 n),d]=some (0,[.v (.bool (sh2 (tv hand 39) (tv hand 72) l))]):=by
 rw [Zah ZBm]
 unfold ZwO
 by_cases hm:l.length=2
 · match l,hm,h,i39,i72 with
   | [x,y],_,h,i39,i72 =>
   have hlen:ZcN false d=some (.v (.int .i64 2)):=Zbl h
   have b0:Zcp 25 d (.v (.int .i64 0))=true:=ZbP h (i:=0) (by simp)
   have r0:=i39 x (by simp)
   have b1:Zcp 25 d (.v (.int .i64 1))=true:=ZbP h (i:=1) (by simp)
   have r1:=i72 y (by simp)
   obtain ⟨k0,a0,s0,n0,p0,m0⟩:=x
   have g0:=ldN (i:=0) h rfl
   have q0:=r0.c
   obtain ⟨k1,a1,s1,n1,p1,m1⟩:=y
   have g1:=ldN (i:=1) h rfl
   have q1:=r1.c
   simp only [Zad,dv,ixD,Ka,Kb,Kc,Kd,Ke,Kf,Kg,if_false,Kj,Kh,ZgB,ZcM,brB,cond_true,hlen,Kl,Bool.not_true,b0,g0,q0,b1,g1,q1]
   rw [ZsI]
   cases tv hand 39 (Tree.mk k0 a0 s0 n0 p0 m0)<;>cases tv hand 72 (Tree.mk k1 a1 s1 n1 p1 m1)<;>rfl
 · have e1:decide ((l.length:Int)=2)=false:=decide_eq_false (by omega)
   simp only [Zad,dv,ixD,Ka,Kb,Kc,Kd,Ke,Kf,Kg,if_true,Kh,ZgB,brB,Zbl h,e1,Bool.not_false]
   rw [Zf3 hm];rfl
theorem ZDs {l:List Tree} {d:D} (k a:Int) (s:ByteArray) (n:Int) (h:KG 25 (l.map Tree.d) d) (i74:∀ t,t∈l→Ok hand 74 t):ML prg hand 6507 [.v (.int .u8 k),.v (.int .i64 a),.v (.string s),.v (.int .u64 n),d]=some (0,[.v (.bool (decide (l.length=1)&&l.all (tv hand 74)))]):=by
 rw [Zah ZBl]
 unfold ZwN
 by_cases hm:l.length=1
 · match l,hm,h,i74 with
   | [x],_,h,i74 =>
   have hlen:ZcN false d=some (.v (.int .i64 1)):=Zbl h
   have b0:Zcp 25 d (.v (.int .i64 0))=true:=ZbP h (i:=0) (by simp)
   have r0:=i74 x (by simp)
   obtain ⟨k0,a0,s0,n0,p0,m0⟩:=x
   have g0:=ldN (i:=0) h rfl
   have q0:=r0.c
   simp only [Zad,dv,ixD,Ka,Kb,Kc,Kd,Ke,Kf,Kg,if_false,Kj,Kh,ZgB,ZcM,brB,cond_true,hlen,Kl,Bool.not_true,b0,g0,q0]
   simp only [List.length_cons,List.length_nil,Nat.zero_add,Kl,Bool.true_and,List.all_cons,List.all_nil,Bool.and_true]
   cases tv hand 74 (Tree.mk k0 a0 s0 n0 p0 m0)<;>rfl
 · have e1:decide ((l.length:Int)=1)=false:=decide_eq_false (by omega)
   simp only [Zad,dv,ixD,Ka,Kb,Kc,Kd,Ke,Kf,Kg,if_true,Kh,ZgB,brB,Zbl h,e1,Bool.not_false]
   rw [decide_eq_false hm,Bool.false_and];rfl
theorem ZDr {l:List Tree} {d:D} (k a:Int) (s:ByteArray) (n:Int) (h:KG 25 (l.map Tree.d) d) (i72:∀ t,t∈l→Ok hand 72 t):ML prg hand 6508 [.v (.int .u8 k),.v (.int .i64 a),.v (.string s),.v (.int .u64 n),d]=some (0,[.v (.bool (decide (l.length=1)&&l.all (tv hand 72)))]):=by
 rw [Zah ZBk]
 unfold ZwM
 by_cases hm:l.length=1
 · match l,hm,h,i72 with
   | [x],_,h,i72 =>
   have hlen:ZcN false d=some (.v (.int .i64 1)):=Zbl h
   have b0:Zcp 25 d (.v (.int .i64 0))=true:=ZbP h (i:=0) (by simp)
   have r0:=i72 x (by simp)
   obtain ⟨k0,a0,s0,n0,p0,m0⟩:=x
   have g0:=ldN (i:=0) h rfl
   have q0:=r0.c
   simp only [Zad,dv,ixD,Ka,Kb,Kc,Kd,Ke,Kf,Kg,if_false,Kj,Kh,ZgB,ZcM,brB,cond_true,hlen,Kl,Bool.not_true,b0,g0,q0]
   simp only [List.length_cons,List.length_nil,Nat.zero_add,Kl,Bool.true_and,List.all_cons,List.all_nil,Bool.and_true]
   cases tv hand 72 (Tree.mk k0 a0 s0 n0 p0 m0)<;>rfl
 · have e1:decide ((l.length:Int)=1)=false:=decide_eq_false (by omega)
   simp only [Zad,dv,ixD,Ka,Kb,Kc,Kd,Ke,Kf,Kg,if_true,Kh,ZgB,brB,Zbl h,e1,Bool.not_false]
   rw [decide_eq_false hm,Bool.false_and];rfl
end
section
open Go B Go.Proofs
variable {hand:Zd3}
theorem dn0 (n:Nat):decide ((n:Int)=0)=decide (n=0):=decide_eq_decide.2 (by omega)
theorem dn1 (n:Nat):decide ((n:Int)=1)=decide (n=1):=decide_eq_decide.2 (by omega)
theorem dn2 (n:Nat):decide ((n:Int)=2)=decide (n=2):=decide_eq_decide.2 (by omega)
theorem dn3 (n:Nat):decide ((n:Int)=3)=decide (n=3):=decide_eq_decide.2 (by omega)
theorem ZGF (n:Nat):decide ((n:Int) > 0) = !decide (n=0):=by rw [←decide_not];exact decide_eq_decide.2 (by omega)
theorem ZEH (n:Nat):decide ((n:Int)≥1) = !decide (n=0):=by rw [←decide_not];exact decide_eq_decide.2 (by omega)
theorem isE (s:ByteArray):s.data.toList.isEmpty=ZaF s:=rfl
theorem Zpq {s:ByteArray} (h:ZgP s=true):ZaF s=false:=by
 cases hn:ZaF s with
 | false=>rfl
 | true =>
  unfold ZaF at hn
  rw [←Zaq,ZbE,decide_eq_true_eq] at hn
  subst hn;revert h;decide
theorem ZFA {t:Tree} {r:List Tree} {d:D} (h:KG 25 ((t::r).map Tree.d) d):∃ d',Zkv 25 d (some (.v (.int .i64 1))) none=some d'∧KG 25 (r.map Tree.d) d':=by
 generalize hm:(t::r).map Tree.d=m at h
 cases h with
 | nil=>cases hm
 | sl m x =>
  subst hm
  refine ⟨.sl 25 (r.map Tree.d) x,?_,.sl _ x⟩
  unfold Zkv Zde ZvN
  have e1:Nat.ble 1 (((t::r).map Tree.d).length)=true:=Nat.ble_eq_true_of_le (by simp)
  have e2:(((t::r).map Tree.d).length).ble (((t::r).map Tree.d++x).length)=true:=Nat.ble_eq_true_of_le (by simp)
  simp only [Int.reduceLE,if_true,Kh]
  rw [show (1:Int).toNat=1 from rfl,e1,e2,Nat.beq_refl]
  simp only [Bool.and_self,cond_true]
  simp
theorem Zc5 {α:Type} {p q:α→Bool} {l:List α} (h:∀ a,a∈l→p a=q a):l.all p=l.all q:=by
 induction l with
 | nil=>rfl
 | cons a l ih=>rw [List.all_cons,List.all_cons,h a (by simp),ih fun b hb=>h b (by simp [hb])]
def tyF (k:Int) (s:ByteArray) (n:Int) (len:Nat) (A:Bool):Bool:=if k=7 then (ZAO s||Zbc s)&&decide (n=0)&&decide (len=0) else if k=8 then ZaF s&&(decide (len=1)&&A) else decide (k=9)&&ZaF s&&decide (n=0)&&(decide (len=1)&&A)
theorem f40 {l:List Tree} {d:D} (k a:Int) (s:ByteArray) (n:Int) (hs:s.data.toList.length<9223372036854775808) (h:KG 25 (l.map Tree.d) d) (i40:∀ t,t∈l→Ok hand 40 t) :
    ML prg hand 40 [.v (.int .u8 k),.v (.int .i64 a),.v (.string s),.v (.int .u64 n),d]=some (0,[.v (.bool (tyF k s n l.length (l.all (tv hand 40))))]):=by
 have h63:=t63 (hand:=hand) k a s n d hs
 have h65:=ZA6 k a s n h i40
 rw [Zah ZGi]
 unfold ZFc
 simp only [Zad,dv,Ka,Kb,Kc,Kd,Ke,Kf,Kg,Kh,ZaR,Zau,ZdG,Zca,brB,h63,h65,Zaq,isE,Zbl h,dn0]
 unfold tyF
 by_cases h7:k=7
 · subst h7
   simp only [Kl,if_true,ZAO]
   cases Zax s (str [105,56])<;>cases Zax s (str [105,51,50])<;>cases Zax s (str [105,54,52])<;>cases Zax s (str [98,111,111,108])<;>cases Zax s (str [98,121,116,101,115])<;>cases Zbc s<;>cases decide (n=0)<;>rfl
 simp only [decide_eq_false h7,Kj,if_false,if_neg h7]
 by_cases h8:k=8
 · subst h8
   simp only [Kl,if_true]
   cases ZaF s<;>rfl
 simp only [decide_eq_false h8,Kj,if_false,if_neg h8]
 cases decide (k=9)<;>cases ZaF s<;>cases decide (n=0)<;>rfl
theorem ZA0 (s:ByteArray):ML prg hand 85 [.v (.string s),.sl 9 [.v (.string (str [105,56])),.v (.string (str [105,51,50])),.v (.string (str [105,54,52])),.v (.string (str [98,111,111,108])),.v (.string (str [98,121,116,101,115]))] []]=some (0,[.v (.bool (ZAO s))]):=by
 have h:=t85 (hand:=hand) s [str [105,56],str [105,51,50],str [105,54,52],str [98,111,111,108],str [98,121,116,101,115]] [] (by decide)
 have hc:∀ u,Zax u s=Zax s u:=fun u=>by rw [ZbE,ZbE];exact decide_eq_decide.2 eq_comm
 refine h.trans ?_
 unfold ZAO
 simp [hc,Bool.or_assoc]
theorem ZEC {l:List Tree} {d:D} (k a:Int) (s:ByteArray) (n:Int) (hs:s.data.toList.length<9223372036854775808) (h:KG 25 (l.map Tree.d) d) (i48:∀ t,t∈l→Ok hand 4801 t) :
    ML prg hand 4801 [.v (.int .u8 k),.v (.int .i64 a),.v (.string s),.v (.int .u64 n),d]=some (0,[.v (.bool (tyF k s n l.length (l.all (tv hand 4801))))]):=by
 have h87:=t87 (hand:=hand) s hs
 have h85:=ZA0 (hand:=hand) s
 have hlen:=Zbl h
 rw [Zah Zxk]
 unfold Zsh
 by_cases hm:l.length=1
 · match l,hm,h,i48 with
   | [x],_,h,i48 =>
   have b0:Zcp 25 d (.v (.int .i64 0))=true:=ZbP h (i:=0) (by simp)
   have r0:=i48 x (by simp)
   obtain ⟨k0,a0,s0,n0,p0,m0⟩:=x
   have g0:=ldN (i:=0) h rfl
   have q0:=r0.c
   have hl1:ZcN false d=some (.v (.int .i64 1)):=hlen
   have c0:decide ((1:Int)=0)=false:=rfl
   have c1:decide ((1:Int)=1)=true:=rfl
   simp only [Zad,dv,ixD,Ka,Kb,Kc,Kd,Kf,Kg,if_false,Kj,Kh,ZaR,Zau,ZdG,Zca,brB,cond_true,h87,Zaq,isE,Zc3,h85,hl1,b0,g0,q0,c0]
   unfold tyF
   simp only [List.length_cons,List.length_nil,Nat.zero_add,Kl,Bool.true_and,List.all_cons,List.all_nil,Bool.and_true]
   by_cases h7:k=7
   · subst h7
     simp only [Kl,if_true]
     cases ZAO s<;>cases Zbc s<;>cases decide (n=0)<;>rfl
   simp only [decide_eq_false h7,Kj,if_false,if_neg h7]
   by_cases h8:k=8
   · subst h8
     simp only [Kl,if_true]
     cases ZaF s<;>rfl
   simp only [decide_eq_false h8,Kj,if_false,if_neg h8]
   cases decide (k=9)<;>cases ZaF s<;>cases decide (n=0)<;>rfl
 · have c1:decide ((l.length:Int)=1)=false:=decide_eq_false (by omega)
   simp only [Zad,dv,ixD,Ka,Kb,Kc,Kd,Kf,Kg,if_false,Kj,Kh,ZaR,Zau,ZdG,Zca,brB,h87,Zaq,isE,Zc3,h85,hlen,c1,dn0]
   unfold tyF
   rw [decide_eq_false hm]
   by_cases h7:k=7
   · subst h7
     simp only [Kl,if_true]
     cases ZAO s<;>cases Zbc s<;>cases decide (n=0)<;>cases decide (l.length=0)<;>rfl
   simp only [decide_eq_false h7,Kj,if_false,if_neg h7]
   by_cases h8:k=8
   · subst h8
     simp only [Kl,if_true]
     cases ZaF s<;>rfl
   simp only [decide_eq_false h8,Kj,if_false,if_neg h8]
   cases decide (k=9)<;>cases ZaF s<;>cases decide (n=0)<;>rfl
def Both (hand:Zd3) (i j:Nat) (t:Tree):Prop:=Ok hand i t∧Ok hand j t∧tv hand i t=tv hand j t
theorem ZbO {i j:Nat} {t:Tree} {b c:Bool} (h:ML prg hand i t.cells=some (0,[.v (.bool b)])) (g:ML prg hand j t.cells=some (0,[.v (.bool c)])) (e:b=c):Both hand i j t :=
 ⟨Zwz h,Zwz g,by rw [ZqB h,ZqB g,e]⟩
theorem bTy:∀ t:Tree,t.fits→Both hand 40 4801 t:=by
 apply Tree.ind
 intro k a s n p l ih hf
 rw [Tree.fits] at hf
 obtain ⟨f1,f2,f3⟩:=hf
 have h:=Zar 25 p (l.map Tree.d)
 have hb:∀ u,u∈l→Both hand 40 4801 u:=fun u hu=>ih u hu (Za8 f3 hu)
 refine ZbO (t:=.mk k a s n p l) (by rw [Tree.c];exact f40 k a s n f1 h fun u hu=>(hb u hu).1) (by rw [Tree.c];exact ZEC k a s n f1 h fun u hu=>(hb u hu).2.1) ?_
 rw [Zc5 fun u hu=>(hb u hu).2.2]
def exF (k:Int) (s:ByteArray) (n:Int) (len:Nat) (A T:Bool):Bool :=
 if k=40 then ZB2 k s n len
 else if k=41 then decide (n=0)&&decide (len=0)
 else if k=44 then Zbc s&&decide (n=0)&&decide (len=0)
 else if k=45 then Zbc s&&decide (n=0)&&A
 else if k=48 then Zbc s&&decide (n=0)&&(decide (len=1)&&A)
 else if k=46 then ZgP s&&decide (n=0)&&(decide (len=1)&&A)
 else if k=42 then ZaF s&&decide (n=0)&&decide (len=0)
 else if k=43 then ZaF s&&decide (n=0)&&decide (len=0)
 else if k=47 then ZaF s&&decide (n=0)&&T
 else if k=50 then ZaF s&&decide (n=0)&&(decide (len=1)&&A)
 else if k=52 then ZaF s&&decide (n=0)&&(decide (len=1)&&A)
 else if k=53 then ZaF s&&decide (n=0)&&(decide (len=1)&&A)
 else if k=55 then ZaF s&&decide (n=0)&&(decide (len=1)&&A)
 else if k=56 then ZaF s&&decide (n=0)&&(decide (len=1)&&A)
 else if k=57 then ZaF s&&decide (n=0)&&(decide (len=1)&&A)
 else if k=51 then ZaF s&&decide (n=0)&&(decide (len=3)&&A)
 else if k=49 then ZaF s&&decide (n=0)&&(decide (len=2)&&A)
 else ZaF s&&decide (n=0)&&(decide (k≥60)&&decide (k≤77)&&(decide (len=2)&&A))
set_option maxHeartbeats 1000000 in
theorem ZGC (k a:Int) (s:ByteArray) (n:Int) (p:Option (List D)) (hs:s.data.toList.length<9223372036854775808) (hl:([]:List Tree).length<140737488355328) (i39:∀ t,t∈([]:List Tree)→Ok hand 39 t) :
    ML prg hand 39 (Tree.mk k a s n p []).cells=some (0,[.v (.bool (exF k s n ([]:List Tree).length (([]:List Tree).all (tv hand 39)) false))]):=by
 have h:=Zar 25 p (([]:List Tree).map Tree.d)
 have hi:=t74 (hand:=hand) k a s n p []
 rw [Tree.c]
 generalize Zav 25 p (([]:List Tree).map Tree.d)=d at *
 have hnm:=t63 (hand:=hand) k a s n d hs
 have h62:=ZA5 k a s n h i39
 have h63:=Zx0 k a s n h i39
 have h64:=ZA4 k a s n h i39
 have hal:=Zvn h hl i39
 have hlen:=Zbl h
 have hN0:ZcN false d=some (.v (.int .i64 0)):=hlen
 have z1:decide ((0:Int)=1)=false:=rfl
 have z2:decide ((0:Int)=2)=false:=rfl
 have z3:decide ((0:Int)=3)=false:=rfl
 have z4:decide ((0:Int) > 0)=false:=rfl
 have z5:decide ((0:Int)≥1)=false:=rfl
 have z0:decide ((0:Int)=0)=true:=rfl
 rw [Zah ZFs]
 unfold ZDf
 simp only [Zad,dv,ixD,Ka,Kb,Kc,Kd,Ke,Kf,Kg,if_false,Kj,Kh,Ki,ZaR,ZkH,ZkG,Zau,ZdG,Zca,Zww,ZcM,brB,ZrD,hN0,hi,hnm,hal,h62,h63,h64,t76,Zaq,isE,z4]
 unfold exF
 simp only [List.length_nil,List.all_nil]
 by_cases h40:k=40
 · subst h40
   simp only [Int.reduceEq,Int.reduceLE,ge_iff_le,Kl,decide_false,Kj,if_true,if_false]
   rfl
 simp only [decide_eq_false h40,Kj,if_false,if_neg h40]
 by_cases h41:k=41
 · subst h41
   simp only [Int.reduceEq,Int.reduceLE,ge_iff_le,Kl,decide_false,Kj,if_true,if_false]
   cases decide (n=0)<;>rfl
 simp only [decide_eq_false h41,Kj,if_false,if_neg h41]
 by_cases h44:k=44
 · subst h44
   simp only [Int.reduceEq,Int.reduceLE,ge_iff_le,Kl,decide_false,Kj,if_true,if_false]
   cases Zbc s<;>cases decide (n=0)<;>rfl
 simp only [decide_eq_false h44,Kj,if_false,if_neg h44]
 by_cases h45:k=45
 · subst h45
   simp only [Int.reduceEq,Int.reduceLE,ge_iff_le,Kl,decide_false,Kj,if_true,if_false]
   cases Zbc s<;>cases decide (n=0)<;>rfl
 simp only [decide_eq_false h45,Kj,if_false,if_neg h45]
 by_cases h48:k=48
 · subst h48
   simp only [Int.reduceEq,Int.reduceLE,ge_iff_le,Kl,decide_false,Kj,if_true,if_false]
   cases Zbc s<;>cases decide (n=0)<;>rfl
 simp only [decide_eq_false h48,Kj,if_false,if_neg h48]
 by_cases h46:k=46
 · subst h46
   simp only [Int.reduceEq,Int.reduceLE,ge_iff_le,Kl,decide_false,Kj,if_true,if_false]
   cases hf:ZgP s with
   | true =>
    rw [Zpq hf]
    cases decide (n=0)<;>rfl
   | false=>cases ZaF s<;>cases decide (n=0)<;>rfl
 simp only [decide_eq_false h46,Kj,if_false,if_neg h46]
 by_cases h42:k=42
 · subst h42
   simp only [Int.reduceEq,Int.reduceLE,ge_iff_le,Kl,decide_false,Kj,if_true,if_false]
   cases ZaF s<;>cases decide (n=0)<;>rfl
 simp only [decide_eq_false h42,Kj,if_false,if_neg h42]
 by_cases h43:k=43
 · subst h43
   simp only [Int.reduceEq,Int.reduceLE,ge_iff_le,Kl,decide_false,Kj,if_true,if_false]
   cases ZaF s<;>cases decide (n=0)<;>rfl
 simp only [decide_eq_false h43,Kj,if_false,if_neg h43]
 by_cases h47:k=47
 · subst h47
   simp only [Int.reduceEq,Int.reduceLE,ge_iff_le,Kl,decide_false,Kj,if_true,if_false]
   cases ZaF s<;>cases decide (n=0)<;>rfl
 simp only [decide_eq_false h47,Kj,if_false,if_neg h47]
 by_cases h50:k=50
 · subst h50
   simp only [Int.reduceEq,Int.reduceLE,ge_iff_le,Kl,decide_false,Kj,if_true,if_false]
   cases ZaF s<;>cases decide (n=0)<;>rfl
 simp only [decide_eq_false h50,Kj,if_false,if_neg h50]
 by_cases h52:k=52
 · subst h52
   simp only [Int.reduceEq,Int.reduceLE,ge_iff_le,Kl,decide_false,Kj,if_true,if_false]
   cases ZaF s<;>cases decide (n=0)<;>rfl
 simp only [decide_eq_false h52,Kj,if_false,if_neg h52]
 by_cases h53:k=53
 · subst h53
   simp only [Int.reduceEq,Int.reduceLE,ge_iff_le,Kl,decide_false,Kj,if_true,if_false]
   cases ZaF s<;>cases decide (n=0)<;>rfl
 simp only [decide_eq_false h53,Kj,if_false,if_neg h53]
 by_cases h55:k=55
 · subst h55
   simp only [Int.reduceEq,Int.reduceLE,ge_iff_le,Kl,decide_false,Kj,if_true,if_false]
   cases ZaF s<;>cases decide (n=0)<;>rfl
 simp only [decide_eq_false h55,Kj,if_false,if_neg h55]
 by_cases h56:k=56
 · subst h56
   simp only [Int.reduceEq,Int.reduceLE,ge_iff_le,Kl,decide_false,Kj,if_true,if_false]
   cases ZaF s<;>cases decide (n=0)<;>rfl
 simp only [decide_eq_false h56,Kj,if_false,if_neg h56]
 by_cases h57:k=57
 · subst h57
   simp only [Int.reduceEq,Int.reduceLE,ge_iff_le,Kl,decide_false,Kj,if_true,if_false]
   cases ZaF s<;>cases decide (n=0)<;>rfl
 simp only [decide_eq_false h57,Kj,if_false,if_neg h57]
 by_cases h51:k=51
 · subst h51
   simp only [Int.reduceEq,Int.reduceLE,ge_iff_le,Kl,decide_false,Kj,if_true,if_false]
   cases ZaF s<;>cases decide (n=0)<;>rfl
 simp only [decide_eq_false h51,Kj,if_false,if_neg h51]
 by_cases h49:k=49
 · subst h49
   simp only [Int.reduceLE,ge_iff_le,Kl,decide_false,Kj,if_true,if_false]
   cases ZaF s<;>cases decide (n=0)<;>rfl
 simp only [decide_eq_false h49,Kj,if_false,if_neg h49]
 cases decide (k≥60)<;>cases decide (k≤77)<;>cases ZaF s<;>cases decide (n=0)<;>rfl
set_option maxHeartbeats 1000000 in
theorem ZGD (k a:Int) (s:ByteArray) (n:Int) (p:Option (List D)) (x:Tree) (r:List Tree) (hs:s.data.toList.length<9223372036854775808) (hl:((x::r):List Tree).length<140737488355328) (i39:∀ t,t∈((x::r):List Tree)→Ok hand 39 t) (i40:Ok hand 40 x) :
    ML prg hand 39 (Tree.mk k a s n p (x::r)).cells=some (0,[.v (.bool (exF k s n ((x::r):List Tree).length (((x::r):List Tree).all (tv hand 39)) (tv hand 40 x&&r.all (tv hand 39))))]):=by
 have h:=Zar 25 p (((x::r):List Tree).map Tree.d)
 have hi:=t74 (hand:=hand) k a s n p (x::r)
 rw [Tree.c]
 generalize Zav 25 p (((x::r):List Tree).map Tree.d)=d at *
 have hnm:=t63 (hand:=hand) k a s n d hs
 have h62:=ZA5 k a s n h i39
 have h63:=Zx0 k a s n h i39
 have h64:=ZA4 k a s n h i39
 have hal:=Zvn h hl i39
 have hlen:=Zbl h
 have b0:Zcp 25 d (.v (.int .i64 0))=true:=ZbP h (i:=0) (by simp)
 obtain ⟨d1,hd1,h1⟩:=ZFA h
 have hal1:=Zvn (hand:=hand) h1 (Nat.lt_of_le_of_lt (by simp) hl) fun t ht=>i39 t (List.mem_cons_of_mem _ ht)
 generalize hA:(x::r).all (tv hand 39)=A at *
 generalize r.all (tv hand 39)=A1 at *
 generalize hN:(x::r).length=N at *
 have hN0:decide (N=0)=false:=decide_eq_false (by rw [←hN];simp)
 obtain ⟨k0,a0,s0,n0,p0,m0⟩:=x
 have g0:=ldN (i:=0) h rfl
 have q0:=i40.c
 generalize tv hand 40 (Tree.mk k0 a0 s0 n0 p0 m0)=T0 at *
 rw [Zah ZFs]
 unfold ZDf
 simp only [Zad,dv,ixD,Ka,Kb,Kc,Kd,Ke,Kf,Kg,if_true,Kh,Ki,ZaR,ZkH,ZkG,Zau,ZdG,Zca,Zww,ZcM,brB,cond_true,ZrD,hlen,hi,hnm,hal,h62,h63,h64,t76,Zaq,isE,dn0,ZGF,b0,g0,q0,hd1,hal1,Option.map_none,hN0,Bool.not_false]
 unfold exF
 by_cases h40:k=40
 · subst h40
   simp only [Int.reduceEq,Int.reduceLE,ge_iff_le,Kl,decide_false,Kj,if_true,if_false]
   rfl
 simp only [decide_eq_false h40,Kj,if_false,if_neg h40]
 by_cases h41:k=41
 · subst h41
   simp only [Int.reduceEq,Int.reduceLE,ge_iff_le,Kl,decide_false,Kj,if_true,if_false,hN0]
   cases decide (n=0)<;>rfl
 simp only [decide_eq_false h41,Kj,if_false,if_neg h41]
 by_cases h44:k=44
 · subst h44
   simp only [Int.reduceEq,Int.reduceLE,ge_iff_le,Kl,decide_false,Kj,if_true,if_false,hN0]
   cases Zbc s<;>cases decide (n=0)<;>rfl
 simp only [decide_eq_false h44,Kj,if_false,if_neg h44]
 by_cases h45:k=45
 · subst h45
   simp only [Int.reduceEq,Int.reduceLE,ge_iff_le,Kl,decide_false,Kj,if_true,if_false]
   cases Zbc s<;>cases decide (n=0)<;>rfl
 simp only [decide_eq_false h45,Kj,if_false,if_neg h45]
 by_cases h48:k=48
 · subst h48
   simp only [Int.reduceEq,Int.reduceLE,ge_iff_le,Kl,decide_false,Kj,if_true,if_false]
   cases Zbc s<;>cases decide (n=0)<;>cases decide (N=1)<;>rfl
 simp only [decide_eq_false h48,Kj,if_false,if_neg h48]
 by_cases h46:k=46
 · subst h46
   simp only [Int.reduceEq,Int.reduceLE,ge_iff_le,Kl,decide_false,Kj,if_true,if_false]
   cases hf:ZgP s with
   | true =>
    rw [Zpq hf]
    cases decide (n=0)<;>cases decide (N=1)<;>rfl
   | false=>cases ZaF s<;>cases decide (n=0)<;>rfl
 simp only [decide_eq_false h46,Kj,if_false,if_neg h46]
 by_cases h42:k=42
 · subst h42
   simp only [Int.reduceEq,Int.reduceLE,ge_iff_le,Kl,decide_false,Kj,if_true,if_false,hN0]
   cases ZaF s<;>cases decide (n=0)<;>rfl
 simp only [decide_eq_false h42,Kj,if_false,if_neg h42]
 by_cases h43:k=43
 · subst h43
   simp only [Int.reduceEq,Int.reduceLE,ge_iff_le,Kl,decide_false,Kj,if_true,if_false,hN0]
   cases ZaF s<;>cases decide (n=0)<;>rfl
 simp only [decide_eq_false h43,Kj,if_false,if_neg h43]
 by_cases h47:k=47
 · subst h47
   simp only [Int.reduceEq,Int.reduceLE,ge_iff_le,Kl,decide_false,Kj,if_true,if_false]
   cases ZaF s<;>cases decide (n=0)<;>cases T0<;>rfl
 simp only [decide_eq_false h47,Kj,if_false,if_neg h47]
 by_cases h50:k=50
 · subst h50
   simp only [Int.reduceEq,Int.reduceLE,ge_iff_le,Kl,decide_false,Kj,if_true,if_false]
   cases ZaF s<;>cases decide (n=0)<;>cases decide (N=1)<;>rfl
 simp only [decide_eq_false h50,Kj,if_false,if_neg h50]
 by_cases h52:k=52
 · subst h52
   simp only [Int.reduceEq,Int.reduceLE,ge_iff_le,Kl,decide_false,Kj,if_true,if_false]
   cases ZaF s<;>cases decide (n=0)<;>cases decide (N=1)<;>rfl
 simp only [decide_eq_false h52,Kj,if_false,if_neg h52]
 by_cases h53:k=53
 · subst h53
   simp only [Int.reduceEq,Int.reduceLE,ge_iff_le,Kl,decide_false,Kj,if_true,if_false]
   cases ZaF s<;>cases decide (n=0)<;>cases decide (N=1)<;>rfl
 simp only [decide_eq_false h53,Kj,if_false,if_neg h53]
 by_cases h55:k=55
 · subst h55
   simp only [Int.reduceEq,Int.reduceLE,ge_iff_le,Kl,decide_false,Kj,if_true,if_false]
   cases ZaF s<;>cases decide (n=0)<;>cases decide (N=1)<;>rfl
 simp only [decide_eq_false h55,Kj,if_false,if_neg h55]
 by_cases h56:k=56
 · subst h56
   simp only [Int.reduceEq,Int.reduceLE,ge_iff_le,Kl,decide_false,Kj,if_true,if_false]
   cases ZaF s<;>cases decide (n=0)<;>cases decide (N=1)<;>rfl
 simp only [decide_eq_false h56,Kj,if_false,if_neg h56]
 by_cases h57:k=57
 · subst h57
   simp only [Int.reduceEq,Int.reduceLE,ge_iff_le,Kl,decide_false,Kj,if_true,if_false]
   cases ZaF s<;>cases decide (n=0)<;>cases decide (N=1)<;>rfl
 simp only [decide_eq_false h57,Kj,if_false,if_neg h57]
 by_cases h51:k=51
 · subst h51
   simp only [Int.reduceEq,Int.reduceLE,ge_iff_le,Kl,decide_false,Kj,if_true,if_false]
   cases ZaF s<;>cases decide (n=0)<;>cases decide (N=3)<;>rfl
 simp only [decide_eq_false h51,Kj,if_false,if_neg h51]
 by_cases h49:k=49
 · subst h49
   simp only [Int.reduceLE,ge_iff_le,Kl,decide_false,Kj,if_true,if_false]
   cases ZaF s<;>cases decide (n=0)<;>cases decide (N=2)<;>rfl
 simp only [decide_eq_false h49,Kj,if_false,if_neg h49]
 cases decide (k≥60)<;>cases decide (k≤77)<;>cases ZaF s<;>cases decide (n=0)<;>cases decide (N=2)<;>rfl
set_option maxHeartbeats 1000000 in
theorem ZGA (k a:Int) (s:ByteArray) (n:Int) (p:Option (List D)) (hs:s.data.toList.length<9223372036854775808) (hl:([]:List Tree).length<140737488355328) (i4802:∀ t,t∈([]:List Tree)→Ok hand 4802 t) :
    ML prg hand 89 (Tree.mk k a s n p []).cells=some (0,[.v (.bool (exF k s n ([]:List Tree).length (([]:List Tree).all (tv hand 4802)) false))]):=by
 have h:=Zar 25 p (([]:List Tree).map Tree.d)
 have hi:=Zx1 (hand:=hand) k a s n p []
 rw [Tree.c]
 generalize Zav 25 p (([]:List Tree).map Tree.d)=d at *
 have hnm:=t87 (hand:=hand) s hs
 have hal:=Zst h hl i4802
 have hlen:=Zbl h
 have hN0:ZcN false d=some (.v (.int .i64 0)):=hlen
 have z1:decide ((0:Int)=1)=false:=rfl
 have z2:decide ((0:Int)=2)=false:=rfl
 have z3:decide ((0:Int)=3)=false:=rfl
 have z4:decide ((0:Int) > 0)=false:=rfl
 have z5:decide ((0:Int)≥1)=false:=rfl
 have z0:decide ((0:Int)=0)=true:=rfl
 rw [Zah ZDx]
 unfold ZCJ
 simp only [Zad,dv,ixD,Ka,Kb,Kc,Kd,Ke,Kf,Kg,if_false,Kj,Kh,Ki,ZaR,ZkH,ZkG,Zau,ZdG,Zca,brB,ZrE,hN0,hi,hnm,hal,Zod,Zc3,Zaq,isE,z1,z2,z3,z5]
 unfold exF
 simp only [List.length_nil,List.all_nil]
 by_cases h40:k=40
 · subst h40
   simp only [Int.reduceEq,Int.reduceLE,ge_iff_le,Kl,decide_false,Kj,if_true,if_false]
   rfl
 simp only [decide_eq_false h40,Kj,if_false,if_neg h40]
 by_cases h41:k=41
 · subst h41
   simp only [Int.reduceEq,Int.reduceLE,ge_iff_le,Kl,decide_false,Kj,if_true,if_false]
   cases decide (n=0)<;>rfl
 simp only [decide_eq_false h41,Kj,if_false,if_neg h41]
 by_cases h44:k=44
 · subst h44
   simp only [Int.reduceEq,Int.reduceLE,ge_iff_le,Kl,decide_false,Kj,if_true,if_false]
   cases Zbc s<;>cases decide (n=0)<;>rfl
 simp only [decide_eq_false h44,Kj,if_false,if_neg h44]
 by_cases h45:k=45
 · subst h45
   simp only [Int.reduceEq,Int.reduceLE,ge_iff_le,Kl,decide_false,Kj,if_true,if_false]
   cases Zbc s<;>cases decide (n=0)<;>rfl
 simp only [decide_eq_false h45,Kj,if_false,if_neg h45]
 by_cases h48:k=48
 · subst h48
   simp only [Int.reduceEq,Int.reduceLE,ge_iff_le,Kl,decide_false,Kj,if_true,if_false]
   cases Zbc s<;>cases decide (n=0)<;>rfl
 simp only [decide_eq_false h48,Kj,if_false,if_neg h48]
 by_cases h46:k=46
 · subst h46
   simp only [Int.reduceEq,Int.reduceLE,ge_iff_le,Kl,decide_false,Kj,if_true,if_false]
   cases ZgP s<;>cases decide (n=0)<;>rfl
 simp only [decide_eq_false h46,Kj,if_false,if_neg h46]
 by_cases h42:k=42
 · subst h42
   simp only [Int.reduceEq,Int.reduceLE,ge_iff_le,Kl,decide_false,Kj,if_true,if_false]
   cases ZaF s<;>cases decide (n=0)<;>rfl
 simp only [decide_eq_false h42,Kj,if_false,if_neg h42]
 by_cases h43:k=43
 · subst h43
   simp only [Int.reduceEq,Int.reduceLE,ge_iff_le,Kl,decide_false,Kj,if_true,if_false]
   cases ZaF s<;>cases decide (n=0)<;>rfl
 simp only [decide_eq_false h43,Kj,if_false,if_neg h43]
 by_cases h47:k=47
 · subst h47
   simp only [Int.reduceEq,Int.reduceLE,ge_iff_le,Kl,decide_false,Kj,if_true,if_false]
   cases ZaF s<;>cases decide (n=0)<;>rfl
 simp only [decide_eq_false h47,Kj,if_false,if_neg h47]
 by_cases h50:k=50
 · subst h50
   simp only [Int.reduceEq,Int.reduceLE,ge_iff_le,Kl,decide_false,Kj,if_true,if_false]
   cases ZaF s<;>cases decide (n=0)<;>rfl
 simp only [decide_eq_false h50,Kj,if_false,if_neg h50]
 by_cases h52:k=52
 · subst h52
   simp only [Int.reduceEq,Int.reduceLE,ge_iff_le,Kl,decide_false,Kj,if_true,if_false]
   cases ZaF s<;>cases decide (n=0)<;>rfl
 simp only [decide_eq_false h52,Kj,if_false,if_neg h52]
 by_cases h53:k=53
 · subst h53
   simp only [Int.reduceEq,Int.reduceLE,ge_iff_le,Kl,decide_false,Kj,if_true,if_false]
   cases ZaF s<;>cases decide (n=0)<;>rfl
 simp only [decide_eq_false h53,Kj,if_false,if_neg h53]
 by_cases h55:k=55
 · subst h55
   simp only [Int.reduceEq,Int.reduceLE,ge_iff_le,Kl,decide_false,Kj,if_true,if_false]
   cases ZaF s<;>cases decide (n=0)<;>rfl
 simp only [decide_eq_false h55,Kj,if_false,if_neg h55]
 by_cases h56:k=56
 · subst h56
   simp only [Int.reduceEq,Int.reduceLE,ge_iff_le,Kl,decide_false,Kj,if_true,if_false]
   cases ZaF s<;>cases decide (n=0)<;>rfl
 simp only [decide_eq_false h56,Kj,if_false,if_neg h56]
 by_cases h57:k=57
 · subst h57
   simp only [Int.reduceEq,Int.reduceLE,ge_iff_le,Kl,decide_false,Kj,if_true,if_false]
   cases ZaF s<;>cases decide (n=0)<;>rfl
 simp only [decide_eq_false h57,Kj,if_false,if_neg h57]
 by_cases h51:k=51
 · subst h51
   simp only [Int.reduceEq,Int.reduceLE,ge_iff_le,Kl,decide_false,Kj,if_true,if_false]
   cases ZaF s<;>cases decide (n=0)<;>rfl
 simp only [decide_eq_false h51,Kj,if_false,if_neg h51]
 by_cases h49:k=49
 · subst h49
   simp only [Int.reduceLE,ge_iff_le,Kl,decide_false,Kj,if_true,if_false]
   cases ZaF s<;>cases decide (n=0)<;>rfl
 simp only [decide_eq_false h49,Kj,if_false,if_neg h49]
 cases decide (k≥60)<;>cases decide (k≤77)<;>cases ZaF s<;>cases decide (n=0)<;>rfl
set_option maxHeartbeats 1000000 in
theorem ZGB (k a:Int) (s:ByteArray) (n:Int) (p:Option (List D)) (x:Tree) (r:List Tree) (hs:s.data.toList.length<9223372036854775808) (hl:((x::r):List Tree).length<140737488355328) (i4802:∀ t,t∈((x::r):List Tree)→Ok hand 4802 t) (i4801:Ok hand 4801 x) :
    ML prg hand 89 (Tree.mk k a s n p (x::r)).cells=some (0,[.v (.bool (exF k s n ((x::r):List Tree).length (((x::r):List Tree).all (tv hand 4802)) (tv hand 4801 x&&r.all (tv hand 4802))))]):=by
 have h:=Zar 25 p (((x::r):List Tree).map Tree.d)
 have hi:=Zx1 (hand:=hand) k a s n p (x::r)
 rw [Tree.c]
 generalize Zav 25 p (((x::r):List Tree).map Tree.d)=d at *
 have hnm:=t87 (hand:=hand) s hs
 have hal:=Zst h hl i4802
 have hlen:=Zbl h
 have b0:Zcp 25 d (.v (.int .i64 0))=true:=ZbP h (i:=0) (by simp)
 obtain ⟨d1,hd1,h1⟩:=ZFA h
 have hal1:=Zst (hand:=hand) h1 (Nat.lt_of_le_of_lt (by simp) hl) fun t ht=>i4802 t (List.mem_cons_of_mem _ ht)
 generalize hA:(x::r).all (tv hand 4802)=A at *
 generalize r.all (tv hand 4802)=A1 at *
 generalize hN:(x::r).length=N at *
 have hN0:decide (N=0)=false:=decide_eq_false (by rw [←hN];simp)
 obtain ⟨k0,a0,s0,n0,p0,m0⟩:=x
 have g0:=ldN (i:=0) h rfl
 have q0:=i4801.c
 generalize tv hand 4801 (Tree.mk k0 a0 s0 n0 p0 m0)=T0 at *
 rw [Zah ZDx]
 unfold ZCJ
 simp only [Zad,dv,ixD,Ka,Kb,Kc,Kd,Ke,Kf,Kg,if_true,Kh,Ki,ZaR,ZkH,ZkG,Zau,ZdG,Zca,brB,cond_true,ZrE,hlen,hi,hnm,hal,Zod,Zc3,Zaq,isE,dn0,dn1,dn2,dn3,ZEH,b0,g0,q0,hd1,hal1,Option.map_none,hN0,Bool.not_false]
 unfold exF
 by_cases h40:k=40
 · subst h40
   simp only [Int.reduceEq,Int.reduceLE,ge_iff_le,Kl,decide_false,Kj,if_true,if_false]
   rfl
 simp only [decide_eq_false h40,Kj,if_false,if_neg h40]
 by_cases h41:k=41
 · subst h41
   simp only [Int.reduceEq,Int.reduceLE,ge_iff_le,Kl,decide_false,Kj,if_true,if_false,hN0]
   cases decide (n=0)<;>rfl
 simp only [decide_eq_false h41,Kj,if_false,if_neg h41]
 by_cases h44:k=44
 · subst h44
   simp only [Int.reduceEq,Int.reduceLE,ge_iff_le,Kl,decide_false,Kj,if_true,if_false,hN0]
   cases Zbc s<;>cases decide (n=0)<;>rfl
 simp only [decide_eq_false h44,Kj,if_false,if_neg h44]
 by_cases h45:k=45
 · subst h45
   simp only [Int.reduceEq,Int.reduceLE,ge_iff_le,Kl,decide_false,Kj,if_true,if_false]
   cases Zbc s<;>cases decide (n=0)<;>rfl
 simp only [decide_eq_false h45,Kj,if_false,if_neg h45]
 by_cases h48:k=48
 · subst h48
   simp only [Int.reduceEq,Int.reduceLE,ge_iff_le,Kl,decide_false,Kj,if_true,if_false]
   cases Zbc s<;>cases decide (n=0)<;>cases decide (N=1)<;>rfl
 simp only [decide_eq_false h48,Kj,if_false,if_neg h48]
 by_cases h46:k=46
 · subst h46
   simp only [Int.reduceEq,Int.reduceLE,ge_iff_le,Kl,decide_false,Kj,if_true,if_false]
   cases ZgP s<;>cases decide (n=0)<;>cases decide (N=1)<;>rfl
 simp only [decide_eq_false h46,Kj,if_false,if_neg h46]
 by_cases h42:k=42
 · subst h42
   simp only [Int.reduceEq,Int.reduceLE,ge_iff_le,Kl,decide_false,Kj,if_true,if_false,hN0]
   cases ZaF s<;>cases decide (n=0)<;>rfl
 simp only [decide_eq_false h42,Kj,if_false,if_neg h42]
 by_cases h43:k=43
 · subst h43
   simp only [Int.reduceEq,Int.reduceLE,ge_iff_le,Kl,decide_false,Kj,if_true,if_false,hN0]
   cases ZaF s<;>cases decide (n=0)<;>rfl
 simp only [decide_eq_false h43,Kj,if_false,if_neg h43]
 by_cases h47:k=47
 · subst h47
   simp only [Int.reduceEq,Int.reduceLE,ge_iff_le,Kl,decide_false,Kj,if_true,if_false]
   cases ZaF s<;>cases decide (n=0)<;>cases T0<;>rfl
 simp only [decide_eq_false h47,Kj,if_false,if_neg h47]
 by_cases h50:k=50
 · subst h50
   simp only [Int.reduceEq,Int.reduceLE,ge_iff_le,Kl,decide_false,Kj,if_true,if_false]
   cases ZaF s<;>cases decide (n=0)<;>cases decide (N=1)<;>rfl
 simp only [decide_eq_false h50,Kj,if_false,if_neg h50]
 by_cases h52:k=52
 · subst h52
   simp only [Int.reduceEq,Int.reduceLE,ge_iff_le,Kl,decide_false,Kj,if_true,if_false]
   cases ZaF s<;>cases decide (n=0)<;>cases decide (N=1)<;>rfl
 simp only [decide_eq_false h52,Kj,if_false,if_neg h52]
 by_cases h53:k=53
 · subst h53
   simp only [Int.reduceEq,Int.reduceLE,ge_iff_le,Kl,decide_false,Kj,if_true,if_false]
   cases ZaF s<;>cases decide (n=0)<;>cases decide (N=1)<;>rfl
 simp only [decide_eq_false h53,Kj,if_false,if_neg h53]
 by_cases h55:k=55
 · subst h55
   simp only [Int.reduceEq,Int.reduceLE,ge_iff_le,Kl,decide_false,Kj,if_true,if_false]
   cases ZaF s<;>cases decide (n=0)<;>cases decide (N=1)<;>rfl
 simp only [decide_eq_false h55,Kj,if_false,if_neg h55]
 by_cases h56:k=56
 · subst h56
   simp only [Int.reduceEq,Int.reduceLE,ge_iff_le,Kl,decide_false,Kj,if_true,if_false]
   cases ZaF s<;>cases decide (n=0)<;>cases decide (N=1)<;>rfl
 simp only [decide_eq_false h56,Kj,if_false,if_neg h56]
 by_cases h57:k=57
 · subst h57
   simp only [Int.reduceEq,Int.reduceLE,ge_iff_le,Kl,decide_false,Kj,if_true,if_false]
   cases ZaF s<;>cases decide (n=0)<;>cases decide (N=1)<;>rfl
 simp only [decide_eq_false h57,Kj,if_false,if_neg h57]
 by_cases h51:k=51
 · subst h51
   simp only [Int.reduceEq,Int.reduceLE,ge_iff_le,Kl,decide_false,Kj,if_true,if_false]
   cases ZaF s<;>cases decide (n=0)<;>cases decide (N=3)<;>rfl
 simp only [decide_eq_false h51,Kj,if_false,if_neg h51]
 by_cases h49:k=49
 · subst h49
   simp only [Int.reduceLE,ge_iff_le,Kl,decide_false,Kj,if_true,if_false]
   cases ZaF s<;>cases decide (n=0)<;>cases decide (N=2)<;>rfl
 simp only [decide_eq_false h49,Kj,if_false,if_neg h49]
 cases decide (k≥60)<;>cases decide (k≤77)<;>cases ZaF s<;>cases decide (n=0)<;>cases decide (N=2)<;>rfl
end
end X
end Go.Proofs.YtmocfnfnhgognaaGreat
