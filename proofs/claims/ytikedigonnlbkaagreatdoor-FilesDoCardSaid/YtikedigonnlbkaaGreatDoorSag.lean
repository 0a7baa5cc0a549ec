/- A part of a proof. -/
import Derived.Test.YtikedigonnlbkaaGreatDoorSaf
namespace Go.HL
open Go

def m8(b o:Nat)(Y:H):Option u9 :=
 match Y b with
 |some (.cells ⟨c⟩ _ _)=>c[o]?
 |_=>none
def rdA(n b o:Nat)(Y:H):Option u9 :=
 match Y b with
 |some (.cells ⟨c⟩ _ _)=>if o+n<=c.length then some (.agg ⟨(c.drop o).take n⟩)else none
 |_=>none
def okV(ok:Bool)(v:u9)(b:Bool):u9 :=
 match ok with
 |true=>.tuple ⟨[v,.bool b]⟩
 |false=>v
def rdM(d:TypeDesc)(z:u9)(ok:Bool)(m:Option Nat)(k:u9)(Y:H):Option u9 :=
 match m with
 |none=>some (okV ok z false)
 |some r=>match Y r with
  |some (.map es _)=>match Instr.findNow d k es.toList 0 with
   |some (some (_,v))=>some (okV ok v true)
   |some none=>some (okV ok z false)
   |none=>none
  |_=>none
def bj4(m:Option Nat)(Y:H):Option u9 :=
 match m with
 |none=>some (.int .i64 0)
 |some r=>match Y r with
  |some (.map es _)=>some (.int .i64 es.size)
  |_=>none
def bE5:TypeDesc->Bool
 |.int _=>true
 |.string=>true
 |.bool=>true
 |_=>false

def rdX(len:Nat)(l:List u9)(i:Int)(_:H):Option u9:=if 0<=i/\i<len then l[i.toNat]? else none
def cv1(P:Program)(e:Env)(K:(H->Option u9)->H->Prop)(o:Op)(Y:H):Prop :=
 match o with
 |.load t x=>match evO e x,am3 P t,E6 P t with
  |some (.pointer p),some false,_=>i9 p (fun b o=>K (m8 b o)) Y
  |some (.pointer p),some true,some n=>i9 p (fun b o=>K (rdA n b o)) Y
  |_,_,_=>False
 |.lookup t x i ok=>match evO e x,evO e i,P.underlying t with
  |some (.map m),some k,some (.map kt et)=>match P.underlying kt,aQ1 P et with
   |some d,some z=>match bE5 d with
    |true=>K (rdM d z ok m k) Y
    |false=>False
   |_,_=>False
  |_,_,_=>False
 |.call {callee:=.builtin .len,args:=⟨[x]⟩,argTypes:=⟨t::_⟩ }=>match evO e x,P.underlying t with
  |some (.map m),some (.map _ _)=>K (bj4 m) Y
  |_,_=>False
 |.index t x i=>match evO e x,evO e i,P.underlying t with
  |some (.agg ⟨l⟩),some (.int _ i),some (.array len el)=>match am3 P el,E6 P el with
   |some false,some 1=>K (rdX len l i) Y
   |_,_=>False
  |_,_,_=>False
 |_=>False

section
variable {P:Program}
theorem bj5{Y:H}{w:World}(h:Y.le w){b:Nat}{c:List u9}{t:TypeId}{fz:Nat×Nat}(hb:Y b=some (.cells ⟨c⟩ t fz))(o:Nat):w.cell? ⟨b,o,none⟩=c[o]?:=by
 simp[World.cell?,h b _ hb]
theorem ai4(a:Addr)(w:World):(Instr.sureAddr (.pointer (some a))).run P w=.ok a w:=rfl
theorem aX0{t:TypeId}(ha:am3 P t=some false){b o:Nat}{Y:H}{v:u9}(hr:m8 b o Y=some v){w:World}(hw:Y.le w) :
 (Instr.loadAt t (.pointer (some ⟨b,o,none⟩))).run P w=.ok v w:=by
 unfold m8 at hr;split at hr
 ·rename_i c t' fz hb;simp only[Instr.loadAt,Sem.run_bind,ai4,Result.andThen_ok,loadVar,aA1 ha,D2,if_false,run_load,bj5 hw hb,hr]
 ·cases hr
theorem aX1{t:TypeId}(ha:am3 P t=some true){n b o:Nat}(hn:E6 P t=some n){Y:H}{v:u9}(hr:rdA n b o Y=some v){w:World}(hw:Y.le w) :
 (Instr.loadAt t (.pointer (some ⟨b,o,none⟩))).run P w=.ok v w:=by
 unfold rdA at hr;split at hr
 ·rename_i c t' fz hb;split at hr
  ·rename_i qx;cases hr;have hl:(loadCells ⟨b,o,none⟩ n).run P w = .ok ⟨(c.drop o).take n⟩ w:=by
    have:=run_loadCells_list (P:=P) (w:=w) ⟨b,o,none⟩ ((c.drop o).take n) (fun j v hj=>by
     rw[ai2,bj5 hw hb];rw[List.getElem?_take]at hj;split at hj
     ·rw[List.getElem?_drop]at hj;exact hj
     ·cases hj)
    rw[show((c.drop o).take n).length=n from by simp;omega]at this;exact this
   simp only[Instr.loadAt,Sem.run_bind,ai4,Result.andThen_ok,loadVar,aA1 ha,if_true,X3 hn,hl,Sem.run_pure]
  ·cases hr
 ·cases hr
theorem ai5{b:Bool}{n:Nat}{t:TypeId}{d:TypeDesc}{v:u9}(hu:P.underlying t=some d)(hd:bE5 d=true)(w:World):(Instr.checkKey b (n+1) t v).run P w=.ok () w:=by
 cases d<;>first|(cases hd;done)|simp[Instr.checkKey,run_underlying hu]
theorem ae1{t:TypeId}{d:TypeDesc}{k:u9}{es:List MapEntry}{r:Option (Nat×u9)}(hu:P.underlying t=some d)(hr:Instr.findNow d k es 0=some r)(w:World) :
 (Instr.findKey t k es).run P w=.ok r w:=by
 simp[Instr.findKey,run_underlying hu,hr]
theorem bJ8{t kt et:TypeId}{d:TypeDesc}{z k:u9}{ok:Bool}{m:Option Nat}(ht:P.underlying t=some (.map kt et))(hd:P.underlying kt=some d)(hs:bE5 d=true)(hz:aQ1 P et=some z){Y:H}{v:u9}
 (hr:rdM d z ok m k Y=some v) {w:World} (hw:Y.le w):(Instr.lookup t (.map m) k ok).run P w=.ok v w:=by
 unfold rdM at hr;split at hr
 ·cases hr;have h1:Instr.findNow d k [] 0=some none:=rfl;cases ok<;>simp[Instr.lookup,run_underlying ht,ai5 hd hs,ae1 hd h1,al0 hz,okV]
 ·rename_i r;split at hr
  ·rename_i es c hb;have hg:(getObj r).run P w=.ok (.map es c) w:=by simp[getObj,Sem.run,hw r _ hb]
   split at hr
   ·rename_i i u hf;cases hr;cases ok<;>simp[Instr.lookup,run_underlying ht,hg,ai5 hd hs,ae1 hd hf,okV]
   ·rename_i hf;cases hr;cases ok<;>simp[Instr.lookup,run_underlying ht,hg,ai5 hd hs,ae1 hd hf,al0 hz,okV]
   ·cases hr
  ·cases hr

theorem bu2{N:Nat}{e:Env}{a:Act}(fr:FR N e a){o:Oper}{K:(H->Option u9)->H->Prop}{Y:H}(h:cv1 P e K o.op Y) :
 ∃r,(∀Y' v,r Y'=some v->RdS P (execOp a.eval o) Y' v)/\K r Y:=by
 obtain⟨dst,op,type,pos,after,guard⟩:=o;simp only at h;unfold cv1 at h;split at h
 ·split at h
  ·rename_i p hp ha;obtain⟨b,o,rfl,h⟩:=ai3 h;exact⟨_,fun Y' v hr w hw=>by simp[execOp,fr.evO hp,aX0 ha hr hw],h⟩
  ·rename_i p n hp ha hn;obtain⟨b,o,rfl,h⟩:=ai3 h;exact⟨_,fun Y' v hr w hw=>by simp[execOp,fr.evO hp,aX1 ha hn hr hw],h⟩
  ·exact h.elim
 ·split at h
  ·rename_i m k kt et hm hk ht;split at h
   ·rename_i d z hd hz;split at h
    ·rename_i hs;exact⟨_,fun Y' v hr w hw=>by simp[execOp,fr.evO hm,fr.evO hk,bJ8 ht hd hs hz hr hw],h⟩
    ·exact h.elim
   ·exact h.elim
  ·exact h.elim
 ·split at h
  ·rename_i m _ _ hm ht;refine⟨_,fun Y' v hr w hw=>?_,h⟩;unfold bj4 at hr;split at hr
   ·cases hr;simp[execOp,resolve,invoke,builtin,Builtin.len_,fr.evO hm,run_underlying ht,goInt]
   ·rename_i r;split at hr
    ·rename_i es c hb;cases hr;have hg:(getObj r).run P w=.ok (.map es c) w:=by simp[getObj,Sem.run,hw r _ hb]
     simp[execOp,resolve,invoke,builtin,Builtin.len_,fr.evO hm,run_underlying ht,hg,goInt]
    ·cases hr
  ·exact h.elim
 ·split at h
  ·rename_i l k i len el hl hi hu;split at h
   ·rename_i ha hs;refine⟨_,fun Y' v hr w hw=>?_,h⟩;unfold rdX at hr;split at hr
    ·rename_i hb;have hp:(part el ⟨l⟩ (i.toNat*1)).run P w=.ok v w:=aE3 (by simp[aW5,ha,hr]) w;simp[execOp,fr.evO hl,fr.evO hi,Instr.index,asIntOf,run_underlying hu,hb,X3 hs];rw[ao9]at hp;simp[hp]
    ·cases hr
   ·exact h.elim
  ·exact h.elim
 ·exact h.elim
end

def aX2(b:Nat):u9:=.pointer (some ⟨b,0,none⟩)
def bE6(n b:Nat):u9:=.slice (some ⟨b,0,none⟩) n n
def cr4(b:Nat):u9:=.map (some b)
def al6(z:List u9)(n:Nat):List u9:=(List.replicate n z).flatten
def alF(P:Program)(e:Env)(K:Obj->(Nat->u9)->H->Prop)(o:Op)(Y:H):Prop :=
 match o with
 |.alloc t=>match aQ1 P t with
  |some z=>K (.cells ⟨aa5 z.cells⟩ t (0,0)) aX2 Y
  |none=>False
 |.box t x=>match evO e x,am3 P t with
  |some v,some false=>J5 v (K (.cells ⟨[v]⟩ t (0,0)) aX2) Y
  |some v,some true=>K (.cells ⟨aa5 v.cells⟩ t (0,0)) aX2 Y
  |_,_=>False
 |.buildSlice t n ⟨ps⟩=>match evP e ps,P.underlying t with
  |some us,some (.slice el)=>match E6 P el,aQ1 P el with
   |some s,some z=>aW8 P (bV1 P t) us (fun us Y=>match Nat.ble (n*s) 16777216,Nat.beq (aa5 z.cells).length s,Instr.fill (fun i=>some (i*s,s)) ⟨al6 (aa5 z.cells) n⟩ us with
    |true,true,some cs=>K (.cells ⟨aa5 cs⟩ el (0,0)) (bE6 n) Y
    |_,_,_=>False) Y
   |_,_=>False
  |_,_=>False
 |.makeMap _ none=>K (.map #[] 0) cr4 Y
 |_=>False
def H0(obj:Obj)(g:Nat->H->Prop)(Y:H):Prop:=∀b,Y b=none->g b (Y.put b obj)

section
variable {P:Program}
theorem bj6(z:List u9)(n:Nat):(Array.range (n*z.length)).map (fun i=>z.toArray[i%z.toArray.size]!)=⟨al6 z n⟩:=by
 apply Array.ext';simp only[Array.toList_map,Array.toList_range,List.size_toArray]
 induction n with
 |zero=>simp[al6]
 |succ n ih =>
  have h1:(n+1)*z.length=z.length+n*z.length:=by rw[K9,Nat.one_mul,aP5]
  rw[h1,List.range_add,List.map_append];have h2:al6 z (n+1)=z++al6 z n:=by simp[al6,List.replicate_succ]
  rw[h2]
  congr 1
  ·apply List.ext_getElem
   ·simp
   ·intro i h1 h2;simp at h1;simp[Nat.mod_eq_of_lt h1,h1]
  ·rw[List.map_map,<- ih];apply List.map_congr_left;intro i _;simp
theorem bJ9{N:Nat}{e:Env}{a:Act}(fr:FR N e a){o:Oper}{K:Obj->(Nat->u9)->H->Prop}{Y:H}(h:alF P e K o.op Y) :
 ∃obj mk,cj8 P (execOp a.eval o) mk obj/\K obj mk Y:=by
 obtain⟨dst,op,type,pos,after,guard⟩:=o;simp only at h;unfold alF at h;split at h
 ·split at h
  ·rename_i t _ z hz;refine⟨_,_,fun w=>?_,h⟩;simp[execOp,Instr.alloc,al0 hz,newVar,newRow,aE4,aX2,World.alloc_eq]
  ·exact h.elim
 ·split at h
  ·rename_i v hv _;obtain⟨hc,_,h⟩:=bj2 h;refine⟨_,_,fun w=>?_,h⟩;simp[execOp,Instr.box,fr.evO hv,newVar,newRow,hc,aX2,World.alloc_eq]
  ·rename_i v hv _;refine⟨_,_,fun w=>?_,h⟩;simp[execOp,Instr.box,fr.evO hv,newVar,newRow,aE4,aX2,World.alloc_eq]
  ·exact h.elim
 ·split at h
  ·rename_i t n ps _ _ us el ye hu;split at h
   ·rename_i s z hs hz;obtain⟨us',hus',h⟩:=aW9 h;split at h
    ·rename_i cs qx ib tw;rw[aC9 _ _ _ hus']at tw;refine⟨_,_,fun w=>?_,h⟩;have hle':¬ (n*s>2 ^ 24):=by have:=Nat.le_of_ble_eq_true qx;omega
     have tx:(aa5 z.cells).length=s:=Nat.eq_of_beq_eq_true ib;have h3:=bE4 fr ye;have Ar:(Array.map (fun(x:Nat×Operand)=>(x.1,a.eval x.2)) ⟨ps⟩:Array (Nat×u9))=⟨us⟩:=by apply Array.ext';simpa using h3
     have ki:(Array.range (n*s)).map (fun i=>z.cells[i%z.cells.size]!)=⟨al6 (aa5 z.cells) n⟩:=by
      have:=bj6 (aa5 z.cells) n;rw[tx]at this;rw[<-this]
      congr 1
     have nw:Instr.fill (fun i=>some (i*s,s)) (if n*s=0 then(Array.range (n*s)).map (fun i=>(#[]:Array u9)[i%(#[]:Array u9).size]!)else(Array.range (n*s)).map (fun i=>z.cells[i%z.cells.size]!)) us=some cs:=by
      split
      ·rename_i h0;have:al6 (aa5 z.cells) n=[]:=by
        have:=J7 Array.size ki;simp[h0]at this;exact List.length_eq_zero_iff.1 this.symm
       rw[this]at tw;rw[h0,show(Array.range 0).map (fun i=>(#[]:Array u9)[i%(#[]:Array u9).size]!)=⟨[]⟩from by apply Array.ext';simp];exact tw
      ·rw[ki];exact tw
     have key:(Instr.buildSlice t n (Array.map (fun(x:Nat×Operand)=>(x.1,a.eval x.2)) ⟨ps⟩)).run P w=.ok (bE6 n w.heap.size) (w.alloc (.cells ⟨aa5 cs⟩ el (0,0))):=by
      rw[Ar];simp only[Instr.buildSlice,Sem.run_bind,run_underlying hu,Result.andThen_ok,X3 hs,hle',if_false];by_cases h0:n*s=0
      ·rw[d8 h0]at nw;simp only[h0,if_true];rw[h0]at nw;simp only[nw,Sem.run_bind,newRow,run_newObj,Result.andThen_ok,Sem.run_pure,aE4,bE6]
       rfl
      ·rw[d7 h0]at nw;simp only[h0,if_false,Sem.run_bind,al0 hz,Sem.run_pure,Result.andThen_ok];simp only[nw,Sem.run_bind,newRow,run_newObj,Result.andThen_ok,Sem.run_pure,aE4,bE6]
       rfl
     simp only[execOp,Sem.run_bind];rw[key];rfl
    ·exact h.elim
   ·exact h.elim
  ·exact h.elim
 ·refine⟨_,_,fun w=>?_,h⟩;simp[execOp,Instr.makeMap,cr4,World.alloc_eq]
 ·exact h.elim
end
end Go.HL

