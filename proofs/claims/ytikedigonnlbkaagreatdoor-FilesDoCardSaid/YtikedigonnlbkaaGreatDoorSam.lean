/- A part of a proof. -/
import Derived.Test.YtikedigonnlbkaaGreatDoorSal
import Derived.MapKept
namespace Go.HL
open Go

def Q7(Y:H)(b:Nat)(l:List (u9×u9)):Prop:=∃es c,Y b=some (.map es c)/\es.toList.map (fun e=>(e.key,e.val))=l/\MapKept.Stamped es c
theorem Q7.gr{Y Y':H}{b:Nat}{l:List (u9×u9)}(h:Q7 Y b l)(hg:Gr Y Y'):Q7 Y' b l:=by
 obtain⟨es,c,h1,h2⟩:=h;exact⟨es,c,hg b _ h1,h2⟩
theorem Q7.put{Y Y':H}{b c:Nat}{o:Obj}{l:List (u9×u9)}(h:Q7 Y b l)(hp:P1 Y c o Y')(ia:b≠c):Q7 Y' b l:=by
 obtain⟨es,k,h1,h2⟩:=h;exact⟨es,k,hp.get ia h1,h2⟩
theorem Q7.new{Y:H}{b:Nat}(h:Y b=some (.map #[] 0)):Q7 Y b []:=⟨_,_,h,rfl,MapKept.stamped_empty _⟩

def lk{κ α:Type} [BEq κ] (k:κ):List (κ×α)->Option α
 | []=>none
 |(j,v)::r=>match k==j with
  |true=>some v
  |false=>lk k r
def up{κ α:Type} [BEq κ] (k:κ)(v:α):List (κ×α)->List (κ×α)
 | []=>[(k,v)]
 |(j,u)::r=>match k==j with
  |true=>(k,v)::r
  |false=>(j,u)::up k v r
def rm{κ α:Type} [BEq κ] (k:κ):List (κ×α)->List (κ×α)
 | []=>[]
 |(j,u)::r=>match k==j with
  |true=>r
  |false=>(j,u)::rm k r

structure KK(κ:Type) [BEq κ] where
 d:TypeDesc
 inj:κ->u9
 same:∀a b,Instr.sameNow d (inj a) (inj b)=some (a==b)
 bits:∀a b,(a==b)=true->Instr.sameBits 10000 (inj b) (inj a)=true
 refl:∀a:κ,(a==a)=true
 eq:∀a b,(a==b)=true->inj a=inj b
 scal:bE5 d=true
theorem bv5{a b:d9}(h:a.toList=b.toList):a=b:=by
 rw[ByteArray.toList_eq,ByteArray.toList_eq]at h;obtain⟨⟨x⟩⟩:=a;obtain⟨⟨y⟩⟩:=b;simp at h;rw[h]
def kkS:KK d9:=⟨.string,.string,fun _ _=>rfl,fun a b h=>by
 have:(b==a)=true:=by
  rw[beq_toListBytes]at h⊢;have:=eq_of_beq h;rw[this];simp
 simpa[Instr.sameBits]using this,fun a=>by rw[beq_toListBytes];simp,fun a b h=>by rw[beq_toListBytes]at h;rw[bv5 (eq_of_beq h)],rfl⟩
def kkI:KK Int:=⟨.int .i64,.int .i64,fun _ _=>by simp[Instr.sameNow],fun a b h=>by
 have:=eq_of_beq h;subst this;simp[Instr.sameBits],fun a=>by simp,fun a b h=>by rw[eq_of_beq h],rfl⟩

def W0{κ α:Type} [BEq κ] (kk:KK κ)(f:α->u9)(l:List (κ×α)):List (u9×u9):=l.map fun(k,v)=>(kk.inj k,f v)

section
variable {κ α:Type} [BEq κ] {kk:KK κ} {f:α->u9}
theorem aw9:∀ (es:List MapEntry) (l:List (κ×α)) (k:κ) (i:Nat),es.map (fun e=>(e.key,e.val))=W0 kk f l ->
 Instr.findNow kk.d (kk.inj k) es i=some ((lk k l).map fun v=>(i+(l.findIdx fun x=>k==x.1),f v)):=by
 intro es
 induction es with
 |nil=>intro l k i h;cases l with|nil=>rfl|cons x l=>simp[W0]at h
 |cons e es ih =>
  intro l k i h;cases l with
  |nil=>simp[W0]at h
  |cons x l =>
   obtain⟨j,v⟩:=x;simp only[W0,H5,List.cons.injEq,Prod.mk.injEq]at h;obtain⟨⟨h1,h2⟩,h3⟩:=h;simp only[Instr.findNow,h1,kk.same,lk,List.findIdx_cons];cases hk:(k==j) with
   |true=>simp[h2]
   |false =>
    simp only[ih l k (i+1) h3,cond_false];cases lk k l with
    |none=>rfl
    |some u=>simp;omega
theorem aI6{Y:H}{b:Nat}{l:List (κ×α)}(h:Q7 Y b (W0 kk f l))(z:u9)(ok:Bool)(k:κ) :
 rdM kk.d z ok (some b) (kk.inj k) Y=some (okV ok (((lk k l).map f).getD z) (lk k l).isSome):=by
 obtain⟨es,c,h1,h2,_⟩:=h;simp only[rdM,h1,aw9 es.toList l k 0 h2];cases lk k l<;>simp
theorem bW0{Y:H}{b:Nat}{l:List (u9×u9)}(h:Q7 Y b l):bj4 (some b) Y=some (.int .i64 l.length):=by
 obtain⟨es,c,h1,h2,_⟩:=h;simp only[bj4,h1]
 congr 2
 rw[<-h2];simp

theorem aV7:∀ (l:List (κ×α)) (k:κ),(lk k l).isSome=true->l.findIdx (fun x=>k==x.1)<l.length:=by
 intro l k
 induction l with
 |nil=>intro h;simp[lk]at h
 |cons x l ih =>
  obtain⟨j,v⟩:=x;intro h;simp only[lk]at h;simp only[List.findIdx_cons];cases hk:(k==j) with
  |true=>simp
  |false =>
   simp only[hk]at h;simp only[cond_false,H4];exact Nat.succ_lt_succ (ih h)
theorem bd3:∀ (l:List (κ×α)) (k:κ) (v:α) (es:List MapEntry),(lk k l).isSome=true->es.map (fun e=>(e.key,e.val))=W0 kk f l ->
 ((es.modify (l.findIdx fun x=>k==x.1) fun e=>{e with key:=kk.inj k,val:=f v}).map fun e=>(e.key,e.val))=W0 kk f (up k v l):=by
 intro l
 induction l with
 |nil=>intro k v es h;simp[lk]at h
 |cons x l ih =>
  obtain⟨j,u⟩:=x;intro k v es h he;cases es with
  |nil=>simp[W0]at he
  |cons e es =>
   simp only[W0,H5,List.cons.injEq,Prod.mk.injEq]at he;obtain⟨⟨h1,h2⟩,h3⟩:=he;simp only[lk]at h;simp only[List.findIdx_cons,up];cases hk:(k==j) with
   |true=>simp[W0,h3]
   |false =>
    simp only[hk]at h;have:=ih k v es h h3;simp only[cond_false,List.modify_succ_cons,H5,this,W0,h1,h2]
theorem ak6:∀ (l:List (κ×α)) (k:κ) (v:α),lk k l=none->up k v l=l++[(k,v)]:=by
 intro l k v
 induction l with
 |nil=>intro _;rfl
 |cons x l ih =>
  obtain⟨j,u⟩:=x;intro h;simp only[lk]at h;simp only[up];cases hk:(k==j) with
  |true=>simp[hk]at h
  |false=>simp only[hk]at h;simp[ih h]
theorem cv4:∀ (l:List (κ×α)) (k:κ) (es:List MapEntry),(lk k l).isSome=true->es.map (fun e=>(e.key,e.val))=W0 kk f l ->
 ((es.eraseIdx (l.findIdx fun x=>k==x.1)).map fun e=>(e.key,e.val))=W0 kk f (rm k l):=by
 intro l
 induction l with
 |nil=>intro k es h;simp[lk]at h
 |cons x l ih =>
  obtain⟨j,u⟩:=x;intro k es h he;cases es with
  |nil=>simp[W0]at he
  |cons e es =>
   simp only[W0,H5,List.cons.injEq,Prod.mk.injEq]at he;obtain⟨⟨h1,h2⟩,h3⟩:=he;simp only[lk]at h;simp only[List.findIdx_cons,rm];cases hk:(k==j) with
   |true=>simp[W0,h3]
   |false =>
    simp only[hk]at h;have:=ih k es h h3;simp only[cond_false,List.eraseIdx_cons_succ,H5,this,W0,h1,h2]
theorem ck9:∀ (l:List (κ×α)) (k:κ),lk k l=none->rm k l=l:=by
 intro l k
 induction l with
 |nil=>intro _;rfl
 |cons x l ih =>
  obtain⟨j,u⟩:=x;intro h;simp only[lk]at h;simp only[rm];cases hk:(k==j) with
  |true=>simp[hk]at h
  |false=>simp only[hk]at h;simp[ih h]

variable {P:Program}
theorem au7{b:Nat}{es:Array MapEntry}{c:Nat}{w:World}(h:w.heap[b]?=some (.map es c)):(getObj b).run P w=.ok (.map es c) w:=by simp[getObj,Sem.run,h]
theorem au8{b:Nat}{es:Array MapEntry}{c:Nat}{o:Obj}{w:World}(h:w.heap[b]?=some (.map es c)):(setObj b o).run P w=.ok () {w with heap:=w.heap.setIfInBounds b o}:=by simp[setObj,Sem.run,h]

theorem bk0{l:List (κ×α)}{k:κ}(hl:lk k l=none):∀ {es:List MapEntry},es.map (fun e=>(e.key,e.val))=W0 kk f l->∀x∈es,x.key≠kk.inj k:=by
 induction l with
 |nil=>intro es h;cases es with|nil=>intro x hx;cases hx|cons e es=>simp[W0]at h
 |cons y l ih =>
  obtain⟨j,u⟩:=y;intro es h;cases es with
  |nil=>intro x hx;cases hx
  |cons e es =>
   simp only[W0,H5,List.cons.injEq,Prod.mk.injEq]at h;obtain⟨⟨h1,h2⟩,h3⟩:=h;simp only[lk]at hl;cases hk:(k==j) with
   |true=>rw[hk]at hl;cases hl
   |false =>
    rw[hk]at hl;intro x hx;rcases G9.1 hx with e'|hx
    ·subst e';intro e2;rw[h1]at e2;have q1:=kk.same k j;have q2:=kk.same k k;rw[e2,q2,kk.refl,hk]at q1;cases q1
    ·exact ih hl h3 x hx
theorem bd4{t kt et:TypeId}(ht:P.underlying t=some (.map kt et))(hk:P.underlying kt=some kk.d){Y:H}{b:Nat}{l:List (κ×α)}(h:Q7 Y b (W0 kk f l))(k:κ)(v:α){g:H->Prop}
 (hg:∀o Y',P1 Y b o Y'->Q7 Y' b (W0 kk f (up k v l))->g Y'):muW P t (.map (some b)) (kk.inj k) (f v) g Y:=by
 obtain⟨es,c,h1,h2,kn⟩:=h;intro w hw;have hb:=hw b _ h1;have hf:=aw9 es.toList l k 0 h2;have Ee:(underlying t).run P w=.ok (.map kt et) w:=by simp[underlying,ht]
 have Ef:=ai5 (P:=P) (b:=false) (n:=9999) (v:=kk.inj k) hk kk.scal w;cases hl:lk k l with
 |none =>
  rw[hl]at hf;have xj:=ae1 (P:=P) hk hf w;have iv:(doS (Instr.mapUpdate t (.map (some b)) (kk.inj k) (f v))).run P w=.ok .skip {w with heap:=w.heap.setIfInBounds b (.map (es.push {key:=kk.inj k,val:=f v,born:=c}) (c+1))}:=by
   simp only[doS,Instr.mapUpdate,Sem.run_bind,Ee,Result.andThen_ok,au7 hb,Ef,xj,Option.map_none,au8 hb,Sem.run_pure]
  rw[iv];refine⟨_,X7.set hw h1 rfl rfl rfl rfl,U9 (hg _ _ rfl ⟨_,_,H.put_same _ _ _,?_,MapKept.stamped_push kn (bk0 hl h2)⟩)⟩;rw[ak6 l k v hl];simp[W0]at h2⊢;exact h2
 |some u =>
  rw[hl]at hf;simp only[Option.map_some,al5]at hf;have xj:=ae1 (P:=P) hk hf w;have yh:∃j,(es[l.findIdx fun x=>k==x.1]?).map (·.key)=some (kk.inj j)/\(k==j)=true:=by
   have:∀ (l:List (κ×α)) (es:List MapEntry),(lk k l).isSome=true->es.map (fun e=>(e.key,e.val))=W0 kk f l->∃j,(es[l.findIdx fun x=>k==x.1]?).map (·.key)=some (kk.inj j)/\(k==j)=true:=by
    intro l
    induction l with
    |nil=>intro es h;simp[lk]at h
    |cons x l ih =>
     obtain⟨j,u⟩:=x;intro es h he;cases es with
     |nil=>simp[W0]at he
     |cons e es =>
      simp only[W0,H5,List.cons.injEq,Prod.mk.injEq]at he;obtain⟨⟨h1,h2⟩,h3⟩:=he;simp only[lk]at h;simp only[List.findIdx_cons];cases hk:(k==j) with
      |true=>exact⟨j,by simp[h1],hk⟩
      |false=>simp only[hk]at h;simpa using ih es h h3
   have:=this l es.toList (by rw[hl];rfl) h2;simpa using this
  obtain⟨j,hj,hkj⟩:=yh;have mt:(Instr.keyThatStays (((es[l.findIdx fun x=>k==x.1]?).map (·.key)).getD (kk.inj k)) (kk.inj k)).run P w=.ok (kk.inj k) w:=by
   simp only[hj,Option.getD_some,Instr.keyThatStays,kk.bits k j hkj,if_true,Sem.run_pure]
  have iv:(doS (Instr.mapUpdate t (.map (some b)) (kk.inj k) (f v))).run P w=.ok .skip {w with heap:=w.heap.setIfInBounds b (.map (es.modify (l.findIdx fun x=>k==x.1) fun e=>{e with key:=kk.inj k,val:=f v}) c)}:=by
   simp only[doS,Instr.mapUpdate,Sem.run_bind,Ee,Result.andThen_ok,au7 hb,Ef,xj,mt,au8 hb,Sem.run_pure]
  rw[iv];refine⟨_,X7.set hw h1 rfl rfl rfl rfl,U9 (hg _ _ rfl ⟨_,_,H.put_same _ _ _,?_,MapKept.stamped_modify kn _ _ (fun _ _=>rfl) (fun e _ he=>?_)⟩)⟩
  case refine_2 =>
   rw[he]at hj;simp only[Option.map_some,Option.some.injEq]at hj;show kk.inj k=e.key;rw[hj,kk.eq k j hkj]
  rw[Array.toList_modify];exact bd3 l k v es.toList (by rw[hl];rfl) h2

theorem bW1{t kt et:TypeId}{ts:List TypeId}(ht:P.underlying t=some (.map kt et))(hk:P.underlying kt=some kk.d){ty:TypeId}{cs:List Bool}{Y:H}{b:Nat}{l:List (κ×α)}(h:Q7 Y b (W0 kk f l))(k:κ){g:H->Prop}
 (hg:∀o Y',P1 Y b o Y'->Q7 Y' b (W0 kk f (rm k l))->g Y'):biW P .delete ⟨t::ts⟩ ty cs [.map (some b),kk.inj k] (.tup []) g Y:=by
 obtain⟨es,c,h1,h2,kn⟩:=h;intro w hw;have hb:=hw b _ h1;have hf:=aw9 es.toList l k 0 h2;have Ee:(underlying t).run P w=.ok (.map kt et) w:=by simp[underlying,ht]
 have Ef:=ai5 (P:=P) (b:=es.isEmpty) (n:=9999) (v:=kk.inj k) hk kk.scal w;cases hl:lk k l with
 |none =>
  rw[hl]at hf;have xj:=ae1 (P:=P) hk hf w;have iv:(builtin .delete ⟨t::ts⟩ ty ⟨cs⟩ ⟨[.map (some b),kk.inj k]⟩).run P w=.ok (.value (.tuple #[])) {w with heap:=w.heap.setIfInBounds b (.map es c)}:=by
   simp[builtin,Builtin.delete_,Ee,au7 hb,Ef,xj,au8 hb]
  rw[iv];refine⟨_,X7.set hw h1 rfl rfl rfl rfl,U9 (hg _ _ rfl ⟨_,_,H.put_same _ _ _,?_,kn⟩)⟩;rw[ck9 l k hl];exact h2
 |some u =>
  rw[hl]at hf;simp only[Option.map_some,al5]at hf;have xj:=ae1 (P:=P) hk hf w;have iv:(builtin .delete ⟨t::ts⟩ ty ⟨cs⟩ ⟨[.map (some b),kk.inj k]⟩).run P w=.ok (.value (.tuple #[])) {w with heap:=w.heap.setIfInBounds b (.map (es.eraseIdxIfInBounds (l.findIdx fun x=>k==x.1)) c)}:=by
   simp[builtin,Builtin.delete_,Ee,au7 hb,Ef,xj,au8 hb]
  rw[iv];refine⟨_,X7.set hw h1 rfl rfl rfl rfl,U9 (hg _ _ rfl ⟨_,_,H.put_same _ _ _,?_,MapKept.stamped_erase kn _⟩)⟩;have iw:(l.findIdx fun x=>k==x.1)<es.size:=by
   have:=aV7 l k (by rw[hl];rfl);have e:=J7 List.length h2;simp[W0]at e;omega
  have:=cv4 (kk:=kk) (f:=f) l k es.toList (by rw[hl];rfl) h2;rw[<-this]
  congr 1
  simp[Array.eraseIdxIfInBounds,iw]
end
end Go.HL

