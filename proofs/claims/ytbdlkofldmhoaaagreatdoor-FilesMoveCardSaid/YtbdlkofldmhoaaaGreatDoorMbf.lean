/- A part of the proof: FilesMove holds. -/
import Derived.Test.YtbdlkofldmhoaaaGreatDoorMbe
set_option maxRecDepth 100000
namespace Go.Proofs.YtbdlkofldmhoaaaGreatDoor
open Go Go.HL Go.Wk
attribute [local irreducible] ptrW ifW brW andW rdT alW letJ stW muW biW vaW imW callT cvalT app callW invW callVW sizeT oW nilF oneK loopW rfW funW begW roundK exW idxW Gr Put
section
variable {σ σ' : H} {b : Nat} {A : AT} {M : RfM} {N : Nat}
theorem s_rfThere (hI:Wk.Inv A) (hB:Bd N A) (hN:N<=1000000000000) (hM:RfIn σ b A M) (cwd path:ByteArray) (fo:Bool) {K:KH}
 (hK:∀σ',Gr σ σ'->K (.tuple ⟨[.int .i64 (if(A.with_ cwd path fo).1=0 then(A.with_ cwd path fo).2.1 - 1 else 0),.int .i64 (A.with_ cwd path fo).1]⟩) σ') :
 callW Tryz.prog 96 [.pointer (some ⟨b,0,none⟩),.string cwd,.string path,.bool fo] K σ:=by
 refine c96 _ _ _ _ ?_
 unfold g96
 refine call_i (s_rfGo hI hB hN hM cwd path fo ?_)
 intro σ1 g1
 have hpl:=fun e=>locate_place hI cwd path fo e
 have hmk:A.with_ cwd path fo=(let r:=A.locate cwd path fo
  if r.1≠0 then(r.1,0,IN.z)else if r.2.there=false then(5,0,IN.z)else match A.get r.2.ino with
   | none=>(5,0,IN.z)
   | some n=>(0,r.2.ino,n.inode)):=rfl
 generalize A.locate cwd path fo=r at hpl hmk ⊢
 obtain⟨e,p⟩:=r
 simp only at hmk
 unfold plL
 by_cases he:e=0
 case neg =>
  rw[if_neg he]
  rw[if_pos he]at hmk
  unfold plZ
  (refine app_of rfl ?_;try dsimp only)
  refine al_i ?_;intro b8 σ2 g2 e2 n2
  refine st_i2 e2 sz_RPlace (by rfl) (by rfl) ?_;intro σ3 p3
  have hg3:Gr σ σ3:=g1.trans (g2.putF p3 n2)
  refine j_i (fun j=>j (some ⟨b8,0,none⟩) e false σ3) ?_ (fun j hj=>br_f (by simpa using he) hj)
  refine br_f rfl (ptr_i (rd_I (rdC_of p3.same (by rfl)) ?_))
  have:=hK σ3 hg3
  rw[hmk]at this
  simp only[he,if_false]at this
  exact this
 subst he
 rw[if_pos rfl]
 rw[if_neg (by decide)]at hmk
 unfold plV
 (refine app_of rfl ?_;try dsimp only)
 refine al_i ?_;intro b8 σ2 g2 e2 n2
 refine st_i2 e2 sz_RPlace (by rfl) (by rfl) ?_;intro σ3 p3
 have hg3:Gr σ σ3:=g1.trans (g2.putF p3 n2)
 have k8:σ3 b8=some (.cells ⟨[.int .i64 (p.dir - 1),.string p.name,.int .i64 (if p.there then p.ino - 1 else -1)]⟩ 133 (0,0)):=p3.same
 have hP:PlOk A p:=hpl rfl
 have:=hK σ3 hg3
 cases ht:p.there with
 | false =>
  rw[if_pos ht]at hmk
  rw[hmk]at this
  rw[if_neg (by rw[ht];decide)]at k8
  refine j_i (fun j=>j (some ⟨b8,0,none⟩) 0 true σ3) (br_t rfl this) ?_
  intro j hj
  refine br_t rfl (rd_I (rdC_of k8 (by rfl)) ?_)
  exact hj
 | true =>
  obtain⟨n,hn⟩:=PlOk.get hI hP ht
  have hlow:=(hI.low _ _ hn).1
  rw[if_neg (by rw[ht];decide),hn]at hmk
  rw[hmk]at this
  rw[if_pos ht]at k8
  refine j_i (fun j=>j (some ⟨b8,0,none⟩) 0 false σ3) ?_ (fun j hj=>br_t rfl (rd_I (rdC_of k8 (by rfl)) ?_))
  ·exact br_f rfl (ptr_i (rd_I (rdC_of k8 (by rfl)) this))
  ·have:decide (p.ino - 1<0)=false:=by simp only[decide_eq_false_iff_not];omega
   rw[this];exact hj
theorem s_rfChmod (hI:Wk.Inv A) (hB:Bd N A) (hN:N<=100000000) {D:Nat->Prop} (hA:RfAt σ b A D) (cwd path:ByteArray) (mode:Int) {K:KH}
 (hK:∀σ' D',RfAt σ' b (A.chmodF cwd path mode).2 D'->Sep σ D σ' D'->K (.int .i64 (A.chmodF cwd path mode).1) σ') :
 callW Tryz.prog 40 [.pointer (some ⟨b,0,none⟩),.string cwd,.string path,.int .i64 mode] K σ:=by
 obtain⟨M,hM,hD⟩:=hA
 refine c40 _ _ _ _ ?_
 unfold g40
 have same : ∀ (τ:H) (x:Int),A.chmodF cwd path mode=(x,A)->Gr σ τ->K (.int .i64 x) τ:=by
  intro τ x hx hg
  rw[hx]at hK
  exact hK τ D ⟨M,hM.gr hg,hD⟩ (Sep.gr hg)
 refine j_i (fun j=>j (some ⟨b,0,none⟩) cwd path mode (decide (mode<0\/mode>511)) σ) ?_ ?_
 case refine_2 =>
  intro j hj
  by_cases c1:mode<0
  ·refine br_t (by simpa using c1) ?_
   have:decide (mode<0\/mode>511)=true:=by simp[c1]
   rw[this]at hj;exact hj
  ·refine br_f (by simpa using c1) ?_
   have:decide (mode<0\/mode>511)=decide (mode>511):=by simp[c1]
   rw[this]at hj;exact hj
 by_cases hm:mode<0\/mode>511
 ·refine br_t (by simpa using hm) (same σ 2 (by unfold AT.chmodF;rw[if_pos hm]) (Gr.refl _))
 refine br_f (by simpa using hm) (call_i (s_rfThere hI hB (by omega) hM cwd path true ?_))
 intro σ1 g1
 have hmk:A.chmodF cwd path mode=(if(A.with_ cwd path true).1≠0 then((A.with_ cwd path true).1,A)else A.chmodR (A.with_ cwd path true).2.1 mode):=by
  unfold AT.chmodF;rw[if_neg hm]
 have hw:(A.with_ cwd path true).1=0 -> ∃n,A.get (A.with_ cwd path true).2.1=some n:=by
  unfold AT.with_
  simp only
  intro h
  split at h
  ·rename_i h2;exact absurd h h2
  ·rename_i h2
   rw[if_neg h2]
   split at h
   ·cases h
   ·rename_i h3
    rw[if_neg h3]
    cases hg:A.get (A.locate cwd path true).2.ino with
    | none=>rw[hg]at h;cases h
    | some n=>exact⟨n,hg⟩
 generalize A.with_ cwd path true=w at hmk hw ⊢
 obtain⟨e,ino,x⟩:=w
 simp only at hmk hw
 by_cases he:e=0
 case neg =>
  (refine app_of rfl ?_;try dsimp only)
  refine j_i (fun j=>j e σ1) ?_ (fun j hj=>br_f (by simpa using he) hj)
  exact same σ1 e (by rw[hmk,if_pos he]) g1
 subst he
 obtain⟨n,hn⟩:=hw rfl
 rw[if_neg (by decide)]at hmk
 rw[if_pos rfl]
 (refine app_of rfl ?_;try dsimp only)
 have hlow:=(hI.low _ _ hn).1
 have h11:ino - 1+1=ino:=by omega
 have hM1:=hM.gr g1
 have hc:A.chmodF cwd path mode=(0,A.chmoded ino mode):=by
  rw[hmk];unfold AT.chmodR AT.chmodE
  rw[if_pos (show 0<=mode/\mode<=511 by omega),hn];rfl
 refine j_i (fun j => ∀τ M',RfIn τ b (A.chmoded ino mode) M'->(∀c o,σ c=some o->M.w c=none->τ c=some o/\M'.w c=none)->j 0 τ) ?_ ?_
 ·intro τ M' h1 h2
  rw[hc]at hK
  exact hK τ (fun c=>M'.w c≠none) ⟨M',h1,fun c=>Iff.rfl⟩ (Sep.of_frame hD h2)
 intro j hj
 refine br_t rfl (rf_at hM1 hI (d:=ino - 1) (n:=n) (by rw[h11];exact hn) ?_)
 rw[h11]
 refine st_i2 (hM1.nod _ _ hn) sz_int (by rfl) (by rfl) ?_;intro σ4 p4
 have p4':Put σ1 (M.cb ino) (nodeO { n with mode:=mode } (M.ey ino)) σ4:=p4
 have hM4:=hM1.setN (fun i n hn=>(hI.low i n hn).1) hn (n':={ n with mode:=mode }) (y':=M.ey ino) p4' (show RowsOwn σ1 165 2 (eRow n.ents) _ from hM1.ent _ _ hn) (fun g hg => .inr (hM1.we _ _ g hn hg))
 have hch:A.chmoded ino mode=A.set ino { n with mode:=mode }:=by unfold AT.chmoded AT.mod;rw[hn]
 rw[hch]at hj
 refine hj σ4 _ hM4 fun c o hc hw => ?_
 have hcb:c≠M.cb ino:=fun e=>by rw[e,hM.wn _ _ hn]at hw;cases hw
 refine⟨p4'.get hcb (g1.get hc),?_⟩
 show(if(M.ey ino).base=some ⟨c,0,none⟩then some (ino,true)else M.w c)=none
 rw[if_neg (fun e=>by rw[hM.we _ _ c hn e]at hw;cases hw)];exact hw
theorem s_rfSymlink (hI:Wk.Inv A) (hB:Bd N A) (hN:N<=100000000) {D:Nat->Prop} (hA:RfAt σ b A D) (cwd target path:ByteArray) (hz:target.size<=1000000000000) {K:KH}
 (hK:∀σ' D',RfAt σ' b (A.symlinkF cwd target path).2 D'->Sep σ D σ' D'->K (.int .i64 (A.symlinkF cwd target path).1) σ') :
 callW Tryz.prog 41 [.pointer (some ⟨b,0,none⟩),.string cwd,.string target,.string path] K σ:=by
 obtain⟨M,hM,hD⟩:=hA
 refine c41 _ _ _ _ ?_
 unfold g41
 have same : ∀ (τ:H) (x:Int),A.symlinkF cwd target path=(x,A)->Gr σ τ->K (.int .i64 x) τ:=by
  intro τ x hx hg
  rw[hx]at hK
  exact hK τ D ⟨M,hM.gr hg,hD⟩ (Sep.gr hg)
 have hlen:target.data.toList.length=target.size:=(size_list target).symm
 refine loop_i ?_
 intro R hR
 have key : ∀ (c i:Nat),c+i=target.size->(0:UInt8)∉target.data.toList.take i->R (some ⟨b,0,none⟩) cwd target path (i:Int) σ:=by
  intro c
  induction c with
  | succ c ihc =>
   intro i hc hno
   refine hR _ _ _ _ _ _ ?_
   obtain⟨ch,hch⟩ : ∃ch,target.data.toList[i]? = some ch:=⟨_,List.getElem?_eq_getElem (by omega)⟩
   refine br_t (by simp only[decide_eq_true_eq];omega) (idx_l (c:=ch) (by omega) (by simpa using hch) ?_)
   by_cases hc0:ch=0
   ·subst hc0
    have hnul:hasNul target=true:=by
     unfold hasNul
     rw[List.any_eq_true]
     exact⟨0,List.mem_of_getElem? hch,by decide⟩
    refine br_t rfl (same σ 2 ?_ (Gr.refl _))
    unfold AT.symlinkF
    rw[if_pos (by unfold linkOk;rw[hnul];simp)]
   ·refine br_f ?_ ?_
    ·have : ¬ ((ch.toNat : Int) = 0) := by
      intro e;apply hc0
      have:ch.toNat=0:=by omega
      exact UInt8.toNat_inj.1 this
     simpa using this
    ·rw[wrap_id (x:=(i:Int)+1) (by omega) (by omega)]
     refine ihc (i+1) (by omega) ?_
     rw[List.take_add_one,hch]
     simp only[Option.toList_some,List.mem_append,List.mem_singleton,not_or]
     exact⟨hno,fun e=>hc0 e.symm⟩
  | zero =>
   intro i hc hno
   have hi:i=target.size:=by omega
   have hnul:hasNul target=false:=by
    rw[hi,<- hlen,List.take_length]at hno
    unfold hasNul
    rw[List.any_eq_false]
    intro x hx
    simp only[beq_iff_eq]
    rintro rfl;exact hno hx
   refine hR _ _ _ _ _ _ ?_
   refine br_f (by simp only[decide_eq_false_iff_not];omega) ?_
   have hlk:linkOk target = !(decide (target.size<1\/target.size>255)):=by
    unfold linkOk
    rw[hnul]
    cases h0:sEq target ⟨⟨[]⟩⟩ with
    | true =>
     have:target.size=0:=by rw[sEq_iff.1 h0];rfl
     simp[this]
    | false =>
     have:target.size≠0:=by
      intro e
      have:target=⟨⟨[]⟩⟩:=bytes_ext (List.length_eq_zero_iff.1 (by rw[hlen,e]))
      rw[this]at h0;exact absurd h0 (by decide)
     by_cases h2:target.size>255
     ·simp[h2]
     ·have h3:target.size<=255:=by omega
      have h4 : ¬ (target.size<1\/target.size>255):=by omega
      have e1:decide (target.size<=255)=true:=by simpa using h3
      have e2:decide (target.size<1\/target.size>255)=false:=by simp only[decide_eq_false_iff_not];exact h4
      rw[e1,e2];rfl
   refine j_i (fun j=>j (some ⟨b,0,none⟩) cwd target path (!linkOk target) σ) ?_ ?_
   case refine_2 =>
    intro j hj
    rw[hlk,Bool.not_not]at hj
    by_cases c1:target.size<1
    ·refine br_t (by simp only[decide_eq_true_eq];omega) ?_
     have:decide (target.size<1\/target.size>255)=true:=by simp[c1]
     rw[this]at hj;exact hj
    ·refine br_f (by simp only[decide_eq_false_iff_not];omega) ?_
     have:decide (target.size<1\/target.size>255)=decide ((((target.size:Nat):Int))>255):=by
      by_cases h2:target.size>255
      ·have:((target.size:Nat):Int)>255:=by omega
       simp[h2,this]
      ·have h3 : ¬ ((target.size:Nat):Int)>255:=by omega
       have h4 : ¬ (target.size<1\/target.size>255):=by omega
       simp only[h3,h4]
     rw[this]at hj;exact hj
   cases hl:linkOk target with
   | false=>exact br_t rfl (same σ 2 (by unfold AT.symlinkF;rw[if_pos hl]) (Gr.refl _))
   | true =>
    refine br_f rfl (call_i (s_rfGo hI hB (by omega) hM cwd path false ?_))
    intro σ1 g1
    have hpl:=fun e=>locate_place hI cwd path false e
    have hmk:A.symlinkF cwd target path=(let r:=A.locate cwd path false
     if r.1≠0 then(r.1,A)else if r.2.there=true then(6,A)else let m:=A.makeR r.2.dir r.2.name 3 511 target;(m.2.1,m.2.2)):=by
     unfold AT.symlinkF AT.freshP
     rw[if_neg (by rw[hl];decide)]
     simp only
     by_cases h:(A.locate cwd path false).1=0
     ·simp only[h,ne_eq,not_true_eq_false,if_false]
      cases h2:(A.locate cwd path false).2.there<;>simp
     ·simp[h]
    generalize A.locate cwd path false=r at hpl hmk ⊢
    obtain⟨e,p⟩:=r
    simp only at hmk
    unfold plL
    by_cases he:e=0
    case neg =>
     rw[if_neg he]
     unfold plZ
     (refine app_of rfl ?_;try dsimp only)
     refine al_i ?_;intro b8 σ2 g2 e2 n2
     refine st_i2 e2 sz_RPlace (by rfl) (by rfl) ?_;intro σ3 p3
     refine br_t (by simpa using he) (same σ3 e (by rw[hmk,if_pos he]) (g1.trans (g2.putF p3 n2)))
    subst he
    rw[if_pos rfl]
    rw[if_neg (by decide)]at hmk
    unfold plV
    (refine app_of rfl ?_;try dsimp only)
    refine al_i ?_;intro b8 σ2 g2 e2 n2
    refine st_i2 e2 sz_RPlace (by rfl) (by rfl) ?_;intro σ3 p3
    have hg3:Gr σ σ3:=g1.trans (g2.putF p3 n2)
    have k8:σ3 b8=some (.cells ⟨[.int .i64 (p.dir - 1),.string p.name,.int .i64 (if p.there then p.ino - 1 else -1)]⟩ 133 (0,0)):=p3.same
    have hM3:=hM.gr hg3
    have hP:PlOk A p:=hpl rfl
    refine br_f rfl (rd_I (rdC_of k8 (by rfl)) ?_)
    cases ht:p.there with
    | true =>
     obtain⟨n,hn⟩:=PlOk.get hI hP ht
     have hlow:=(hI.low _ _ hn).1
     rw[if_pos ht]at hmk
     exact br_t (by simp;omega) (same σ3 6 hmk hg3)
    | false =>
     rw[if_neg (by rw[ht];decide)]at hmk
     have hdir:A.isDir p.dir:=hP.1
     have hd11:p.dir - 1+1=p.dir:=by omega
     refine br_f rfl (rd_G (rdA_of' k8 (by rfl)) ?_)
     (refine app_of rfl ?_;try dsimp only)
     obtain⟨nm,fd⟩:=hP.named (hP.notThere ht)
     rw[if_neg (by rw[ht];decide)]at fd
     refine call_i (s_rfMade hI hB hN hM3 (d:=p.dir - 1) (by rw[hd11];exact hdir) nm (by unfold likeE kindOkE;simp[lk,hl]) (by rw[hd11];exact fd) ?_)
     intro σ' M' hR hfr
     rw[hd11]at hR ⊢
     rw[hmk]at hK
     exact app_I (hK σ' (fun c=>M'.w c≠none) ⟨M',hR,fun c=>Iff.rfl⟩ (Sep.of_frame hD fun c o hc hw=>hfr c o (hg3.get hc) hw))
 exact key target.size 0 (by omega) (by simp)
end
end Go.Proofs.YtbdlkofldmhoaaaGreatDoor

set_option maxRecDepth 100000
namespace Go.Wk
open Go Go.HL
def wCp:List ByteArray:=[⟨⟨[45,114]⟩⟩,⟨⟨[100]⟩⟩,⟨⟨[101]⟩⟩]
def wLs:List ByteArray:=[⟨⟨[101]⟩⟩]
def wRm:List ByteArray:=[⟨⟨[45,114]⟩⟩,⟨⟨[101]⟩⟩]
def wq0:AT:=bgT 30 100
def wq1:AT:=(callP wq0 ⟨⟨[99,112]⟩⟩ wCp).2
def wq2:AT:=(callP wq1 ⟨⟨[108,115]⟩⟩ wLs).2
def wq3:AT:=(callP wq2 ⟨⟨[114,109]⟩⟩ wRm).2
theorem wq_cp:(callP wq0 ⟨⟨[99,112]⟩⟩ wCp).1=⟨⟨[48]⟩⟩:=sEq_iff.1 (by decide +kernel)
theorem wq_ls:(callP wq1 ⟨⟨[108,115]⟩⟩ wLs).1=⟨⟨[48,102,10,115,10]⟩⟩:=sEq_iff.1 (by decide +kernel)
theorem wq_rm:(callP wq2 ⟨⟨[114,109]⟩⟩ wRm).1=⟨⟨[48]⟩⟩:=sEq_iff.1 (by decide +kernel)
theorem wq_st:(wq3.stat ⟨⟨[47]⟩⟩ ⟨⟨[101]⟩⟩ true).1=5:=by decide +kernel
end Go.Wk

set_option maxRecDepth 100000
namespace Go.Proofs.YtbdlkofldmhoaaaGreatDoor
open Go Go.HL Go.Wk
attribute [local irreducible] ptrW ifW brW andW rdT alW letJ stW muW biW vaW imW callT cvalT app callW invW callVW sizeT oW nilF oneK loopW rfW funW begW roundK exW idxW Gr Put
theorem grx_sub {ρ σ σ' τ':H} (h1:Gr τ' σ') (h3:∀b o,ρ b=none->σ b=some o->σ' b=some o) {θ:H} (hg:Gr θ σ) (hd:∀b,θ b≠none->ρ b=none):Gr θ σ':=gr_of fun b o hb=>h3 b o (hd b (by rw[hb];simp)) (hg.get hb)
def Two (A:AT) (bf br:Nat) (σ τ:H):Prop := ∃ρF ρR B D,FsAt ρF bf A B/\RfAt ρR br A D/\Gr ρF τ/\Gr ρR τ/\Gr σ τ/\(∀b,σ b≠none->ρF b=none)/\(∀b,σ b≠none->ρR b=none)/\(∀b,ρF b≠none->ρR b=none)
theorem nn_gr {σ τ:H} (h:Gr σ τ) {b:Nat} (hb:σ b≠none):τ b≠none:=by
 cases hs:σ b with
 | none=>exact absurd hs hb
 | some o=>rw[h.get hs];simp
section
variable {σ τ : H} {bf br : Nat} {A A' : AT}
theorem two_op {f g:FuncId} {as_ cs:List Value} {e:Int} (h:Two A bf br σ τ)
 (hf:∀ (K':KH) ρ B,FsAt ρ bf A B->(∀σ' B',FsAt σ' bf A' B'->K' (.int .i64 e) σ')->callW Tryz.prog f as_ K' ρ)
 (hg:∀ (K':KH) ρ D,RfAt ρ br A D->(∀σ' D',RfAt σ' br A' D'->K' (.int .i64 e) σ')->callW Tryz.prog g cs K' ρ)
 {G:H->Prop} (hG:∀τ',Two A' bf br σ τ'->G τ'):callT Tryz.prog f as_ (.one (.sc (.int .i64))) (fun(_:Int)=>callT Tryz.prog g cs (.one (.sc (.int .i64))) (fun(_:Int)=>G)) τ:=by
 obtain⟨ρF,ρR,B,D,hF,hR,gF,gR,gσ,dF,dR,dFR⟩:=h
 refine call_from gF (hf (fun v τ' => ∃B',v = .int .i64 e/\FsAt τ' bf A' B') ρF B hF fun σ' B' h1=>⟨B',rfl,h1⟩) ?_
 rintro v σ5 ρF5 ⟨B5,rfl,F5⟩ f1 f2 f3
 have gR5:Gr ρR σ5:=grx_sub f1 f2 gR (fun b hb=>by
  cases h:ρF b with
  | none=>rfl
  | some o=>exact absurd (dFR b (by rw[h];simp)) hb)
 have gσ5:Gr σ σ5:=grx_sub f1 f2 gσ dF
 have dF5 : ∀b,σ b≠none->ρF5 b=none:=fun b hb=>f3 b (nn_gr gσ hb) (dF b hb)
 have dFR5 : ∀b,ρF5 b≠none->ρR b=none:=fun b hb=>by
  cases h:ρR b with
  | none=>rfl
  | some o =>
   refine absurd (f3 b (by rw[gR.get h];simp) ?_) hb
   cases h2:ρF b with
   | none=>rfl
   | some o2=>have:=dFR b (by rw[h2];simp);rw[h]at this;cases this
 refine app_I (call_from gR5 (hg (fun v τ' => ∃B',v = .int .i64 e/\RfAt τ' br A' B') ρR D hR fun σ' B' h1=>⟨B',rfl,h1⟩) ?_)
 rintro v σ6 ρR6 ⟨D6,rfl,R6⟩ h1 h2 h3
 refine app_I (hG σ6 ⟨ρF5,ρR6,B5,D6,F5,R6,grx_sub h1 h2 f1 dFR5,h1,grx_sub h1 h2 gσ5 dR,dF5,?_,?_⟩)
 ·intro b hb
  exact h3 b (nn_gr gσ5 hb) (dR b hb)
 ·intro b hb
  exact h3 b (nn_gr f1 hb) (dFR5 b hb)
theorem two_mkdir {N:Nat} (h:Two A bf br σ τ) (hI:Inv A) (hB:Bd N A) (hN:N<=100000000) (cwd path:ByteArray) {G:H->Prop} (hG:∀τ',Two (A.mkdirF cwd path).2 bf br σ τ'->G τ') :
 callT Tryz.prog 9 [.pointer (some ⟨bf,0,none⟩),.string cwd,.string path] (.one (.sc (.int .i64))) (fun(_:Int)=>callT Tryz.prog 37 [.pointer (some ⟨br,0,none⟩),.string cwd,.string path] (.one (.sc (.int .i64))) (fun(_:Int)=>G)) τ :=
 two_op h (fun K' ρ B hF hk=>s_Mkdir hI hB (by omega) hF cwd path fun σ' B' h1 _=>hk σ' B' h1) (fun K' ρ D hR hk=>s_rfMkdir hI hB hN hR cwd path fun σ' B' h1 _=>hk σ' B' h1) hG
theorem two_write {N:Nat} (h:Two A bf br σ τ) (hI:Inv A) (hB:Bd N A) (hN:N<=100000000) (cwd path data:ByteArray) (more:Bool) (hd:data.size<=1000) {G:H->Prop} (hG:∀τ',Two (A.writeF cwd path data more).2 bf br σ τ'->G τ') :
 callT Tryz.prog 10 [.pointer (some ⟨bf,0,none⟩),.string cwd,.string path,.string data,.bool more] (.one (.sc (.int .i64))) (fun(_:Int)=>callT Tryz.prog 38 [.pointer (some ⟨br,0,none⟩),.string cwd,.string path,.string data,.bool more] (.one (.sc (.int .i64))) (fun(_:Int)=>G)) τ :=
 two_op h (fun K' ρ B hF hk=>s_Write hI hB (by omega) hF cwd path data more (by omega) fun σ' B' h1 _=>hk σ' B' h1) (fun K' ρ D hR hk=>s_rfWrite hI hB hN hR cwd path data more (by omega) fun σ' B' h1 _=>hk σ' B' h1) hG
theorem two_chmod {N:Nat} (h:Two A bf br σ τ) (hI:Inv A) (hB:Bd N A) (hN:N<=100000000) (cwd path:ByteArray) (mode:Int) {G:H->Prop} (hG:∀τ',Two (A.chmodF cwd path mode).2 bf br σ τ'->G τ') :
 callT Tryz.prog 39 [.pointer (some ⟨bf,0,none⟩),.string cwd,.string path,.int .i64 mode] (.one (.sc (.int .i64))) (fun(_:Int)=>callT Tryz.prog 40 [.pointer (some ⟨br,0,none⟩),.string cwd,.string path,.int .i64 mode] (.one (.sc (.int .i64))) (fun(_:Int)=>G)) τ :=
 two_op h (fun K' ρ B hF hk=>s_Chmod hF cwd path mode fun σ' B' h1 _=>hk σ' B' h1) (fun K' ρ D hR hk=>s_rfChmod hI hB hN hR cwd path mode fun σ' B' h1 _=>hk σ' B' h1) hG
theorem two_symlink {N:Nat} (h:Two A bf br σ τ) (hI:Inv A) (hB:Bd N A) (hN:N<=100000000) (cwd target path:ByteArray) (hd:target.size<=1000) {G:H->Prop} (hG:∀τ',Two (A.symlinkF cwd target path).2 bf br σ τ'->G τ') :
 callT Tryz.prog 11 [.pointer (some ⟨bf,0,none⟩),.string cwd,.string target,.string path] (.one (.sc (.int .i64))) (fun(_:Int)=>callT Tryz.prog 41 [.pointer (some ⟨br,0,none⟩),.string cwd,.string target,.string path] (.one (.sc (.int .i64))) (fun(_:Int)=>G)) τ :=
 two_op h (fun K' ρ B hF hk=>s_Symlink hI hB (by omega) hF cwd target path fun σ' B' h1 _=>hk σ' B' h1) (fun K' ρ D hR hk=>s_rfSymlink hI hB hN hR cwd target path (by omega) fun σ' B' h1 _=>hk σ' B' h1) hG
end
theorem bg_chain {qi qb:Int} (hq:newOk qi qb=true):Inv (bgT qi qb)/\Bd 8 (bgT qi qb):=by
 obtain⟨i0,d0⟩:=newT_ok hq
 have o1:=mkdirF_ok i0 d0 (by decide) ⟨⟨[47]⟩⟩ ⟨⟨[100]⟩⟩
 have o2:=mkdirF_ok o1.inv o1.bd (by decide) ⟨⟨[47]⟩⟩ ⟨⟨[100,47,115]⟩⟩
 have o3:=writeF_ok o2.inv o2.bd (by decide) ⟨⟨[47]⟩⟩ ⟨⟨[100,47,102]⟩⟩ ⟨⟨[104,105]⟩⟩ false (by decide)
 have o4:=writeF_ok o3.inv o3.bd (by decide) ⟨⟨[47]⟩⟩ ⟨⟨[100,47,115,47,103]⟩⟩ ⟨⟨[114,117,110]⟩⟩ false (by decide)
 have o5:=chmodF_ok o4.inv o4.bd ⟨⟨[47]⟩⟩ ⟨⟨[100,47,115,47,103]⟩⟩ 493
 have o6:=symlinkF_ok o5.inv o5.bd (by decide) ⟨⟨[47]⟩⟩ ⟨⟨[100]⟩⟩ ⟨⟨[108]⟩⟩
 have o7:=symlinkF_ok o6.inv o6.bd (by decide) ⟨⟨[47]⟩⟩ ⟨⟨[110,111,110,101]⟩⟩ ⟨⟨[109]⟩⟩
 exact⟨o7.inv,o7.bd.mono (by decide)⟩
section
variable {σ : H}
theorem s_begun19 {qi qb:Int} (hq:newOk qi qb=true) {K:KH} (hK:∀bf br σ' B',FsAt σ' bf (bgT qi qb) B'->Off σ σ' B'->K (.tuple ⟨[.pointer (some ⟨bf,0,none⟩),.pointer (some ⟨br,0,none⟩)]⟩) σ') :
 callW Tryz.prog 14 [.agg ⟨[.int .i64 qi,.int .i64 qb]⟩] K σ:=by
 refine c14 _ _ ?_
 unfold g14
 refine al_i ?_;intro b2 σ2 g2 k2 n1
 refine rd_G (rdA_of' k2 (by rfl)) ?_
 (refine app_of rfl ?_;try dsimp only)
 refine rd_G (rdA_of' k2 (by rfl)) ?_
 (refine app_of rfl ?_;try dsimp only)
 refine call_from (gr_empty σ2) (s_New qi qb (K:=fun v τ => ∃bf B,v = .pointer (some ⟨bf,0,none⟩)/\FsAt τ bf (newT qi qb) B) (fun h=>by rw[hq]at h;cases h) fun _ bf σ' B' h1 _ _=>⟨bf,B',rfl,h1⟩) ?_
 rintro v σ3 ρF ⟨bf,B,rfl,hF⟩ w1 w2 w3
 have g3:Gr σ2 σ3:=gr_of fun b o hb=>w2 b o rfl hb
 have dF : ∀b,σ2 b≠none->ρF b=none:=fun b hb=>w3 b hb rfl
 refine app_P (and_i (rdA_of' (g3.get k2) (by rfl)) ?_)
 refine call_from (gr_empty σ3) (s_rfNew qi qb (K:=fun v τ => ∃br D,v = .pointer (some ⟨br,0,none⟩)/\RfAt τ br (newT qi qb) D) (fun h=>by rw[hq]at h;cases h) fun _ bf σ' B' h1 _ _=>⟨bf,B',rfl,h1⟩) ?_
 rintro v σ4 ρR ⟨br,D,rfl,hR⟩ y1 y2 y3
 have g4:Gr σ3 σ4:=gr_of fun b o hb=>y2 b o rfl hb
 have dR : ∀b,σ3 b≠none->ρR b=none:=fun b hb=>y3 b hb rfl
 have T0:Two (newT qi qb) bf br σ σ4:=⟨ρF,ρR,B,D,hF,hR,w1.trans g4,y1,(g2.trans g3).trans g4,fun b hb=>dF b (nn_gr g2 hb),fun b hb=>dR b (nn_gr (g2.trans g3) hb),fun b hb=>dR b (nn_gr w1 hb)⟩
 refine app_P ?_
 obtain⟨i0,d0⟩:=newT_ok hq
 refine j_i (fun j=>j (some ⟨bf,0,none⟩) (some ⟨br,0,none⟩) false σ4) ?_ (fun j hj=>br_f rfl hj)
 refine br_f rfl ?_
 have o1:=mkdirF_ok i0 d0 (by decide) ⟨⟨[47]⟩⟩ ⟨⟨[100]⟩⟩
 have o2:=mkdirF_ok o1.inv o1.bd (by decide) ⟨⟨[47]⟩⟩ ⟨⟨[100,47,115]⟩⟩
 have o3:=writeF_ok o2.inv o2.bd (by decide) ⟨⟨[47]⟩⟩ ⟨⟨[100,47,102]⟩⟩ ⟨⟨[104,105]⟩⟩ false (by decide)
 have o4:=writeF_ok o3.inv o3.bd (by decide) ⟨⟨[47]⟩⟩ ⟨⟨[100,47,115,47,103]⟩⟩ ⟨⟨[114,117,110]⟩⟩ false (by decide)
 have o5:=chmodF_ok o4.inv o4.bd ⟨⟨[47]⟩⟩ ⟨⟨[100,47,115,47,103]⟩⟩ 493
 have o6:=symlinkF_ok o5.inv o5.bd (by decide) ⟨⟨[47]⟩⟩ ⟨⟨[100]⟩⟩ ⟨⟨[108]⟩⟩
 refine two_mkdir T0 i0 d0 (by decide) _ _ ?_
 intro τ1 T1
 refine two_mkdir T1 o1.inv o1.bd (by decide) _ _ ?_
 intro τ2 T2
 refine two_write T2 o2.inv o2.bd (by decide) _ _ _ _ (by decide) ?_
 intro τ3 T3
 refine two_write T3 o3.inv o3.bd (by decide) _ _ _ _ (by decide) ?_
 intro τ4 T4
 refine two_chmod T4 o4.inv o4.bd (by decide) _ _ _ ?_
 intro τ5 T5
 refine two_symlink T5 o5.inv o5.bd (by decide) _ _ _ (by decide) ?_
 intro τ6 T6
 refine two_symlink T6 o6.inv o6.bd (by decide) _ _ _ (by decide) ?_
 intro τ7 T7
 obtain⟨ρF,ρR,B,D,hF,hR,gF,gR,gσ,dF,dR,dFR⟩:=T7
 exact hK bf br τ7 B (hF.gr gF) ⟨gσ,fun b o hb=>hF.fresh (dF b (by rw[hb];simp))⟩
theorem strF1 {σ:H} {b:Nat} {s:ByteArray} {ty:TypeId} {fz:Nat×Nat} (h:σ b=some (.cells ⟨[.string s]⟩ ty fz)):RowsAt σ 1 (strRows [s]) ⟨some ⟨b,0,none⟩,1,1⟩ :=
 ⟨rfl,.inr ⟨b,0,_,_,_,rfl,h,fun i p hi=>by
  match i,hi with
  | 0,hi=>cases hi;exact⟨rfl,rfl⟩
  | n+1,hi=>simp[strRows]at hi⟩⟩
theorem strF2 {σ:H} {b:Nat} {s t:ByteArray} {ty:TypeId} {fz:Nat×Nat} (h:σ b=some (.cells ⟨[.string s,.string t]⟩ ty fz)):RowsAt σ 1 (strRows [s,t]) ⟨some ⟨b,0,none⟩,2,2⟩ :=
 ⟨rfl,.inr ⟨b,0,_,_,_,rfl,h,fun i p hi=>by
  match i,hi with
  | 0,hi=>cases hi;exact⟨rfl,rfl⟩
  | 1,hi=>cases hi;exact⟨rfl,rfl⟩
  | n+2,hi=>simp[strRows]at hi⟩⟩
theorem strF3 {σ:H} {b:Nat} {s t u:ByteArray} {ty:TypeId} {fz:Nat×Nat} (h:σ b=some (.cells ⟨[.string s,.string t,.string u]⟩ ty fz)):RowsAt σ 1 (strRows [s,t,u]) ⟨some ⟨b,0,none⟩,3,3⟩ :=
 ⟨rfl,.inr ⟨b,0,_,_,_,rfl,h,fun i p hi=>by
  match i,hi with
  | 0,hi=>cases hi;exact⟨rfl,rfl⟩
  | 1,hi=>cases hi;exact⟨rfl,rfl⟩
  | 2,hi=>cases hi;exact⟨rfl,rfl⟩
  | n+3,hi=>simp[strRows]at hi⟩⟩
theorem s_works19 {K:KH} (hK:K (.bool true) σ):callW Tryz.prog 13 [] K σ:=by
 refine pure_i _ hK (c13 ?_)
 clear hK
 unfold g13
 refine call_i (s_begun19 (qi:=30) (qb:=100) (by decide) ?_)
 intro bf br σ1 B1 F1 O1
 obtain⟨i0,d0⟩:=bg_chain (qi:=30) (qb:=100) (by decide)
 have p0:Pot 8 wq0:=Pot.of i0 d0
 replace F1:FsAt σ1 bf wq0 B1:=F1
 (refine app_of rfl ?_;try dsimp only)
 refine j_i (fun j => ∀σ' B',FsAt σ' bf wq3 B'->Gr σ σ'->j (some ⟨bf,0,none⟩) false σ') ?_ ?_
 ·intro σ2 B2 F2 g2
  refine br_f rfl (call_i (s_Stat F2 _ _ _ ?_))
  unfold inV
  (refine app_of rfl ?_;try dsimp only)
  refine al_i ?_;intro b3 σ3 g3 e3 n3
  refine st_i2 e3 sz_InoF (by rfl) (by rfl) ?_;intro σ4 p4
  have g4:Gr σ2 σ4:=g3.putF p4 n3
  refine call_i (s_fiNone (F2.gr g4) _ _ _ (x:=⟨none,0,0⟩) (by decide +kernel) ?_)
  unfold dnF
  (refine app_of rfl ?_;try dsimp only)
  refine al_i ?_;intro b5 σ5 g5 e5 n5
  refine st_i2 e5 sz_DoneF (by rfl) (by rfl) ?_;intro σ6 p6
  have g6:Gr σ4 σ6:=g5.putF p6 n5
  rw[wq_st]
  exact br_t rfl ⟨rfl,(g2.trans g4).trans g6⟩
 ·intro j hj
  refine br_f rfl ?_
  refine al_i ?_;intro b17 σ2 g2 e2 n2
  have A2:ArgOk (σ.put b17 (.cells ⟨[.string ⟨⟨[45,114]⟩⟩,.string ⟨⟨[100]⟩⟩,.string ⟨⟨[101]⟩⟩]⟩ 9 (0,0))) wCp ⟨some ⟨b17,0,none⟩,3,3⟩:=⟨strF3 (H.put_same _ _ _),Nat.le_refl _,by decide,by decide⟩
  refine call_i (c_cp (A:=wq0) (F1.gr g2) ((O1.gr g2).add e2 (F1.fresh n2)) A2 p0 (by decide) (by rw[show cpN=⟨⟨[99,112]⟩⟩from rfl,wq_cp];decide) ?_)
  rw[show callP wq0 cpN wCp=callP wq0 ⟨⟨[99,112]⟩⟩ wCp from rfl,wq_cp]
  intro σ3 B3 F3 s3 p3
  replace F3:FsAt σ3 bf wq1 B3:=F3
  replace p3:Pot 8 wq1:=p3
  have O3:=(O1.gr g2).sep s3
  refine app_S (br_f (by rw[strEq_iff.2 rfl];rfl) ?_)
  refine al_i ?_;intro b19 σ4 g4 e4 n4
  have A4:ArgOk (σ.put b19 (.cells ⟨[.string ⟨⟨[101]⟩⟩]⟩ 9 (0,0))) wLs ⟨some ⟨b19,0,none⟩,1,1⟩:=⟨strF1 (H.put_same _ _ _),Nat.le_refl _,by decide,by decide⟩
  refine call_i (c_ls (A:=wq1) (F3.gr g4) ((O3.gr g4).add e4 (F3.fresh n4)) A4 ⟨p3.inv,p3.bd'⟩ (by decide) (by rw[show lsN=⟨⟨[108,115]⟩⟩from rfl,wq_ls];decide) ?_)
  rw[show callP wq1 lsN wLs=callP wq1 ⟨⟨[108,115]⟩⟩ wLs from rfl,wq_ls]
  intro σ5 B5 F5 s5 q5
  have q5:wq2=wq1:=q5
  replace F5:FsAt σ5 bf wq2 B5:=F5
  have O5:=(O3.gr g4).sep s5
  refine app_S (br_f (by rw[strEq_iff.2 rfl];rfl) ?_)
  refine al_i ?_;intro b21 σ6 g6 e6 n6
  have A6:ArgOk (σ.put b21 (.cells ⟨[.string ⟨⟨[45,114]⟩⟩,.string ⟨⟨[101]⟩⟩]⟩ 9 (0,0))) wRm ⟨some ⟨b21,0,none⟩,2,2⟩:=⟨strF2 (H.put_same _ _ _),Nat.le_refl _,by decide,by decide⟩
  refine call_i (c_rm (A:=wq2) (N:=8+1048576) (F5.gr g6) ((O5.gr g6).add e6 (F5.fresh n6)) A6 (by rw[q5];exact⟨p3.inv,p3.bd'⟩) (by decide) (by rw[show rmT=⟨⟨[114,109]⟩⟩from rfl,wq_rm];decide) ?_)
  rw[show callP wq2 rmT wRm=callP wq2 ⟨⟨[114,109]⟩⟩ wRm from rfl,wq_rm]
  intro σ7 B7 F7 s7 _
  have O7:=(O5.gr g6).sep s7
  refine app_S ?_
  rw[show strEq (⟨⟨[48]⟩⟩:ByteArray) ⟨⟨[48]⟩⟩=true from strEq_iff.2 rfl]
  exact hj σ7 B7 F7 O7.1
end
end Go.Proofs.YtbdlkofldmhoaaaGreatDoor

namespace Go.Wk
open Go Go.HL
theorem kind_nn {k:Int} {d:ByteArray} (h:kindOkE k d=true):0<=k:=by
 have:k=1\/k=2\/k=3:=by
  apply Classical.byContradiction
  intro hc
  unfold kindOkE at h
  rw[lk_none_iff.2 (by
   show k∉[(1:Int),2,3]
   simp only[List.mem_cons,List.not_mem_nil,or_false]
   exact hc)]at h
  cases h
 omega
theorem stat_like {A:AT} (hI:Inv A) (cwd p:ByteArray) (fo:Bool):0<=(A.stat cwd p fo).2.kind/\0<=(A.stat cwd p fo).2.mode/\(A.stat cwd p fo).2.mode<=511/\(A.stat cwd p fo).2.data.size<=1073741824:=by
 refine⟨?_,?_,?_,with_data hI cwd p fo⟩
 all_goals
  unfold AT.stat AT.with_
  simp only
  split
  ·first
    | exact Int.le_refl 0
    | exact(by decide:(0:Int)<=511)
  split
  ·first
    | exact Int.le_refl 0
    | exact(by decide:(0:Int)<=511)
  split
  ·first
    | exact Int.le_refl 0
    | exact(by decide:(0:Int)<=511)
  ·rename_i n hg
   have h:=hI.like _ n hg
   unfold likeE at h
   split at h
   ·rename_i hc
    rw[Bool.and_eq_true,Bool.and_eq_true,decide_eq_true_eq,decide_eq_true_eq]at hc
    first
     | exact hc.2.1
     | exact hc.2.2
     | exact kind_nn hc.1
   ·cases h
def trStep (A:AT) (modes:Bool) (k:Nat) (path:ByteArray) (s n:ByteArray):ByteArray:=partT s n (A.treeP modes k (sub path n))
theorem tree_succ (A:AT) (modes:Bool) (k:Nat) (path:ByteArray):A.treeP modes (k+1) path =
 if !((A.stat ⟨⟨[47]⟩⟩ path false).1==0)then askT
 else if !((A.stat ⟨⟨[47]⟩⟩ path false).2.kind==2)then headT modes (A.stat ⟨⟨[47]⟩⟩ path false).2.kind (A.stat ⟨⟨[47]⟩⟩ path false).2.mode (A.stat ⟨⟨[47]⟩⟩ path false).2.data
 else(A.listF ⟨⟨[47]⟩⟩ path).2.foldl (trStep A modes k path) (headT modes (A.stat ⟨⟨[47]⟩⟩ path false).2.kind (A.stat ⟨⟨[47]⟩⟩ path false).2.mode (A.stat ⟨⟨[47]⟩⟩ path false).2.data):=rfl
theorem part_size (s n t:ByteArray):(partT s n t).size=s.size+n.size+t.size+2:=by
 unfold partT
 simp only[ByteArray.size_append]
 have h1:(⟨⟨[40]⟩⟩:ByteArray).size=1:=rfl
 have h2:(⟨⟨[41]⟩⟩:ByteArray).size=1:=rfl
 omega
theorem trs_size (A:AT) (modes:Bool) (k:Nat) (path:ByteArray) : ∀ (l:List ByteArray) (s:ByteArray),s.size<=(l.foldl (trStep A modes k path) s).size:=by
 intro l
 induction l with
 | nil=>intro s;exact Nat.le_refl _
 | cons n r ih =>
  intro s
  rw[List.foldl_cons]
  refine Nat.le_trans ?_ (ih _)
  unfold trStep
  rw[part_size];omega
theorem part_assoc (s n t:ByteArray):(((s++⟨⟨[40]⟩⟩)++n)++t)++⟨⟨[41]⟩⟩=partT s n t:=by
 unfold partT
 simp only[ByteArray.append_assoc]
theorem u8_ma {m:Int} (h:0<=m/\m<=511):IntKind.u8.wrap (Int.tmod (IntKind.i64.wrap (Int.tdiv m 8)) 64)=(((m / 8 % 64).toNat.toUInt8.toNat:Nat):Int):=by
 rw[Int.tdiv_eq_ediv_of_nonneg h.1,show IntKind.i64.wrap (m / 8)=m / 8 from by rw[IntKind.wrap_i64];omega,Int.tmod_eq_emod_of_nonneg (by omega),IntKind.wrap_u8]
 show _=(((m / 8 % 64).toNat % 256:Nat):Int)
 omega
theorem u8_mb {m:Int} (h:0<=m/\m<=511):IntKind.u8.wrap (Int.tmod m 8)=(((m % 8).toNat.toUInt8.toNat:Nat):Int):=by
 rw[Int.tmod_eq_emod_of_nonneg h.1,IntKind.wrap_u8]
 show _=(((m % 8).toNat % 256:Nat):Int)
 omega
end Go.Wk

set_option maxRecDepth 100000
namespace Go.Proofs.YtbdlkofldmhoaaaGreatDoor
open Go Go.HL Go.Wk
attribute [local irreducible] ptrW ifW brW andW rdT alW letJ stW muW biW vaW imW callT cvalT app callW invW callVW sizeT oW nilF oneK loopW rfW funW begW roundK exW idxW Gr Put
theorem s_tree19 {A:AT} {N:Nat} {bf:Nat} (hI:Inv A) (hBd:Bd N A) (hN:N<=1000000000000) (modes:Bool) : ∀ (k:Nat) (path:ByteArray) (σ:H) (B:Nat->Prop) (K:KH),FsAt σ bf A B->k<=1000->path.size+k * 60<=1000000->(A.treeP modes k path).size<=1000000000000->K (.string (A.treeP modes k path)) σ ->
 callW Tryz.prog 22 [.pointer (some ⟨bf,0,none⟩),.string path,.bool modes,.int .i64 (k:Int)] K σ:=by
 intro k
 induction k with
 | zero =>
  intro path σ B K hF _ _ _ hK
  refine pure_i _ hK (c22 _ _ _ _ ?_)
  clear hK
  unfold g22
  refine call_i (s_Stat hF _ _ _ ?_)
  unfold inV
  (refine app_of rfl ?_;try dsimp only)
  refine al_i ?_;intro b10 σ1 g1 e1 n1
  refine st_i2 e1 sz_InoF (by rfl) (by rfl) ?_;intro σ2 p2
  have g2:Gr σ σ2:=g1.putF p2 n1
  refine j_i (fun j=>j (some ⟨bf,0,none⟩) path modes 0 (some ⟨b10,0,none⟩) true σ2) (br_t rfl ⟨rfl,g2⟩) ?_
  intro j hj
  exact br_i (fun _=>hj) (fun _=>hj)
 | succ k ih =>
  intro path σ B K hF hk hp hz hK
  refine pure_i _ hK (c22 _ _ _ _ ?_)
  clear hK
  unfold g22
  rw[tree_succ]at hz ⊢
  refine call_i (s_Stat hF _ _ _ ?_)
  have hl:=stat_like hI ⟨⟨[47]⟩⟩ path false
  generalize A.stat ⟨⟨[47]⟩⟩ path false=r at hl hz ⊢
  obtain⟨e,nd⟩:=r
  simp only at hl hz ⊢
  obtain⟨l1,l2,l3,l4⟩:=hl
  unfold inV
  (refine app_of rfl ?_;try dsimp only)
  refine al_i ?_;intro b10 σ1 g1 e1 n1
  refine st_i2 e1 sz_InoF (by rfl) (by rfl) ?_;intro σ2 p2
  have g2:Gr σ σ2:=g1.putF p2 n1
  have k10:=p2.same
  clear p2 e1 g1 n1
  have hd0:((((k+1:Nat):Int):Int)==0)=false:=by simp only[beq_eq_false_iff_ne,ne_eq];omega
  refine j_i (fun j => ∀b:Bool,b = !(e==0)->j (some ⟨bf,0,none⟩) path modes ((k+1:Nat):Int) (some ⟨b10,0,none⟩) b σ2) ?_ ?_
  case refine_2 =>
   intro j hj
   cases h0:e==0 with
   | true=>refine br_f (by rw[bne,h0];rfl) ?_;rw[hd0];exact hj _ (by rw[h0];rfl)
   | false=>exact br_t (by rw[bne,h0];rfl) (hj _ (by rw[h0];rfl))
  intro b hb
  rw[<-hb]at hz ⊢
  cases b with
  | true =>
   rw[if_pos rfl]
   exact br_t rfl ⟨rfl,g2⟩
  | false =>
  simp only[Bool.false_eq_true,if_false]at hz ⊢
  refine br_f rfl (ptr_i (rd_I (rdC_of k10 (by rfl)) ?_))
  rw[u8_st l1]
  refine al_i ?_;intro b21 σ3 g3 e3 n3
  refine bstr_i und_bytesF und_u8F und_string (l:=[(48+nd.kind.toNat).toUInt8]) (x:=⟨some ⟨b21,0,none⟩,1,1⟩) ⟨rfl,.inr ⟨b21,0,_,_,_,rfl,e3,fun i r hr => ?_⟩⟩ ?_
  ·match i,hr with
   | 0,hr=>cases hr;exact⟨rfl,rfl⟩
   | i+1,hr=>simp[brows]at hr
  have k3:=g3.get k10
  have G3:=g2.trans g3
  refine ptr_i (rd_S (rdC_of k3 (by rfl)) (if_i (by show 1+_<=_;omega) (if_i (by rw[ByteArray.size_append];show 1+_+1<=_;omega) ?_)))
  have hhd : ∀b:Bool,b=(modes&&nd.kind==1)->headT modes nd.kind nd.mode nd.data=if b then((⟨⟨[(48+nd.kind.toNat).toUInt8]⟩⟩++nd.data)++⟨⟨[59]⟩⟩)++⟨⟨[(nd.mode / 8 % 64).toNat.toUInt8,(nd.mode % 8).toNat.toUInt8]⟩⟩else(⟨⟨[(48+nd.kind.toNat).toUInt8]⟩⟩++nd.data)++⟨⟨[59]⟩⟩:=fun b hb=>by rw[hb];rfl
  have hhz:(headT modes nd.kind nd.mode nd.data).size<=nd.data.size+10:=by
   rw[hhd _ rfl]
   split
   ·simp only[ByteArray.size_append];show 1+_+1+2<=_;omega
   ·simp only[ByteArray.size_append];show 1+_+1<=_;omega
  generalize hs0:((⟨⟨[(48+nd.kind.toNat).toUInt8]⟩⟩++nd.data)++⟨⟨[59]⟩⟩:ByteArray)=s0 at hhd ⊢
  have hs0z:s0.size=nd.data.size+2:=by rw[<-hs0,ByteArray.size_append,ByteArray.size_append];show 1+_+1=_;omega
  generalize headT modes nd.kind nd.mode nd.data=hd at hhd hhz hz ⊢
  refine j_i (fun j => ∀σ',Gr σ3 σ'->j (some ⟨bf,0,none⟩) path modes ((k+1:Nat):Int) (some ⟨b10,0,none⟩) hd σ') ?_ ?_
  ·intro σ4 g4
   have G4:=G3.trans g4
   refine ptr_i (rd_I (rdC_of (g4.get k3) (by rfl)) ?_)
   cases hk2:nd.kind==2 with
   | false =>
    refine br_t (by rw[bne,hk2];rfl) ⟨rfl,G4⟩
   | true =>
    rw[hk2]at hz
    simp only[Bool.not_true,Bool.false_eq_true,if_false]at hz ⊢
    refine br_f (by rw[bne,hk2];rfl) ?_
    refine call_i (s_ListR hI hBd hN (hF.gr G4) _ _ ?_)
    intro x σ5 hx
    have hnames : ∀n∈(A.listF ⟨⟨[47]⟩⟩ path).2,nameOk n/\stepOk n:=fun n hn=>listF_name hI hn
    have hll:=listF_len (cwd:=⟨⟨[47]⟩⟩) (path:=path) hBd
    generalize A.listF ⟨⟨[47]⟩⟩ path=L at hx hz hnames hll ⊢
    obtain⟨le,names⟩:=L
    simp only at hx hz hnames hll ⊢
    (refine app_of rfl ?_;try dsimp only)
    have hr:=hx.at
    have hxl:=sLen hr
    refine loop_i ?_
    intro R hR
    have key : ∀ (c i:Nat) (s:ByteArray) (τ:H),c+i=names.length->Gr σ5 τ->(names.drop i).foldl (trStep A modes k path) s=names.foldl (trStep A modes k path) hd->R (some ⟨bf,0,none⟩) path modes ((k+1:Nat):Int) s x (i:Int) τ:=by
     intro c
     induction c with
     | zero =>
      intro i s τ hc gτ hfo
      rw[List.drop_eq_nil_of_le (by omega)]at hfo
      have hfo:s=names.foldl (trStep A modes k path) hd:=hfo
      refine hR _ _ _ _ _ _ _ _ (br_f (by simp only[decide_eq_false_iff_not];omega) ?_)
      exact⟨by rw[hfo],(G4.trans hx.1).trans gτ⟩
     | succ c ihc =>
      intro i s τ hc gτ hfo
      obtain⟨n,hn⟩ : ∃n,names[i]? = some n:=⟨_,List.getElem?_eq_getElem (by omega)⟩
      obtain⟨g,o,a1,a2,a3⟩:=sRow (hr.gr gτ) hn
      have hns:=(hnames n (List.mem_of_getElem? hn)).2.2
      rw[drop_of hn,List.foldl_cons]at hfo
      have hsz:=trs_size A modes k path (names.drop (i+1)) (trStep A modes k path s n)
      rw[hfo]at hsz
      have hps:(trStep A modes k path s n).size=s.size+n.size+(A.treeP modes k (sub path n)).size+2:=part_size _ _ _
      have h40:(⟨⟨[40]⟩⟩:ByteArray).size=1:=rfl
      have h41:(⟨⟨[41]⟩⟩:ByteArray).size=1:=rfl
      have h47:(⟨⟨[47]⟩⟩:ByteArray).size=1:=rfl
      refine hR _ _ _ _ _ _ _ _ (br_t (by simp only[decide_eq_true_eq];omega) (if_i (by omega) ?_))
      rw[a1]
      have a3':rdC g (o+((i:Int)).toNat * 1) τ=some (.string n):=by rw[Int.toNat_natCast];exact a3
      refine ptr_i (if_i ⟨by omega,by omega⟩ (rd_S a3' ?_))
      refine if_i (by rw[ByteArray.size_append];omega) (if_i (by omega) (ptr_i (if_i ⟨by omega,by omega⟩ (rd_S a3' ?_))))
      refine if_i (by rw[ByteArray.size_append];omega) ?_
      rw[wrap_id (x:=(((k+1:Nat):Int) - 1)) (by omega) (by omega),show(((k+1:Nat):Int) - 1)=(k:Int)from by omega]
      refine call_i (ih _ τ B _ ((hF.gr (G4.trans hx.1)).gr gτ) (by omega) (by simp only[ByteArray.size_append];omega) (by rw[show(path++⟨⟨[47]⟩⟩)++n=sub path n from rfl];omega) ?_)
      rw[show(path++⟨⟨[47]⟩⟩)++n=sub path n from rfl]
      refine app_S (and_i a3' (if_i (by simp only[ByteArray.size_append];omega) (if_i (by simp only[ByteArray.size_append];omega) ?_)))
      rw[part_assoc,wrap_id (x:=(i:Int)+1) (by omega) (by omega),show(i:Int)+1=((i+1:Nat):Int)from by omega]
      exact ihc (i+1) _ τ (by omega) gτ hfo
    exact key names.length 0 hd σ5 (by omega) (Gr.refl _) rfl
  ·intro j26 h26
   refine j_i (fun j => ∀b:Bool,b=(modes&&nd.kind==1)->j (some ⟨bf,0,none⟩) path modes ((k+1:Nat):Int) (some ⟨b10,0,none⟩) s0 b σ3) ?_ ?_
   ·intro b hb
    have hhd:=hhd b hb
    cases b with
    | false =>
     rw[if_neg (by simp)]at hhd
     rw[hhd]at h26
     exact br_f rfl (h26 σ3 (Gr.refl _))
    | true =>
     rw[if_pos rfl]at hhd
     refine br_t rfl (ptr_i (rd_I (rdC_of k3 (by rfl)) (if_i (by decide) (if_i (by decide) (ptr_i (rd_I (rdC_of k3 (by rfl)) (if_i (by decide) ?_)))))))
     rw[u8_ma ⟨l2,l3⟩,u8_mb ⟨l2,l3⟩]
     refine al_i ?_;intro b68 σ4 g4 e4 n4
     refine bstr_i und_bytesF und_u8F und_string (l:=[(nd.mode / 8 % 64).toNat.toUInt8,(nd.mode % 8).toNat.toUInt8]) (x:=⟨some ⟨b68,0,none⟩,2,2⟩) ⟨rfl,.inr ⟨b68,0,_,_,_,rfl,e4,fun i r hr => ?_⟩⟩ ?_
     ·match i,hr with
      | 0,hr=>cases hr;exact⟨rfl,rfl⟩
      | 1,hr=>cases hr;exact⟨rfl,rfl⟩
      | i+2,hr=>simp[brows]at hr
     ·refine if_i (by show _+2<=_;omega) ?_
      rw[hhd]at h26
      exact h26 σ4 g4
   ·intro j54 h54
    cases hm:modes with
    | false=>rw[hm]at h54;exact br_f rfl (h54 false rfl)
    | true =>
     rw[hm]at h54
     exact br_t rfl (ptr_i (rd_I (rdC_of k3 (by rfl)) (h54 _ rfl)))
end Go.Proofs.YtbdlkofldmhoaaaGreatDoor

set_option maxRecDepth 100000
namespace Go.Wk
open Go Go.HL
theorem failT_size (nm n:ByteArray) {e:Int} (he:0<=e/\e<=20):(failT nm n e).size<=nm.size+n.size+200:=by
 unfold failT
 simp only[ByteArray.size_append]
 have:=fmt_er (e:=e) he
 have h1:(⟨⟨[58,32]⟩⟩:ByteArray).size=2:=rfl
 have h2:(⟨⟨[10]⟩⟩:ByteArray).size=1:=rfl
 omega
end Go.Wk
namespace Go.Wk
open Go Go.HL
end Go.Wk

set_option maxRecDepth 100000
namespace Go.Proofs.YtbdlkofldmhoaaaGreatDoor
open Go Go.HL Go.Wk
attribute [local irreducible] ptrW ifW brW andW rdT alW letJ stW muW biW vaW imW callT cvalT app callW invW callVW sizeT oW nilF oneK loopW rfW funW begW roundK exW idxW Gr Put
theorem arg1 {τ:H} {b:Nat} {a:ByteArray} (h:a.size<=1000):ArgOk (τ.put b (.cells ⟨[.string a]⟩ 9 (0,0))) [a] ⟨some ⟨b,0,none⟩,1,1⟩ :=
 ⟨strF1 (H.put_same _ _ _),Nat.le_refl _,fun x hx=>by rw[List.mem_singleton.1 hx];exact h,(by decide:(1:Nat)<=1000)⟩
theorem arg2 {τ:H} {b:Nat} {a c:ByteArray} (h:a.size<=1000) (h2:c.size<=1000):ArgOk (τ.put b (.cells ⟨[.string a,.string c]⟩ 9 (0,0))) [a,c] ⟨some ⟨b,0,none⟩,2,2⟩ :=
 ⟨strF2 (H.put_same _ _ _),Nat.le_refl _,fun x hx=>by
  rcases List.mem_cons.1 hx with e | e
  ·rw[e];exact h
  ·rw[List.mem_singleton.1 e];exact h2,(by decide:(2:Nat)<=1000)⟩
theorem zT1:Wk.zeroT.size<=1000000000000:=by decide
theorem strSame (a:ByteArray):(!strEq a a)=false:=by rw[strEq_iff.2 rfl];rfl
end Go.Proofs.YtbdlkofldmhoaaaGreatDoor

set_option maxRecDepth 100000
namespace Go.Proofs.YtbdlkofldmhoaaaGreatDoor
open Go Go.HL Go.Wk
abbrev T3:Type:=Int×Int×Int
def t3V (t:T3):List Value:=[.int .u8 t.1,.int .u8 t.2.1,.int .u8 t.2.2]
def t3N (t:T3):Nat×Nat×Nat:=(t.1.toNat,t.2.1.toNat,t.2.2.toNat)
def t3ok (t:T3):Prop:=(0<=t.1/\t.1<=255)/\(0<=t.2.1/\t.2.1<=255)/\(0<=t.2.2/\t.2.2<=255)
theorem t3row {σ:H} {ts:List T3} {x:Sl} (h:RowsAt σ 3 (ts.map t3V) x) {i:Nat} {t:T3} (hi:ts[i]? = some t) : ∃g o,x.base=some ⟨g,o,none⟩/\rdC g (o+i * 3+0) σ=some (.int .u8 t.1)/\rdC g (o+i * 3+1) σ=some (.int .u8 t.2.1)/\rdC g (o+i * 3+2) σ=some (.int .u8 t.2.2):=by
 obtain⟨g,o,h1,h2,h3⟩:=h.rdA (i:=i) (r:=t3V t) (by rw[List.getElem?_map,hi];rfl) (by decide)
 exact⟨g,o,h1,h3 0 _ rfl,h3 1 _ rfl,h3 2 _ rfl⟩
theorem chB_u8 {n:Int} (h:0<=n/\n<=255):IntKind.u8.wrap (97+Int.tmod n 6)=((chB n.toNat).toNat:Int):=by
 obtain⟨m,rfl⟩ : ∃m:Nat,n=m:=⟨n.toNat,by omega⟩
 rw[Int.tmod_eq_emod_of_nonneg (by omega),IntKind.wrap_u8,Int.toNat_natCast]
 show _=((((97+m % 6)) % 256:Nat):Int)
 omega
theorem tx_u8 {n:Int} (h:0<=n/\n<=255):IntKind.u8.wrap (48+Int.tmod n 10)=(((48+n.toNat % 10).toUInt8.toNat:Nat):Int):=by
 obtain⟨m,rfl⟩ : ∃m:Nat,n=m:=⟨n.toNat,by omega⟩
 rw[Int.tmod_eq_emod_of_nonneg (by omega),IntKind.wrap_u8,Int.toNat_natCast]
 show _=((((48+m % 10)) % 256:Nat):Int)
 omega
theorem by_u8 {n:Int} (h:0<=n/\n<=255):n=((n.toNat.toUInt8.toNat:Nat):Int):=by
 obtain⟨m,rfl⟩ : ∃m:Nat,n=m:=⟨n.toNat,by omega⟩
 rw[Int.toNat_natCast]
 show _=((m % 256:Nat):Int)
 omega
theorem mod_u8 {n:Int} (h:0<=n/\n<=255) {k:Nat} (hk:0<k) (hk2:k<=1000000):Int.tmod (IntKind.i64.wrap n) ((k:Nat):Int)=((n.toNat % k:Nat):Int):=by
 obtain⟨m,rfl⟩ : ∃m:Nat,n=m:=⟨n.toNat,by omega⟩
 rw[wrap_id (by omega) (by omega),Int.tmod_eq_emod_of_nonneg (by omega),Int.toNat_natCast]
 omega
theorem mode_u8 {n:Int} (h:0<=n/\n<=255):IntKind.i64.wrap (IntKind.i64.wrap (IntKind.i64.wrap n * 2)+1)=((2 * n.toNat+1:Nat):Int):=by
 rw[wrap_id (x:=n) (by omega) (by omega),wrap_id (x:=n * 2) (by omega) (by omega),wrap_id (by omega) (by omega)]
 omega
attribute [local irreducible] ptrW ifW brW andW rdT alW letJ stW muW biW vaW imW callT cvalT app callW invW callVW sizeT oW nilF oneK loopW rfW funW begW roundK exW idxW Gr Put
theorem push1 {σ0 τ:H} {bf:Nat} {A:AT} {B:Nat->Prop} {d:Sl} {dirs:List ByteArray} (own:RowsOwn τ 9 1 (strRows dirs) d) (nb:∀g,d.base=some ⟨g,0,none⟩->σ0 g=none /\ ¬B g) (hF:FsAt τ bf A B) (hO:Off σ0 τ B) (n:ByteArray) (hl:dirs.length<1000000000) {F:Sl->H->Prop}
 (hG:∀y τ',RowsOwn τ' 9 1 (strRows (dirs++[n])) y->(∀g,y.base=some ⟨g,0,none⟩->σ0 g=none /\ ¬B g)->FsAt τ' bf A B->Off σ0 τ' B->F y τ') :
 alW (.cells ⟨[.string n]⟩ 9 (0,0)) (fun b=>biW Tryz.prog .append #[30,30] 30 [false,false] [.slice d.base d.len d.cap,.slice (some ⟨b,0,none⟩) 1 1] (.one (.sc .slc)) F) τ:=by
 refine al_i ?_;intro b σ1 g1 e1 n1
 obtain⟨h1,h0,i,z,i1,i2,i3,i4,i5⟩:=el_strsF
 refine append_i h1 i1 i2 i3 rfl i5 h0 (own.gr g1) e1 rfl (fun u hu=>by rw[List.mem_singleton.1 hu];rfl) (by rw[strRows_len];exact hl) (Nat.le_trans i4 (by decide)) ?_
 intro x σ2 hx hc
 have e:strRows (dirs++[n])=strRows dirs++[[.string n]]:=by unfold strRows;rw[List.map_append];rfl
 rcases hc with⟨g,o,c1,c2,c3⟩ | ⟨g,c1,c2,c3⟩
 ·obtain⟨q1,q2⟩:=nb g c1
  exact hG x σ2 (by rw[e];exact hx) (fun g' hg=>nb g' (by rw[<-c2];exact hg)) ((hF.gr g1).put c3 q2) ((hO.gr g1).put c3 q1)
 ·refine hG x σ2 (by rw[e];exact hx) (fun g' hg => ?_) ((hF.gr g1).gr c3) ((hO.gr g1).gr c3)
  rw[c1]at hg
  injection hg with hg
  injection hg with hg
  subst hg
  exact⟨none_of (hO.1.trans g1) c2,(hF.gr g1).fresh c2⟩
theorem g0_ok:((newT 300 5000).mkdirF ⟨⟨[47]⟩⟩ ⟨⟨[116]⟩⟩).1=0:=by decide +kernel
theorem s_grown19 {σ:H} (x:Sl) (ts:List T3) (hx:RowsAt σ 3 (ts.map t3V) x) (hr:∀t∈ts,t3ok t) {K:KH} (hK:∀bf σ' B',FsAt σ' bf (grownP (ts.map t3N)).1 B'->Off σ σ' B'->K (.pointer (some ⟨bf,0,none⟩)) σ') :
 callW Tryz.prog 21 [.slice x.base x.len x.cap] K σ:=by
 refine c21 _ ?_
 unfold g21
 have hxl:x.len=ts.length:=by have:=hx.1;simpa using this
 obtain⟨i0,d0⟩:=newT_ok (qi:=300) (qb:=5000) (by decide)
 refine call_i (s_New 300 5000 (fun h=>by cases h) ?_)
 intro _ bf σ1 B1 F1 g1 hf1
 have O1:=Off.new g1 hf1
 refine app_P ?_
 have o1:=mkdirF_ok i0 d0 (by decide) ⟨⟨[47]⟩⟩ ⟨⟨[116]⟩⟩
 refine j_i (fun j => ∀σ2 B2,FsAt σ2 bf grown0.1 B2->Off σ σ2 B2->j x (some ⟨bf,0,none⟩) false σ2) ?_ ?_
 case refine_2 =>
  intro j hj
  refine br_f rfl (call_i (s_Mkdir i0 d0 (by decide) F1 _ _ ?_))
  intro σ2 B2 F2 S2
  rw[g0_ok]
  exact app_I (hj σ2 B2 F2 (O1.sep S2))
 intro σ2 B2 F2 O2
 refine br_f rfl (al_i ?_);intro b7 σ3 g3 e3 n3
 refine loop_i ?_
 intro R hR
 have key : ∀ (c i:Nat) (s:AT×List ByteArray) (d:Sl) (τ:H) (B:Nat->Prop),c+i=min 20 ts.length->(Inv s.1/\Bd (2+i) s.1)->s.2≠[]->s.2.length<=1+i->(∀p∈s.2,p.size<=2+2 * i)->(((ts.take 20).drop i).map t3N).foldl growS s=grownP (ts.map t3N) ->
  FsAt τ bf s.1 B->Off σ τ B->RowsOwn τ 9 1 (strRows s.2) d->(∀g,d.base=some ⟨g,0,none⟩->σ g=none /\ ¬B g)->R x (some ⟨bf,0,none⟩) d (i:Int) τ:=by
  intro c
  induction c with
  | zero =>
   intro i s d τ B hc hI hne hdl hpz hfo hF hO own nb
   rw[List.drop_eq_nil_of_le (by rw[List.length_take];omega)]at hfo
   have hfo:s=grownP (ts.map t3N):=hfo
   subst hfo
   refine hR _ _ _ _ _ (j_i (fun j=>j x (some ⟨bf,0,none⟩) d (i:Int) false τ) (br_f rfl (hK bf τ B hF hO)) ?_)
   intro j hj
   by_cases h:((i:Nat):Int)<((x.len:Nat):Int)
   ·refine br_t (decide_eq_true h) ?_
    rw[show decide (((i:Nat):Int)<20)=false from by rw[decide_eq_false_iff_not];omega]
    exact hj
   ·exact br_f (decide_eq_false h) hj
  | succ c ih =>
   intro i s d τ B hc hI hne hdl hpz hfo hF hO own nb
   have hi:i<ts.length:=by omega
   obtain⟨t,ht⟩ : ∃t,ts[i]? = some t:=⟨_,List.getElem?_eq_getElem hi⟩
   have ht20:(ts.take 20)[i]? = some t:=by rw[List.getElem?_take_of_lt (by omega)];exact ht
   rw[drop_of ht20,List.map_cons,List.foldl_cons]at hfo
   obtain⟨k1,k2,k3⟩:=hr t (List.mem_of_getElem? ht)
   obtain⟨g,o,a0,a1,a2,a3⟩:=t3row (hx.gr hO.1) ht
   have hdp:0<s.2.length:=List.length_pos_iff.2 hne
   have hdl2:d.len=s.2.length:=sLen own.rows
   refine hR _ _ _ _ _ (j_i (fun j=>j x (some ⟨bf,0,none⟩) d (i:Int) true τ) ?_ ?_)
   case refine_2 =>
    intro j hj
    refine br_t (by rw[decide_eq_true_eq];omega) ?_
    rw[show decide (((i:Nat):Int)<20)=true from by rw[decide_eq_true_eq];omega]
    exact hj
   refine br_t rfl (j_i (fun j => ∀s' d' τ' B',(Inv s'.1/\Bd (2+(i+1)) s'.1)->s'.2≠[]->s'.2.length<=1+(i+1)->(∀p∈s'.2,p.size<=2+2 * (i+1))->growS s (t3N t)=s'->FsAt τ' bf s'.1 B'->Off σ τ' B'->RowsOwn τ' 9 1 (strRows s'.2) d'->(∀g,d'.base=some ⟨g,0,none⟩->σ g=none /\ ¬B' g)->j x (some ⟨bf,0,none⟩) d' (i:Int) τ') ?_ ?_)
   ·intro s' d' τ' B' q1 q2 q3 q4 q5 q6 q7 q8 q9
    rw[q5]at hfo
    rw[wrapS (i:=i) (by omega)]
    exact ih (i+1) s' d' τ' B' (by omega) q1 q2 q3 q4 hfo q6 q7 q8 q9
   ·intro j19 h19
    rw[a0]
    have hlt:t.1.toNat % s.2.length<s.2.length:=Nat.mod_lt _ hdp
    obtain⟨dp,hdp2⟩ : ∃dp,s.2[t.1.toNat % s.2.length]? = some dp:=⟨_,List.getElem?_eq_getElem hlt⟩
    have hpick:pickD s.2 t.1.toNat=dp:=by unfold pickD;rw[hdp2];rfl
    have hdz:=hpz dp (List.mem_of_getElem? hdp2)
    obtain⟨g',o',b0,b1,b2⟩:=sRow own.rows hdp2
    refine ptr_i (if_i ⟨by omega,by omega⟩ (if_i (by decide) (rd_I a1 (if_i (by omega) ?_))))
    rw[hdl2,mod_u8 k1 hdp (by omega),b0]
    refine ptr_i (if_i ⟨by omega,by omega⟩ (rd_S (by rw[Int.toNat_natCast];exact b2) (if_i (by show _+1<=_;omega) ?_)))
    refine ptr_i (if_i ⟨by omega,by omega⟩ (if_i (by decide) (rd_I a2 (if_i (by decide) ?_))))
    rw[chB_u8 k2]
    refine al_i ?_;intro b33 τ1 g4 e4 n4
    refine bstr_i und_bytesF und_u8F und_string (l:=[chB t.2.1.toNat]) (x:=⟨some ⟨b33,0,none⟩,1,1⟩) ⟨rfl,.inr ⟨b33,0,_,_,_,rfl,e4,fun i r hr => ?_⟩⟩ ?_
    ·match i,hr with
     | 0,hr=>cases hr;exact⟨rfl,rfl⟩
     | i+1,hr=>simp[brows]at hr
    have hF4:=hF.gr g4
    have hO4:=hO.gr g4
    have own4:=own.gr g4
    refine and_i (rdC_gr g4 (by rw[Int.toNat_natCast];exact b2)) (and_i (rdC_gr g4 a1) (if_i (by rw[ByteArray.size_append];show _+1+1<=_;omega) ?_))
    refine ptr_i (if_i ⟨by omega,by omega⟩ (if_i (by decide) (rd_I (rdC_gr g4 a3) (if_i (by decide) ?_))))
    have hm4:Int.tmod t.2.2 4=((t.2.2.toNat % 4:Nat):Int):=by
     have:=mod_u8 k3 (k:=4) (by decide) (by decide)
     rwa [wrap_id (by omega) (by omega)]at this
    rw[hm4]
    have hgs:growS s (t3N t)=(let p:=sub dp (n1 (chB t.2.1.toNat))
     if t.2.2.toNat % 4<2 then(let r:=s.1.mkdirF rt p;(r.2,if r.1==0 then s.2++[p]else s.2))
     else if t.2.2.toNat % 4=2 then((s.1.symlinkF rt upX p).2,s.2)
     else if(s.1.stat rt p false).1==5 then(((s.1.writeF rt p (txG t.1.toNat t.2.1.toNat) false).2.chmodF rt p (2 * t.2.2.toNat+1:Nat)).2,s.2)
     else s):=by rw[<-hpick];rfl
    rw[hgs]at h19
    clear hgs
    rw[show(dp++⟨⟨[47]⟩⟩)++⟨⟨[chB t.2.1.toNat]⟩⟩=sub dp (n1 (chB t.2.1.toNat))from rfl]
    have hpsz:(sub dp (n1 (chB t.2.1.toNat))).size<=2+2 * (i+1):=by
     unfold sub n1
     simp only[ByteArray.size_append]
     show _+1+1<=_;omega
    generalize sub dp (n1 (chB t.2.1.toNat))=p at h19 hpsz ⊢
    simp only at h19
    have hI0:Inv s.1/\Bd (2+(i+1)) s.1:=⟨hI.1,hI.2.mono (by omega)⟩
    have hpz2 : ∀q∈s.2,q.size<=2+2 * (i+1):=fun q hq=>Nat.le_trans (hpz q hq) (by omega)
    generalize hc4:t.2.2.toNat % 4=c4 at h19 ⊢
    have hc4b:c4<4:=by rw[<-hc4];exact Nat.mod_lt _ (by decide)
    refine j_i (fun j => ∀b:Bool,b=decide (c4<2)->j x (some ⟨bf,0,none⟩) d (i:Int) p (c4:Int) b τ1) ?_ ?_
    case refine_2 =>
     intro j hj
     by_cases h0:c4=0
     ·subst h0;exact br_t rfl (hj _ rfl)
     ·refine br_f (by simp only[beq_eq_false_iff_ne,ne_eq];omega) (hj _ ?_)
      rw[Bool.eq_iff_iff];simp only[beq_iff_eq,decide_eq_true_eq];omega
    intro b hb
    cases b with
    | true =>
     have hlt2:c4<2:=by simpa using hb.symm
     rw[if_pos hlt2]at h19
     have om:=mkdirF_ok hI.1 hI.2 (by omega) rt p
     refine br_t rfl (call_i (s_Mkdir hI.1 hI.2 (by omega) hF4 _ _ ?_))
     rw[show(⟨⟨[47]⟩⟩:ByteArray)=rt from rfl]
     intro τ2 B2 F2 S2
     have O2':=hO4.sep S2
     have own2:RowsOwn τ2 9 1 (strRows s.2) d:=own4.keep fun g o hg ho=>(S2 g o ho (nb g hg).2).1
     have nb2 : ∀g,d.base=some ⟨g,0,none⟩->σ g=none /\ ¬B2 g:=fun g hg=>by
      refine⟨(nb g hg).1,?_⟩
      cases ho:τ1 g with
      | none=>exact absurd ho (own4.has hg)
      | some o=>exact(S2 g o ho (nb g hg).2).2
     refine app_I ?_
     cases hz:(s.1.mkdirF rt p).1==0 with
     | false =>
      rw[hz]at h19
      refine br_f rfl ?_
      exact h19 ((s.1.mkdirF rt p).2,s.2) d τ2 B2 ⟨om.inv,om.bd.mono (by omega)⟩ hne (by show s.2.length<=_;omega) hpz2 rfl F2 O2' own2 nb2
     | true =>
      rw[hz]at h19
      refine br_t rfl (push1 own2 nb2 F2 O2' p (by omega) ?_)
      intro y τ3 own3 nb3 F3 O3
      refine h19 ((s.1.mkdirF rt p).2,s.2++[p]) y τ3 B2 ⟨om.inv,om.bd.mono (by omega)⟩ (by simp) (by show(s.2++[p]).length<=_;rw[List.length_append,List.length_singleton];omega) ?_ rfl F3 O3 own3 nb3
      intro q hq
      rcases List.mem_append.1 hq with h | h
      ·exact hpz2 q h
      ·rw[List.mem_singleton.1 h];exact hpsz
    | false =>
     have hge : ¬c4<2:=by simpa using hb.symm
     rw[if_neg hge]at h19
     refine br_f rfl ?_
     by_cases h2:c4=2
     ·subst h2
      rw[if_pos rfl]at h19
      have om:=symlinkF_ok hI.1 hI.2 (by omega) rt upX p
      refine br_t rfl (call_i (s_Symlink hI.1 hI.2 (by omega) hF4 _ _ _ ?_))
      rw[show(⟨⟨[47]⟩⟩:ByteArray)=rt from rfl,show(⟨⟨[46,46,47,120]⟩⟩:ByteArray)=upX from rfl]
      intro τ2 B2 F2 S2
      have own2:RowsOwn τ2 9 1 (strRows s.2) d:=own4.keep fun g o hg ho=>(S2 g o ho (nb g hg).2).1
      refine app_I (h19 ((s.1.symlinkF rt upX p).2,s.2) d τ2 B2 ⟨om.inv,om.bd.mono (by omega)⟩ hne (by show s.2.length<=_;omega) hpz2 rfl F2 (hO4.sep S2) own2 fun g hg=>⟨(nb g hg).1,?_⟩)
      cases ho:τ1 g with
      | none=>exact absurd ho (own4.has hg)
      | some o=>exact(S2 g o ho (nb g hg).2).2
     ·rw[if_neg h2]at h19
      refine br_f (by simp only[beq_eq_false_iff_ne,ne_eq];omega) (call_i (s_Stat hF4 _ _ _ ?_))
      rw[show(⟨⟨[47]⟩⟩:ByteArray)=rt from rfl]
      unfold inV
      (refine app_of rfl ?_;try dsimp only)
      refine al_i ?_;intro b55 τ2 g5 e5 n5
      refine st_i2 e5 sz_InoF (by rfl) (by rfl) ?_;intro τ3 p3
      have g6:Gr τ1 τ3:=g5.putF p3 n5
      have G6:=g4.trans g6
      have hF6:=hF4.gr g6
      have hO6:=hO4.gr g6
      have own6:=own4.gr g6
      cases hz:(s.1.stat rt p false).1==5 with
      | false =>
       rw[hz,if_neg (by simp)]at h19
       exact br_f rfl (h19 s d τ3 B hI0 hne (by omega) hpz2 rfl hF6 hO6 own6 nb)
      | true =>
       rw[hz,if_pos rfl]at h19
       refine br_t rfl ?_
       rw[a0]
       refine ptr_i (if_i ⟨by omega,by omega⟩ (if_i (by decide) (rd_I (rdC_gr G6 a1) (if_i (by decide) (ptr_i (if_i ⟨by omega,by omega⟩ (if_i (by decide) (rd_I (rdC_gr G6 a2) ?_))))))))
       rw[tx_u8 k1]
       refine al_i ?_;intro b62 τ4 g7 e7 n7
       rw[show(Value.int IntKind.u8 t.2.1) = .int .u8 ((t.2.1.toNat.toUInt8.toNat:Nat):Int)from congrArg _ (by_u8 k2)]at e7
       refine bstr_i und_bytesF und_u8F und_string (l:=[(48+t.1.toNat % 10).toUInt8,t.2.1.toNat.toUInt8]) (x:=⟨some ⟨b62,0,none⟩,2,2⟩) ⟨rfl,.inr ⟨b62,0,_,_,_,rfl,e7,fun i r hr => ?_⟩⟩ ?_
       ·match i,hr with
        | 0,hr=>cases hr;exact⟨rfl,rfl⟩
        | 1,hr=>cases hr;exact⟨rfl,rfl⟩
        | i+2,hr=>simp[brows]at hr
       rw[show(⟨⟨[(48+t.1.toNat % 10).toUInt8,t.2.1.toNat.toUInt8]⟩⟩:ByteArray)=txG t.1.toNat t.2.1.toNat from rfl]
       have htz:(txG t.1.toNat t.2.1.toNat).size=2:=rfl
       have ow:=writeF_ok hI.1 hI.2 (by omega) rt p (txG t.1.toNat t.2.1.toNat) false (by omega)
       refine call_i (s_Write hI.1 hI.2 (by omega) (hF6.gr g7) _ _ _ _ (by omega) ?_)
       intro τ5 B5 F5 S5
       have O5:=(hO6.gr g7).sep S5
       have own7:=own6.gr g7
       have own8:RowsOwn τ5 9 1 (strRows s.2) d:=own7.keep fun g o hg ho=>(S5 g o ho (nb g hg).2).1
       have nb5 : ∀g,d.base=some ⟨g,0,none⟩->σ g=none /\ ¬B5 g:=fun g hg=>by
        refine⟨(nb g hg).1,?_⟩
        cases ho:τ4 g with
        | none=>exact absurd ho (own7.has hg)
        | some o=>exact(S5 g o ho (nb g hg).2).2
       obtain⟨g2,o2,c0,c1,c2,c3⟩:=t3row (hx.gr O5.1) ht
       rw[a0]at c0
       injection c0 with c0
       injection c0 with u1 u2
       subst u1;subst u2
       refine app_I (ptr_i (if_i ⟨by omega,by omega⟩ (if_i (by decide) (rd_I c3 ?_))))
       rw[mode_u8 k3]
       have oc:=chmodF_ok ow.inv ow.bd rt p ((2 * t.2.2.toNat+1:Nat):Int)
       refine call_i (s_Chmod F5 _ _ _ ?_)
       intro τ6 B6 F6 S6
       have own9:RowsOwn τ6 9 1 (strRows s.2) d:=own8.keep fun g o hg ho=>(S6 g o ho (nb5 g hg).2).1
       refine app_I (h19 (((s.1.writeF rt p (txG t.1.toNat t.2.1.toNat) false).2.chmodF rt p ((2 * t.2.2.toNat+1:Nat):Int)).2,s.2) d τ6 B6 ⟨oc.inv,oc.bd.mono (by omega)⟩ hne (by show s.2.length<=_;omega) hpz2 rfl F6 (O5.sep S6) own9 fun g hg=>⟨(nb g hg).1,?_⟩)
       cases ho:τ5 g with
       | none=>exact absurd ho (own8.has hg)
       | some o=>exact(S6 g o ho (nb5 g hg).2).2
 refine key (min 20 ts.length) 0 grown0 ⟨some ⟨b7,0,none⟩,1,1⟩ σ3 B2 (by omega) ⟨o1.inv,o1.bd.mono (by omega)⟩ (by simp[grown0]) (Nat.le_refl _) ?_ ?_ (F2.gr g3) (O2.gr g3) (own1F e3) ?_
 ·intro p hp
  have:p=apth 116 []:=List.mem_singleton.1 hp
  rw[this];decide
 ·unfold grownP
  rw[List.drop_zero,List.map_take]
 ·intro g hg
  injection hg with hg
  injection hg with hg
  subst hg
  exact⟨none_of O2.1 n3,F2.fresh n3⟩
end Go.Proofs.YtbdlkofldmhoaaaGreatDoor

set_option maxRecDepth 100000
namespace Go.Wk
open Go Go.HL
theorem head_size (modes:Bool) (kind mode:Int) (data:ByteArray):(headT modes kind mode data).size<=data.size+10:=by
 unfold headT
 simp only
 split
 ·simp only[ByteArray.size_append]
  show 1+_+1+2<=_;omega
 ·simp only[ByteArray.size_append]
  show 1+_+1<=_;omega
theorem gr_data {t:NT} (h:GrN t):t.data.size<=10:=by
 rcases h.2 with⟨_,_,h⟩ | ⟨_,_,h⟩ | ⟨_,_,_,h⟩
 ·rw[h];decide
 ·rw[h];decide
 ·omega
theorem gr_txt (modes:Bool) : ∀ (t:NT),t.nodN->(∀x∈t.kids,x.all GrN)->t.data.size<=10 -> ∀k,(t.txt modes k).size+3<=100 * t.toks.length:=by
 intro t
 refine NT.ind (P:=fun t=>t.nodN->(∀x∈t.kids,x.all GrN)->t.data.size<=10 -> ∀k,(t.txt modes k).size+3<=100 * t.toks.length) ?_ t
 intro t ih hn hg hd k
 have htk:t.toks.length=1+(NT.toksRow t.kids).length:=by rw[NT.toks_eq,List.length_cons];omega
 cases k with
 | zero=>show(askT).size+3<=_;have:askT.size=1:=rfl;omega
 | succ k =>
  have hh:=head_size modes t.kind t.mode t.data
  by_cases h2:t.kind=2
  ·obtain⟨q1,q2⟩:=NT.nodN_iff.1 hn
   rw[txt_size h2 q1 fun x hx=>by
    obtain⟨⟨⟨c,_,hc⟩,_⟩,_⟩:=NT.all_iff.1 (hg x hx)
    exact⟨c,hc⟩]
   have key : ∀l:List NT,(∀x∈l,x∈t.kids)->lenT modes k l<=100 * (NT.toksRow l).length:=by
    intro l
    induction l with
    | nil=>intro _;exact Nat.le_refl _
    | cons x r ihr =>
     intro hl
     have hx:=hl x (List.mem_cons_self ..)
     have h1:=ihr fun y hy=>hl y (List.mem_cons_of_mem _ hy)
     obtain⟨gx,gk⟩:=NT.all_iff.1 (hg x hx)
     have h3:=ih x hx (q2 x hx) gk (gr_data gx) k
     show 3+(x.txt modes k).size+lenT modes k r<=100 * (x.toks++NT.toksRow r).length
     rw[List.length_append];omega
   have:=key t.kids fun x hx=>hx
   omega
  ·rw[NT.txt,if_pos (by simp[h2])]
   omega
section
variable {A : AT} {T : NT} {dirs : List ByteArray}
theorem Gw.sz (h:Gw A T dirs 20):(A.treeP true 14 (apth 116 [])).size<=100000:=by
 have hatT:NT.at (rootT T) (nB (116::[])) T:=h.at_root (ws:=[]) rfl
 have pb116:=pb_pth (a:=116) (cs:=[]) (k:=14) ok_116 (by simp)
 rw[tree_txt (modes:=true) h.fs 14 (Nat.le_refl _) pb116.2 hatT h.kids]
 obtain⟨u1,hsT⟩:=h.fs.sub.at hatT
 have:=gr_txt true T (Sub.nodN h.fs.inv T hsT) h.kids (by rw[h.top.2.2];decide) 14
 have:=h.num
 omega
theorem Gw.szR (h:Gw A T dirs 20):(A.treeP true 14 rt).size<=100000:=by
 have hatT:NT.at (rootT T) (nB (116::[])) T:=h.at_root (ws:=[]) rfl
 rw[root_txt h.fs h.name h.kids,part_size]
 obtain⟨u1,hsT⟩:=h.fs.sub.at hatT
 have h1:=gr_txt true T (Sub.nodN h.fs.inv T hsT) h.kids (by rw[h.top.2.2];decide) 13
 have h2:=h.num
 have h3:=head_size true 2 493 ⟨⟨[]⟩⟩
 have h4:(n1 116).size=1:=rfl
 have h5:(⟨⟨[]⟩⟩:ByteArray).size=0:=rfl
 omega
theorem Gw.szK (h:Gw A T dirs 20) {k:NT} (hk:k∈T.kids) {c:UInt8} (hc:letter c) (hkn:k.name=n1 c):(A.treeP true 14 (apth 116 [c])).size<=100000:=by
 have hatT:NT.at (rootT T) (nB (116::[])) T:=h.at_root (ws:=[]) rfl
 have hatk:NT.at (rootT T) (nB (116::[c])) k:=by
  have:=NT.at_snoc hk hatT
  rw[hkn]at this;exact this
 have hok:okR (116::[c]):=okR_t fun d hd=>by rw[List.mem_singleton]at hd;rw[hd];exact hc
 have pbk:=(pb_pth (a:=116) (cs:=[c]) (k:=14) hok (by simp)).2
 obtain⟨gx,gk⟩:=NT.all_iff.1 (h.kids k hk)
 rw[tree_txt (modes:=true) h.fs 14 (Nat.le_refl _) pbk hatk gk]
 obtain⟨u1,hsk⟩:=h.fs.sub.at hatk
 have h1:=gr_txt true k (Sub.nodN h.fs.inv k hsk) gk (gr_data gx) 14
 have h2:=h.num
 have h3:=NT.toks_kid hk
 omega
end
end Go.Wk

set_option maxRecDepth 100000
namespace Go.Proofs.YtbdlkofldmhoaaaGreatDoor
open Go Go.HL Go.Wk
attribute [local irreducible] ptrW ifW brW andW rdT alW letJ stW muW biW vaW imW callT cvalT app callW invW callVW sizeT oW nilF oneK loopW rfW funW begW roundK exW idxW Gr Put
theorem t3n_le {ts:List T3} (hr:∀t∈ts,t3ok t) : ∀x∈ts.map t3N,x.2.2<=255:=by
 intro x hx
 obtain⟨t,ht,rfl⟩:=List.mem_map.1 hx
 have:=(hr t ht).2.2
 show t.2.2.toNat<=255
 omega
end Go.Proofs.YtbdlkofldmhoaaaGreatDoor

set_option maxRecDepth 100000
namespace Go.Proofs.YtbdlkofldmhoaaaGreatDoor
open Go Go.HL Go.Wk
theorem tp_c (c:UInt8):(⟨⟨[116,47]⟩⟩:ByteArray)++n1 c=pth 116 [c]:=by
 apply bytes_ext
 rw[app_data];rfl
theorem ap_c (c:UInt8):(⟨⟨[47,116,47]⟩⟩:ByteArray)++n1 c=apth 116 [c]:=by
 apply bytes_ext
 rw[app_data];rfl
theorem no_zero (nm n:ByteArray) (e:Int):strEq (⟨⟨[49]⟩⟩++failT nm n e) ⟨⟨[48]⟩⟩=false:=by
 cases h:strEq (⟨⟨[49]⟩⟩++failT nm n e) ⟨⟨[48]⟩⟩ with
 | false=>rfl
 | true =>
  have:=congrArg (fun b:ByteArray=>b.data.toList.head?) (strEq_iff.1 h)
  simp only[app_data]at this
  have this:some (49:UInt8)=some 48:=this
  exact absurd this (by decide)
theorem strOther {a b:ByteArray} (h:a≠b):strEq a b=false:=by
 cases hs:strEq a b with
 | false=>rfl
 | true=>exact absurd (strEq_iff.1 hs) h
attribute [local irreducible] ptrW ifW brW andW rdT alW letJ stW muW biW vaW imW callT cvalT app callW invW callVW sizeT oW nilF oneK loopW rfW funW begW roundK exW idxW Gr Put
theorem s_FilesMove {σ:H} (x:Sl) (ts:List T3) (hx:RowsAt σ 3 (ts.map t3V) x) (hr:∀t∈ts,t3ok t) (n:Int) (hn:0<=n/\n<=255) {K:KH} (hK:∀σ',Gr σ σ'->K (.bool true) σ') :
 callW Tryz.prog 6 [.slice x.base x.len x.cap,.int .u8 n] K σ:=by
 refine c6 _ _ ?_
 unfold g6
 refine call_i (s_grown19 x ts hx hr ?_)
 intro bf σ1 B1 F1 O1
 obtain⟨T,hG⟩:=grown_ok (ts.map t3N) (t3n_le hr)
 obtain⟨hls,hnil,hmem⟩:=grown_names hG
 have hbA:Inv (grownP (ts.map t3N)).1/\Bd 100000 (grownP (ts.map t3N)).1:=⟨hG.fs.inv,hG.bd.mono (by omega)⟩
 refine app_P (br_f rfl ?_)
 refine call_i (s_ListR hbA.1 hbA.2 (by decide) F1 _ _ ?_)
 intro y σ2 hy
 rw[show(grownP (ts.map t3N)).1.listF ⟨⟨[47]⟩⟩ ⟨⟨[47,116]⟩⟩=(0,T.names)from hls]at hy ⊢
 simp only at hy
 (refine app_of rfl ?_;try dsimp only)
 have hyl:=sLen hy.at
 have F2:=F1.gr hy.1
 have O2:=O1.gr hy.1
 cases hnm:T.names with
 | nil =>
  have h0:=hnil hnm
  obtain⟨A1,m1,m2,b1,b0⟩:=move_empty hG h0
  rw[hnm]at hyl
  generalize (grownP (ts.map t3N)).1=A at F2 m1 b0
  refine br_t (by rw[hyl];rfl) ?_
  refine al_i ?_;intro b6 σ3 g3 e3 n3
  refine call_i (c_mv (A:=A) (N:=100000) (F2.gr g3) ((O2.gr g3).add e3 (F2.fresh n3)) (arg2 (by decide) (by decide)) b0 (by decide) (by rw[show callP A mvN [⟨⟨[116]⟩⟩,⟨⟨[117]⟩⟩]=_ from m1];exact zT1) ?_)
  rw[show callP A mvN [⟨⟨[116]⟩⟩,⟨⟨[117]⟩⟩]=_ from m1]
  intro σ4 B4 F4 s4 _
  have O4:=(O2.gr g3).sep s4
  refine app_S (br_t (strEq_iff.2 rfl) ?_)
  refine al_i ?_;intro b8 σ5 g5 e5 n5
  refine call_i (c_ls (A:=A1) (N:=100000) (F4.gr g5) ((O4.gr g5).add e5 (F4.fresh n5)) (arg1 (by decide)) b1 (by decide) (by rw[show callP A1 lsN [⟨⟨[117]⟩⟩]=_ from m2];exact zT1) ?_)
  rw[show callP A1 lsN [⟨⟨[117]⟩⟩]=_ from m2]
  intro σ6 B6 F6 s6 _
  have O6:=(O4.gr g5).sep s6
  exact app_S (br_t (strEq_iff.2 rfl) (call_i (s_works19 (app_B (hK σ6 O6.1)))))
 | cons w ws =>
  have hlp:0<T.names.length:=by rw[hnm,List.length_cons];omega
  have hln:T.names.length<=100000:=by
   have:=listF_len (cwd:=rt) (path:=apth 116 []) hbA.2
   rw[hls]at this
   exact this
  have hlt:n.toNat % T.names.length<T.names.length:=Nat.mod_lt _ hlp
  obtain⟨nm,hnmi⟩ : ∃nm,T.names[n.toNat % T.names.length]? = some nm:=⟨_,List.getElem?_eq_getElem hlt⟩
  obtain⟨k,hk,c,hc,hkn,rfl⟩:=hmem nm (List.mem_of_getElem? hnmi)
  obtain⟨A1,A2,e,e0,L⟩:=move_law hG hk hc hkn
  have z1:=hG.sz
  have z2:=hG.szR
  have z3:=hG.szK hk hc hkn
  clear hG hls
  generalize (grownP (ts.map t3N)).1=A at F2 L z1 z2 z3
  have lp:=L.part
  have lo:=L.other
  have lw:=L.was
  have loz:=L.osz
  generalize hW:A.treeP true 14 rt=W at z2 lw
  generalize hP:A.treeP true 14 (apth 116 [c])=P at z3 lp
  generalize hT:A.treeP true 14 (apth 116 [])=S at z1 lo loz
  refine br_f (by rw[hyl];simp only[beq_eq_false_iff_ne,ne_eq];omega) ?_
  refine call_i (s_tree19 L.bd0.1 L.bd0.2 (by decide) true 14 rt σ2 B1 _ F2 (by decide) (by decide) (by rw[hW];omega) ?_)
  rw[hW]
  refine app_S (call_i (s_Used F2 ?_))
  (refine app_of rfl ?_;try dsimp only)
  refine call_i (s_tree19 L.bd0.1 L.bd0.2 (by decide) true 14 (apth 116 []) σ2 B1 _ F2 (by decide) (by decide) (by rw[hT];omega) ?_)
  rw[hT]
  refine app_S (al_i ?_);intro b15 σ3 g3 e3 n3
  refine st_i2 e3 sz_Quota (by rfl) (by rfl) ?_;intro σ4 p4
  have g4:Gr σ2 σ4:=g3.putF p4 n3
  have F4:=F2.gr g4
  have k15:σ4 b15=some (.cells ⟨[.int .i64 A.ui,.int .i64 A.ub]⟩ 25 (0,0)):=p4.same
  have n15 : ¬B1 b15:=F2.fresh n3
  obtain⟨τ,O4,hτ⟩:=off_all σ4 B1
  have w15:=hτ b15 _ k15 n15
  have gτ:Gr σ τ:=gr_of fun c o hc=>hτ c o (g4.get (O2.get hc)) (O2.2 c o hc)
  obtain⟨g,o,a1,a2,a3⟩:=sRow (hy.at.gr g4) hnmi
  clear p4 e3 g3
  refine if_i (by omega) ?_
  rw[hyl,mod_u8 hn hlp (by omega),a1]
  refine ptr_i (if_i ⟨by omega,by omega⟩ (rd_S (by rw[Int.toNat_natCast];exact a3) (if_i (by show 3+1<=_;decide) ?_)))
  rw[ap_c]
  refine call_i (s_tree19 L.bd0.1 L.bd0.2 (by decide) true 14 (apth 116 [c]) σ4 B1 _ F4 (by decide) (by show(4:Nat)+_<=_;decide) (by rw[hP];omega) ?_)
  rw[hP]
  have h1000:(pth 116 [c]).size<=1000:=by show(3:Nat)<=1000;decide
  have nz:(n1 c).size=1:=rfl
  refine app_S (j_i (fun j => ∀σ' B',FsAt σ' bf A1 B'->Off τ σ' B'->j (some ⟨bf,0,none⟩) W (some ⟨b15,0,none⟩) (n1 c) false σ') ?_ ?_)
  ·intro σ5 B5 F5 O5
   refine br_f rfl (j_i (fun j => ∀σ' B',FsAt σ' bf A2 B'->Off τ σ' B'->j (some ⟨bf,0,none⟩) W (n1 c) false σ') ?_ ?_)
   ·intro σ6 B6 F6 O6
    refine br_f rfl (if_i (by show 2+1<=_;decide) ?_)
    rw[tp_c]
    refine al_i ?_;intro b31 σ7 g7 e7 n7
    have hfz:=failT_size mvN tN L.ee
    refine call_i (c_mv (A:=A2) (N:=100000) (F6.gr g7) ((O6.gr g7).add e7 (F6.fresh n7)) (arg2 (by decide) h1000) L.bd2 (by decide) (by
     rw[show callP A2 mvN [⟨⟨[116]⟩⟩,pth 116 [c]]=_ from L.no,ByteArray.size_append]
     have h1:mvN.size=2:=rfl
     have h2:tN.size=1:=rfl
     have h3:(⟨⟨[49]⟩⟩:ByteArray).size=1:=rfl
     omega) ?_)
    rw[show callP A2 mvN [⟨⟨[116]⟩⟩,pth 116 [c]]=_ from L.no]
    intro σ8 B8 F8 s8 _
    have O8:=(O6.gr g7).sep s8
    refine app_S (br_t (by rw[no_zero];rfl) ?_)
    refine call_i (s_tree19 L.bd2.1 L.bd2.2 (by decide) true 14 rt σ8 B8 _ F8 (by decide) (by decide) (by rw[lw];omega) ?_)
    rw[lw]
    exact app_S (br_t (strEq_iff.2 rfl) (call_i (s_works19 (app_B (hK σ8 (gτ.trans O8.1))))))
   ·intro j26 h26
    refine if_i (by show 2+1<=_;decide) ?_
    rw[tp_c]
    refine al_i ?_;intro b35 σ7 g7 e7 n7
    refine call_i (c_mv (A:=A1) (N:=100000) (F5.gr g7) ((O5.gr g7).add e7 (F5.fresh n7)) (arg2 (by decide) h1000) L.bd1 (by decide) (by rw[show callP A1 mvN [⟨⟨[109,111,118,101,100]⟩⟩,pth 116 [c]]=_ from L.back];exact zT1) ?_)
    rw[show callP A1 mvN [⟨⟨[109,111,118,101,100]⟩⟩,pth 116 [c]]=_ from L.back]
    intro σ8 B8 F8 s8 _
    have O8:=(O5.gr g7).sep s8
    refine app_S (br_f (strSame Wk.zeroT) ?_)
    refine call_i (s_tree19 L.bd2.1 L.bd2.2 (by decide) true 14 rt σ8 B8 _ F8 (by decide) (by decide) (by rw[lw];omega) ?_)
    rw[lw]
    refine app_S (br_f (strSame W) (ptr_i (rd_G (rdA_of' (O8.get w15) (by rfl)) ?_)))
    (refine app_of rfl ?_;try dsimp only)
    refine call_i (s_Used F8 ?_)
    (refine app_of rfl ?_;try dsimp only)
    refine and_i (rdA_of' (O8.get w15) (by rfl)) ?_
    rw[L.ui2,L.ub2,show(!((A.ui==A.ui)&&((A.ub==A.ub)&&true)))=false from by simp]
    exact h26 σ8 B8 F8 O8
  ·intro j20 h20
   refine if_i (by show 2+1<=_;decide) ?_
   rw[tp_c]
   refine al_i ?_;intro b44 σ5 g5 e5 n5
   refine call_i (c_mv (A:=A) (N:=100000) (F4.gr g5) ((O4.gr g5).add e5 (F4.fresh n5)) (arg2 h1000 (by decide)) L.bd0 (by decide) (by rw[show callP A mvN [pth 116 [c],⟨⟨[109,111,118,101,100]⟩⟩]=_ from L.mv];exact zT1) ?_)
   rw[show callP A mvN [pth 116 [c],⟨⟨[109,111,118,101,100]⟩⟩]=_ from L.mv]
   intro σ6 B6 F6 s6 _
   have O6:=(O4.gr g5).sep s6
   refine app_S (br_f (strSame Wk.zeroT) ?_)
   refine call_i (s_tree19 L.bd1.1 L.bd1.2 (by decide) true 14 ⟨⟨47::mvd.data.toList⟩⟩ σ6 B6 _ F6 (by decide) (by decide) (by rw[lp];omega) ?_)
   rw[lp]
   refine app_S (br_f (strSame P) (rd_G (rdA_of' (O6.get w15) (by rfl)) ?_))
   (refine app_of rfl ?_;try dsimp only)
   refine call_i (s_Used F6 ?_)
   (refine app_of rfl ?_;try dsimp only)
   refine and_i (rdA_of' (O6.get w15) (by rfl)) (br_f (by rw[L.ui1,L.ub1];simp) ?_)
   refine call_i (s_tree19 L.bd1.1 L.bd1.2 (by decide) true 14 (apth 116 []) σ6 B6 _ F6 (by decide) (by decide) (by omega) ?_)
   refine app_S ?_
   rw[strOther lo]
   exact h20 σ6 B6 F6 O6
end Go.Proofs.YtbdlkofldmhoaaaGreatDoor

set_option maxRecDepth 100000
namespace Go.Proofs.YtbdlkofldmhoaaaGreatDoor
open Go Go.HL Go.Wk Go.ChangeShapes Go.WideShapes Go.ChangeAt Go.RowKit
namespace arr3r
theorem u8r {n:Int} (h:(Lit.int .u8 n).wf=true):(0:Int)<=n/\n<=255:=by
 have h1:(decide (IntKind.u8.min<=n)&&decide (n<=IntKind.u8.max))=true:=h
 have e1:IntKind.u8.min=0:=by decide
 have e2:IntKind.u8.max=255:=by decide
 rw[e1,e2]at h1
 simp only[Bool.and_eq_true,decide_eq_true_eq]at h1
 exact h1
theorem cs_u8:Tryz.prog.cellsOf 5=1:=by kernel_rfl
theorem t_of {D:Type} {enc:TypeId×Value->D} {W:World} {m:Nat} {r:List Value} {x:DataW D×List MemPlace} (h:DataW.trod enc Tryz.prog W 0 (fun _=>true) true m 108 r=some x) : ∃t:T3,r=t3V t/\t3ok t:=by
 obtain⟨xs,n,_,_,hl,hlen,hf⟩:=DataW.trod_array Tryz.underlying108 h
 have hl:r.length=3:=hl.trans (by kernel_rfl)
 obtain⟨a0,a1,a2,rfl⟩ : ∃a0 a1 a2,r=[a0,a1,a2]:=by
  match r,hl with
  | [a0,a1,a2],_=>exact⟨_,_,_,rfl⟩
 rw[cs_u8]at hf
 have g : ∀i,i<3 -> ∃y,xs[i]? = some y:=fun i hi=>⟨_,List.getElem?_eq_getElem (by omega)⟩
 have h0:=hf 0 (by decide)
 obtain⟨y0,e0⟩:=g 0 (by decide)
 rw[e0]at h0
 obtain⟨n0,q0,_,w0⟩:=DataW.trod_int (k := .u8) Tryz.underlying5 h0
 have h1:=hf 1 (by decide)
 obtain⟨y1,e1⟩:=g 1 (by decide)
 rw[e1]at h1
 obtain⟨n1,q1,_,w1⟩:=DataW.trod_int (k := .u8) Tryz.underlying5 h1
 have h2:=hf 2 (by decide)
 obtain⟨y2,e2⟩:=g 2 (by decide)
 rw[e2]at h2
 obtain⟨n2,q2,_,w2⟩:=DataW.trod_int (k := .u8) Tryz.underlying5 h2
 have q0:[a0]=[.int .u8 n0]:=q0
 have q1:[a1]=[.int .u8 n1]:=q1
 have q2:[a2]=[.int .u8 n2]:=q2
 simp only[List.cons.injEq,and_true]at q0 q1 q2
 exact⟨⟨n0,n1,n2⟩,by rw[q0,q1,q2];rfl,u8r w0,u8r w1,u8r w2⟩
theorem ts_of {D:Type} {enc:TypeId×Value->D} {W:World} {m n:Nat} : ∀ {rows:List (List Value)},(∀r∈rows,m<n /\ ∃d ps,DataW.trod enc Tryz.prog W 0 (fun _=>true) true m 108 r=some (d,ps)) -> ∃ts:List T3,rows=ts.map t3V /\ ∀t∈ts,t3ok t:=by
 intro rows
 induction rows with
 | nil=>exact fun _=>⟨[],rfl,fun _ h=>by cases h⟩
 | cons r rs ih =>
  intro hall
  obtain⟨ts,ha,hb⟩:=ih fun r hr=>hall r (List.mem_cons_of_mem _ hr)
  obtain⟨_,d,ps,hd⟩:=hall r (List.mem_cons_self ..)
  obtain⟨t,q,w⟩:=t_of hd
  refine⟨t::ts,by rw[ha,q];rfl,fun u hu => ?_⟩
  rcases List.mem_cons.1 hu with e | e
  ·rw[e];exact w
  ·exact hb u e
end arr3r
end Go.Proofs.YtbdlkofldmhoaaaGreatDoor

