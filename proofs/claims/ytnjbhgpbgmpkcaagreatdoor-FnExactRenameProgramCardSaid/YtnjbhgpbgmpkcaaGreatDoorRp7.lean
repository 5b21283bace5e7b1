/-
  Contracts and lemmas that the card needs, part 7.
-/
import Derived.Test.YtnjbhgpbgmpkcaaGreatDoorRp6
namespace Go.Proofs.YtnjbhgpbgmpkcaaGreatDoor
open Go Go.Aw
set_option maxRecDepth 100000
set_option maxHeartbeats 4000000
def K_impl_renamer_block_1:AK:= .seq (.reg [oJ 3 (.box 5 (.t 0)),oJ 4 (.alloc [(.p (.int .i64 0)),(.p (.str [])),.nils,.nils,.nils])]) (.seq (.reg [oF 7 2 3,oL 8 7,oJ 9 (.mkf (.func bi) [(.t 1),(.t 2)]),oJ 10 (.call aK [(.t 8),(.t 9)]),oF 11 2 3,oS 11 10]) (.cut (.seq (.reg [oF 12 0 3,oL 13 12]) (.blk 0 (.seq (.reg [oJ 15 (.bin .eql (.t 13) (.c (.p (.int .i64 1)))),oM 14 15]) (.cond (.t 14) (.reg [oL 16 1,oL 17 2,oF 18 1 3,oL 19 18,oJ 20 (.call ca [(.t 16),(.t 17),(.t 19)]),oF 21 1 3,oS 21 20]) (.seq (.reg [oJ 23 (.bin .eql (.t 13) (.c (.p (.int .i64 2)))),oM 22 23]) (.cond (.t 22) (.seq (.reg [oL 25 2,oF 26 1 3,oL 27 26,oJ 28 (.call aI [(.t 25),(.t 27)]),oM 24 28,oJ 29 (.ext 0 (.t 24)),oJ 30 (.ext 1 (.t 24)),oM 5 29,oM 6 30]) (.reg [oL 31 1,oM 32 5,oJ 33 (.call be [(.t 31),(.t 32)]),oF 34 1 3,oS 34 33])) (.skip))))))) (.seq (.reg [oF 36 3 3,oL 35 1,oL 37 36,oL 38 2,oJ 39 (.call aB [(.t 38)]),⟨none,none,.chk none 1 35⟩,⟨none,none,.chk none 36 37⟩,oJ 40 (.call aR [(.t 35),(.t 37),(.t 39)]),oF 41 3 3,oS 41 40]) (.seq (.reg [oF 43 4 3,oL 42 1,oL 44 43,oL 45 2,oJ 46 (.call aB [(.t 45)]),⟨none,none,.chk none 1 42⟩,⟨none,none,.chk none 43 44⟩,oJ 47 (.call aR [(.t 42),(.t 44),(.t 46)]),oF 48 4 3,oS 48 47]) (.seq (.reg [oJ 49 (.ld (some 5) (.t 3)),⟨none,none,.st 5 (.t 4) (.t 49)⟩]) (.ret))))))
theorem kB:K_impl_renamer_block_1.whole=F_impl_renamer_block_1.ak:=rfl
def irG(up:List Scp)(st:Scp × Nat)(s:Sm):Sm × (Scp × Nat):=((irS s st.1 up st.2).1,((irS s st.1 up st.2).2.1,(irS s st.1 up st.2).2.2))
theorem zg(up:List Scp):∀(l:List Sm) (m:Scp) (n:Nat),cw (irG up) (m,n) l=((cW l m up n).1,((cW l m up n).2.1,(cW l m up n).2.2))
 |[],m,n=>rfl
 |s::r,m,n=>by
  rw[cw,cW]
  have:=zg up r (irS s m up n).2.1 (irS s m up n).2.2
  simp only[irG] at this⊢
  rw[this]
theorem zx:∀(s:Sm) (m:Scp) (up:List Scp) (n:Nat),(irS s m up n).2.2=n+jQ s∧(irS s m up n).2.1=opS s.op s.name m n:=by
 have key:∀N:Nat,(∀s:Sm,s.sz<N→∀m up n,(irS s m up n).2.2=n+jQ s∧(irS s m up n).2.1=opS s.op s.name m n)∧∀l:List Sm,aG l<N→∀m up n,(cW l m up n).2.2=n+cy l:=by
  intro N
  induction N with
  |zero=>exact⟨fun s h=>by omega,fun l h=>by omega⟩
  |succ N ih=>
   have one:∀s:Sm,s.sz<N+1→∀m up n,(irS s m up n).2.2=n+jQ s∧(irS s m up n).2.1=opS s.op s.name m n:=by
    intro s hs m up n
    obtain⟨o,nme,a,bd,el⟩:=s
    rw[Sm.sz] at hs
    rw[irS,jQ]
    simp only
    refine⟨?_,rfl⟩
    rw[ih.2 el (by omega),ih.2 bd (by omega)]
    split<;>omega
   refine⟨one,fun l hl m up n=>?_⟩
   induction l generalizing m n with
   |nil=>rfl
   |cons s r ihl=>
    rw[aG] at hl
    rw[cW,cy]
    simp only
    rw[ihl (by omega),(one s (by omega) m up n).1]
    omega
 exact fun s=>(key (s.sz+1)).1 s (by omega)
theorem BP{l:List Sm}{i:Nat}(h:i<l.length):cy (l.drop i)=jQ l[i]+cy (l.drop (i+1)):=by
 rw[List.drop_eq_getElem_cons h,cy]
def sBx(ch:List GS):List AO:=[.row 1 [[.ptr 1 1 0 0]],.row 1 [[upV ch]]]
theorem Cw(ch:List GS){n:Nat}(h:2+scL ch≤n):∀o∈sBx ch,okO n o:=by
 intro o ho
 simp only[sBx,List.mem_cons,List.not_mem_nil,or_false] at ho
 rcases ho with rfl|rfl
 ·intro e he;rw[List.mem_singleton.1 he];exact⟨by simp only[below];omega,trivial⟩
 ·intro e he;rw[List.mem_singleton.1 he];exact⟨cL ch h,trivial⟩
theorem uV(gap:List AO)(m:Scp)(up:List GS):scL (⟨gap,m⟩::up)=scL up+gap.length+2:=rfl
def vc{b0:AO}(hb:okO 0 b0)(gap:List AO)(up:List GS)(hs:∀m,jH (⟨gap,m⟩::up)):Vis (Scp × Nat) where
 I:=fun st=>RH b0 st.2 (⟨gap,st.1⟩::up)++sBx (⟨gap,[]⟩::up)
 n:=2+(scL up+gap.length+2)+2
 F:=bq
 caps:=[.ptr (2+(scL up+gap.length+2)) 1 0 0,.ptr (2+(scL up+gap.length+2)+1) 1 0 0]
 len:=fun st=>by rw[List.length_append,jt b0];rfl
 ok:=fun st o ho=>by
  rcases List.mem_append.1 ho with h|h
  ·exact uc hb (hs _) (by rw[uV];omega) o h
  ·exact Cw (⟨gap,[]⟩::up) (by rw[uV];omega) o h
 capsOk:=by simp[below]
def xK{b0:AO}(hb:okO 0 b0)(n:Nat)(ch:List GS)(x:List PV)(hs:jH ch):Vis Unit where
 I:=fun _=>RH b0 n ch++(sBx ch++[.row 5 [x.map .p],.row 5 [[.p (.int .i64 0),.p (.str []),.nils,.nils,.nils]]])
 n:=2+scL ch+4
 F:=bi
 caps:=[.ptr (2+scL ch) 1 0 0,.ptr (2+scL ch+1) 1 0 0]
 len:=fun _=>by rw[List.length_append,jt b0];rfl
 ok:=fun _ o ho=>by
  rcases List.mem_append.1 ho with h|h
  ·exact uc hb hs (by omega) o h
  ·rcases List.mem_append.1 h with h|h
   ·exact Cw ch (by omega) o h
   ·simp only[List.mem_cons,List.not_mem_nil,or_false] at h
    rcases h with rfl|rfl
    ·intro e he;rw[List.mem_singleton.1 he];exact au (Nat.zero_le _) _ (by simp)
    ·intro e he;rw[List.mem_singleton.1 he];exact au (Nat.zero_le _) _ (by simp)
 capsOk:=by simp[below]
variable (G:aA)
end Go.Proofs.YtnjbhgpbgmpkcaaGreatDoor
namespace Go.Proofs.YtnjbhgpbgmpkcaaGreatDoor
open Go Go.Aw
set_option maxRecDepth 100000
set_option maxHeartbeats 4000000
variable (G:aA)
theorem FH{b0:AO}(hb:okO 0 b0)(n:Nat)(gap:List AO)(m:Scp)(up:List GS)(hs:jH (⟨gap,m⟩::up))(hm:Sml (m::sco up))(x:List PV)(hx5:x.length=5)(a:List Ex)(hz:bK a≤1073741824):
 AC Tryz.prog G aK [.p (exL a),.fn (.func bi) [.ptr (2+scL (⟨gap,m⟩::up)) 1 0 0,.ptr (2+scL (⟨gap,m⟩::up)+1) 1 0 0]] ((xK hb n (⟨gap,m⟩::up) x hs).I ()) (Mk one true [exL (qz (m::sco up) a)] ((xK hb n (⟨gap,m⟩::up) x hs).I ())):=by
 have hal:=bt a
 have hm2:=ud G (xK hb n (⟨gap,m⟩::up) x hs) (fun st x=>(irE (m::sco up) x,st)) (fun _ _=>True) a (by omega) (fun i st hi _=>⟨trivial,?_⟩) () trivial
 ·rw[oV] at hm2
  rw[sf]
  exact hm2
 have hks:=aW (List.getElem_mem hi)
 have hx:=EE G hb n (⟨gap,m⟩::up) hs hm a[i].sz a[i] (Nat.le_refl _) (by omega)
 rw[show sco (⟨gap,m⟩::up)=m::sco up from rfl] at hx
 generalize a[i]=e at hx
 have hxc:=e.cs_eq
 have hyc:=(irE (m::sco up) e).cs_eq
 have hup:upV (⟨gap,m⟩::up)= .ptr (2+scL up+gap.length+1) 2 0 0:=rfl
 generalize hch:(GS.mk gap m::up)=ch at*
 have hlen:=jt b0 n ch
 refine AC.go jA ?_
 have hI:(xK hb n ch x hs).I ()=RH b0 n ch++[.row 1 [[.ptr 1 1 0 0]],.row 1 [[.ptr (2+scL up+gap.length+1) 2 0 0]],.row 5 [x.map .p],.row 5 [[.p (.int .i64 0),.p (.str []),.nils,.nils,.nils]]]:=by
  simp only[xK,sBx,hup];rfl
 have hx2:=zi G hb gt hx hs [.row 1 [[.ptr 1 1 0 0]],.row 1 [[.ptr (2+scL up+gap.length+1) 2 0 0]],.row 5 [x.map .p],.row 5 [[.p (.int .i64 0),.p (.str []),.nils,.nils,.nils]],.row 4 [[.p (.int .i64 e.op),.p (.int .i64 e.n),.p (.str e.name),.p (exL e.kids)]],.row 4 [[.p (.int .i64 0),.p (.int .i64 0),.p (.str []),.nils]]] ⟨by simp only[below];omega,by simp,cL ch (Nat.le_refl _),trivial⟩
 have hcaps:(xK hb n ch x hs).caps=[.ptr (2+scL ch) 1 0 0,.ptr (2+scL ch+1) 1 0 0]:=rfl
 rw[hxc,hup] at hx2
 rw[hcaps,hI]
 simp-implicitDefEqProofs[eE,hxc,hlen]
 refine hx2.mono ?_
 rintro r h ⟨vs,I,os,rfl,rfl,ho,nd,hf⟩
 obtain⟨K,rfl,hK⟩:=sg ho
 obtain⟨c1,c2⟩:=bz hK
 simp-implicitDefEqProofs[-AV.cells,-AV.isCell,cT,aD,aQ,cV,aE,c1,c2,aa,hlen]
 rw[hyc] at ho⊢
 exact Db (C0:=[_,_,_,_]) (C1:=[_,_]) ho nd hf (by simp)
end Go.Proofs.YtnjbhgpbgmpkcaaGreatDoor
namespace Go.Proofs.YtnjbhgpbgmpkcaaGreatDoor
open Go Go.Aw
set_option maxRecDepth 100000
set_option maxHeartbeats 4000000
variable (G:aA)
theorem DL(o:Int)(s:List UInt8)(a:List Ex)(bd el:List Sm)(m:Scp)(up:List Scp)(n:Nat):
 (irS ⟨o,s,a,bd,el⟩ m up n).1=⟨o,if o=1 then vnm n else if o=2 then irN (m::up) s else s,qz (m::up) a,(cW bd [] (opS o s m n::up) (if o=1 then n+1 else n)).1,(cW el [] (opS o s m n::up) (cW bd [] (opS o s m n::up) (if o=1 then n+1 else n)).2.2).1⟩:=rfl
theorem wT:∀(l:List Sm) (m:Scp) (up:List Scp) (n:Nat),(cW l m up n).2.2=n+cy l
 |[],m,up,n=>rfl
 |s::r,m,up,n=>by
  rw[cW,cy]
  simp only
  rw[wT r,(zx s m up n).1]
  omega
end Go.Proofs.YtnjbhgpbgmpkcaaGreatDoor
namespace Go.Proofs.YtnjbhgpbgmpkcaaGreatDoor
open Go Go.Aw
set_option maxRecDepth 100000
set_option maxHeartbeats 4000000
variable (G:aA)
def zj(b0:AO)(l:List Sm):Prop:=∀(gap:List AO) (m:Scp) (up:List GS) (n:Nat),(∀m,jH (⟨gap,m⟩::up))→Sml (m::sco up)→n+cy l≤26→
 AC Tryz.prog G aR [.ptr 1 1 0 0,.p (smL l),.ptr (2+scL up+gap.length+1) 2 0 0] (RH b0 n (⟨gap,m⟩::up)) (Mk one true [smL (cW l m (sco up) n).1] (RH b0 (cW l m (sco up) n).2.2 (⟨gap,(cW l m (sco up) n).2.1⟩::up)))
theorem sF(a b c d:Nat):(AV.ptr a b c d).isCell=true:=rfl
theorem rD(a b c d:Nat):(AV.ptr a b c d).cells=[.ptr a b c d]:=rfl
theorem jY{X os Y post:List AO}{vs:List AV}{qs:List PV}{I:List Nat}(ho:OwnL true (X++os) vs qs I)(hf:∀i∈I,X.length≤i)(hl:Y.length=X.length):OwnL true (Y++(os++post)) vs qs I:=
 ho.frame fun i hi=>by
  have h1:=hf i hi
  have h2:=ho.lt hi
  rw[List.length_append] at h2
  rw[List.getElem?_append_right h1,List.getElem?_append_right (by omega),hl,List.getElem?_append_left (by omega)]
theorem FP{R os1 os2 os3 X1 X2 X3:List AO}{b1 b2 b3 b4 p1 p2 p3 p4:AO}{KA KB KE:AV}{qa qb qe:PV}{I1 I2 I3:List Nat}(o:Int)(nm:List UInt8)
 (ho1:OwnL true (X1++os1) [KA] [qa] I1)(ho2:OwnL true (X2++os2) [KB] [qb] I2)(ho3:OwnL true (X3++os3) [KE] [qe] I3)(nd1:I1.Nodup)(nd2:I2.Nodup)(nd3:I3.Nodup)
 (hf1:∀i∈I1,X1.length≤i)(hf2:∀i∈I2,X2.length≤i)(hf3:∀i∈I3,X3.length≤i)
 (l1:X1.length=R.length+4)(l2:X2.length=R.length+6+os1.length)(l3:X3.length=R.length+8+os1.length+os2.length):
 Mk .agg true [.int .i64 o,.str nm,qa,qb,qe] (R++[b1,b2]) (.ret (.agg [.p (.int .i64 o),.p (.str nm),KA,KB,KE])) (R++b1::b2::b3::b4::(os1++p1::p2::(os2++p3::p4::os3))):=by
 have m1:=jY (Y:=R++[b1,b2,b3,b4]) (post:=p1::p2::(os2++p3::p4::os3)) ho1 hf1 (by simp[l1])
 have m2:=jY (Y:=R++(b1::b2::b3::b4::(os1++[p1,p2]))) (post:=p3::p4::os3) ho2 hf2 (by simp[l2];omega)
 have m3:=jY (Y:=R++(b1::b2::b3::b4::(os1++p1::p2::(os2++[p3,p4])))) (post:=[]) ho3 hf3 (by simp[l3];omega)
 have e1:(R++[b1,b2,b3,b4])++(os1++p1::p2::(os2++p3::p4::os3))=R++b1::b2::b3::b4::(os1++p1::p2::(os2++p3::p4::os3)):=by simp
 have e2:(R++(b1::b2::b3::b4::(os1++[p1,p2])))++(os2++p3::p4::os3)=R++b1::b2::b3::b4::(os1++p1::p2::(os2++p3::p4::os3)):=by simp
 have e3:(R++(b1::b2::b3::b4::(os1++p1::p2::(os2++[p3,p4]))))++(os3++[])=R++b1::b2::b3::b4::(os1++p1::p2::(os2++p3::p4::os3)):=by simp
 rw[e1] at m1
 rw[e2] at m2
 rw[e3] at m3
 have b1:∀i∈I1,R.length+4≤i∧i<R.length+4+os1.length:=fun i hi=>by
  have h1:=hf1 i hi
  have h2:=ho1.lt hi
  rw[List.length_append] at h2
  omega
 have b2:∀i∈I2,R.length+6+os1.length≤i∧i<R.length+6+os1.length+os2.length:=fun i hi=>by
  have h1:=hf2 i hi
  have h2:=ho2.lt hi
  rw[List.length_append] at h2
  omega
 have b3:∀i∈I3,R.length+8+os1.length+os2.length≤i:=fun i hi=>by
  have h1:=hf3 i hi
  omega
 refine⟨_,I1++(I2++I3),_,rfl,by rw[List.append_assoc];rfl,.p _ (fun _=>rfl) (.p _ (fun _=>rfl) (m1.app (m2.app m3))),?_,fun i hi=>?_⟩
 ·refine qu (R.length+4+os1.length) nd1 (qu (R.length+6+os1.length+os2.length) nd2 nd3 (fun i hi=>(b2 i hi).2) fun i hi=>by have:=b3 i hi;omega) (fun i hi=>(b1 i hi).2) fun i hi=>?_
  rcases List.mem_append.1 hi with h|h
  ·have:=b2 i h;omega
  ·have:=b3 i h;omega
 ·rw[List.length_append]
  show R.length+2≤i
  rcases List.mem_append.1 hi with h|h
  ·have:=b1 i h;omega
  ·rcases List.mem_append.1 h with h|h
   ·have:=b2 i h;omega
   ·have:=b3 i h;omega
theorem FU{h:List AO}(H:HB h):∀o∈h,okO h.length o:=by
 intro o ho
 obtain⟨i,hi⟩:=List.getElem?_of_mem ho
 cases o with
 |dead=>trivial
 |row sz es=>intro e he;exact(H.1 i sz es hi e he).2.1
 |mp es=>intro e he;exact H.2 i es hi e he
 |sit s p=>trivial
theorem GD{b0:AO}(hb:okO 0 b0){o:Int}{nme:List UInt8}{a:List Ex}{bd el:List Sm}(hz:bK a≤1073741824)(ib:zj G b0 bd)(ie:zj G b0 el)(gap:List AO)(m:Scp)(up:List GS)(n:Nat)(hs:∀m,jH (⟨gap,m⟩::up))(hm:Sml (m::sco up))(hc:n+jQ ⟨o,nme,a,bd,el⟩≤26):
 AC Tryz.prog G bq (.agg ((Sm.mk o nme a bd el).cs.map .p)::(vc hb gap up hs).caps) ((vc hb gap up hs).I (m,n)) (Mk .agg true (irG (sco up) (m,n) ⟨o,nme,a,bd,el⟩).1.cs ((vc hb gap up hs).I (irG (sco up) (m,n) ⟨o,nme,a,bd,el⟩).2)):=by
 refine AC.goK kF kB ?_
 have hse:(Sm.mk o nme a bd el).cs=[.int .i64 o,.str nme,exL a,smL bd,smL el]:=Sm.cs_eq _
 have hcaps:(vc hb gap up hs).caps=[.ptr (2+(scL up+gap.length+2)) 1 0 0,.ptr (2+(scL up+gap.length+2)+1) 1 0 0]:=rfl
 have hI:∀n m,(vc hb gap up hs).I (m,n)=RH b0 n (⟨gap,m⟩::up)++[.row 1 [[.ptr 1 1 0 0]],.row 1 [[.ptr (2+scL up+gap.length+1) 2 0 0]]]:=fun _ _=>rfl
 have hA:=FH G hb n gap m up (hs m) hm [.int .i64 o,.str nme,exL a,smL bd,smL el] rfl a hz
 have hIA:(xK hb n (⟨gap,m⟩::up) [.int .i64 o,.str nme,exL a,smL bd,smL el] (hs m)).I ()=RH b0 n (⟨gap,m⟩::up)++[.row 1 [[.ptr 1 1 0 0]],.row 1 [[.ptr (2+scL up+gap.length+1) 2 0 0]],.row 5 [[.p (.int .i64 o),.p (.str nme),.p (exL a),.p (smL bd),.p (smL el)]],.row 5 [[.p (.int .i64 0),.p (.str []),.nils,.nils,.nils]]]:=rfl
 rw[hIA,uV] at hA
 have hlen:∀n m,(RH b0 n (⟨gap,m⟩::up)).length=2+(scL up+gap.length+2):=fun n m=>by rw[jt b0];rfl
 have hgS:(irG (sco up) (m,n) ⟨o,nme,a,bd,el⟩).2=(opS o nme m n,(cW el [] (opS o nme m n::sco up) (cW bd [] (opS o nme m n::sco up) (if o=1 then n+1 else n)).2.2).2.2):=rfl
 have hg1:(irG (sco up) (m,n) ⟨o,nme,a,bd,el⟩).1.cs=[.int .i64 o,.str (if o=1 then vnm n else if o=2 then irN (m::sco up) nme else nme),exL (qz (m::sco up) a),smL (cW bd [] (opS o nme m n::sco up) (if o=1 then n+1 else n)).1,smL (cW el [] (opS o nme m n::sco up) (cW bd [] (opS o nme m n::sco up) (if o=1 then n+1 else n)).2.2).1]:=by
  show(irS ⟨o,nme,a,bd,el⟩ m (sco up) n).1.cs=_
  rw[DL,Sm.cs_eq];rfl
 rw[hgS,hg1,hcaps,hI,hI,hse]
 have hfind:=fun rest=>zS G b0 n (⟨gap,m⟩::up) rest nme
 have hbind:=fun(hn:n<26) rest=>CX G b0 gap m up nme n hn rest
 have hup:∀m,upV (⟨gap,m⟩::up)= .ptr (2+scL up+gap.length+1) 2 0 0:=fun _=>rfl
 simp only[hup] at hfind hbind
 have hblk:∀(l':List Sm) (hl:zj G b0 l') (n2:Nat) (m2:Scp) (gap2:List AO),Sml (m2::sco up)→n2+cy l'≤26→(∀o∈gap2,okO (2+(scL up+gap.length+2)+gap2.length) o)→
  AC Tryz.prog G aR [.ptr 1 1 0 0,.p (smL l'),.ptr (2+(scL up+gap.length+2)+gap2.length+1) 2 0 0] (RH b0 n2 (⟨gap,m2⟩::up)++(gap2++[.mp [],.row 2 [[.mp (2+(scL up+gap.length+2)+gap2.length),.ptr (2+scL up+gap.length+1) 2 0 0]]]))
   (fun x h=>HB h∧(∀v,x= .ret v→below h.length v)∧∃m',Mk one true [smL (cW l' [] (m2::sco up) n2).1] (RH b0 (cW l' [] (m2::sco up) n2).2.2 (⟨gap,m2⟩::up)++(gap2++[.mp (mpE m'),.row 2 [[.mp (2+(scL up+gap.length+2)+gap2.length),.ptr (2+scL up+gap.length+1) 2 0 0]]])) x h):=by
  intro l' hl n2 m2 gap2 h1 h2 h3
  have e2:∀n m',RH b0 n (⟨gap2,m'⟩::⟨gap,m2⟩::up)=RH b0 n (⟨gap,m2⟩::up)++(gap2++[.mp (mpE m'),.row 2 [[.mp (2+(scL up+gap.length+2)+gap2.length),.ptr (2+scL up+gap.length+1) 2 0 0]]]):=by
   intro n m'
   simp[RH,scH,upV,scL]
  have:=hl gap2 [] (⟨gap,m2⟩::up) n2 (fun _=>⟨h3,hs m2⟩) h1.open h2
  rw[e2] at this
  refine this.known.mono ?_
  rintro x h ⟨hx,hbb,hv,_⟩
  rw[e2] at hx
  exact⟨hbb,hv,(cW l' [] (sco (⟨gap,m2⟩::up)) n2).2.1,hx⟩
 have hmO:Sml (opS o nme m n::sco up):=hm.opS o nme (fun h1=>by rw[jQ,if_pos h1] at hc;omega)
 have hcb:(if o=1 then n+1 else n)+cy bd+cy el≤26:=by
  rw[jQ] at hc
  split<;>rename_i h1
  ·rw[if_pos h1] at hc;omega
  ·rw[if_neg h1] at hc;omega
 have hn26:o=1→n<26:=fun h1=>by rw[jQ,if_pos h1] at hc;omega
 generalize hK:2+scL up+gap.length=K at*
 have hKL:2+(scL up+gap.length+2)=K+2:=by omega
 rw[hKL] at hA hlen hblk⊢
 simp-implicitDefEqProofs[K_impl_renamer_block_1,F_impl_renamer_block_1,hlen]
 refine hA.known.mono ?_
 rintro r h ⟨⟨vs,I1,os1,rfl,rfl,ho1,nd1,hf1⟩,hb1,hv1,_⟩
 obtain⟨KA,rfl⟩:=aS ho1
 obtain⟨c1,c2⟩:=bz ho1
 simp-implicitDefEqProofs[-AV.cells,-AV.isCell,cT,aD,aQ,cV,aE,c1,c2,aa,hlen,one]
 generalize hmO':opS o nme m n=m2 at hmO hfind⊢
 have hsame:∀(nm:List UInt8) (n2:Nat) (r1:List (Nat × AV)),Aw.look r1 1= .ptr (K+2) 1 0 0→Aw.look r1 2= .ptr (K+2+1) 1 0 0→Aw.look r1 3= .ptr (K+2+2) 5 0 0→Aw.look r1 4= .ptr (K+2+3) 5 0 0→
  Wk (K+2+2) (aj 50 r1) (RH b0 n2 (⟨gap,m2⟩::up)++ .row 1 [[.ptr 1 1 0 0]]:: .row 1 [[.ptr (K+1) 2 0 0]]:: .row 5 [[.p (.int .i64 o),.p (.str nm),KA,.p (smL bd),.p (smL el)]]:: .row 5 [[.p (.int .i64 0),.p (.str []),.nils,.nils,.nils]]::os1)
   (aj 50 [(1,.ptr (K+2) 1 0 0),(2,.ptr (K+2+1) 1 0 0),(3,.ptr (K+2+2) 5 0 0),(4,.ptr (K+2+3) 5 0 0)]) (RH b0 n2 (⟨gap,m2⟩::up)++ .row 1 [[.ptr 1 1 0 0]]:: .row 1 [[.ptr (K+1) 2 0 0]]:: .row 5 [[.p (.int .i64 o),.p (.str nm),KA,.p (smL bd),.p (smL el)]]:: .row 5 [[.p (.int .i64 0),.p (.str []),.nils,.nils,.nils]]::os1):=by
  intro nm n2 r1 e1 e2 e3 e4
  refine aP (by simp[hlen]) (by simp[below,e1,e2,e3,e4,hlen])
 refine kH (aj 50 [(1,.ptr (K+2) 1 0 0),(2,.ptr (K+2+1) 1 0 0),(3,.ptr (K+2+2) 5 0 0),(4,.ptr (K+2+3) 5 0 0)]) (RH b0 (if o=1 then n+1 else n) (⟨gap,m2⟩::up)++ .row 1 [[.ptr 1 1 0 0]]:: .row 1 [[.ptr (K+1) 2 0 0]]:: .row 5 [[.p (.int .i64 o),.p (.str (if o=1 then vnm n else if o=2 then irN (m::sco up) nme else nme)),KA,.p (smL bd),.p (smL el)]]:: .row 5 [[.p (.int .i64 0),.p (.str []),.nils,.nils,.nils]]::os1) ?_ ?_
 ·by_cases o1:o=1
  ·subst o1
   have e:m2=eb m nme n:=by rw[←hmO'];exact if_pos rfl
   subst e
   simp-implicitDefEqProofs[hlen]
   refine(hbind (hn26 rfl) _).mono ?_
   rintro r h ⟨rfl,rfl⟩
   simp-implicitDefEqProofs[aa,hlen]
   exact hsame _ _ _ (by simp) (by simp) (by simp) (by simp)
  have e:m2=m:=by rw[←hmO'];exact if_neg o1
  subst e
  by_cases o2:o=2
  ·subst o2
   have hD:=hm.getD nme
   have hirn:irN (m2::sco up) nme=vnm ((dL (m2::sco up) nme).getD 0):=rfl
   rw[hirn]
   simp-implicitDefEqProofs[hlen]
   refine(hfind _).mono ?_
   rintro r h ⟨rfl,rfl⟩
   simp-implicitDefEqProofs[aa,hlen]
   refine(vp G _ hD _ _).mono ?_
   rintro r h ⟨rfl,rfl⟩
   simp-implicitDefEqProofs[aa,hlen]
   exact hsame _ _ _ (by simp) (by simp) (by simp) (by simp)
  ·simp-implicitDefEqProofs[o1,o2,hlen]
   exact hsame _ _ _ (by simp) (by simp) (by simp) (by simp)
 generalize (if o=1 then vnm n else if o=2 then irN (m::sco up) nme else nme)=nm at*
 generalize (if o=1 then n+1 else n)=n2 at*
 have hb2:=wT bd [] (m2::sco up) n2
 simp-implicitDefEqProofs[hlen]
 refine(lP G (.ptr (K+1) 2 0 0) (.inr ⟨_,rfl⟩) _).mono ?_
 rintro r h ⟨rfl,rfl⟩
 simp-implicitDefEqProofs[aa,hlen]
 have hv1:=hv1 KA rfl
 have hN1:(RH b0 n (⟨gap,m⟩::up)++[AO.row 1 [[.ptr 1 1 0 0]],.row 1 [[.ptr (K+1) 2 0 0]],.row 5 [[.p (.int .i64 o),.p (.str nme),.p (exL a),.p (smL bd),.p (smL el)]],.row 5 [[.p (.int .i64 0),.p (.str []),.nils,.nils,.nils]]]++os1).length=K+2+(os1.length+4):=by
  simp[hlen]
 have hk1:=FU hb1
 rw[hN1] at hk1 hv1
 have okg:∀(b' e':AV) (M:Nat),K+2+(os1.length+4)≤M→below M b'→below M e'→∀x∈[AO.row 1 [[.ptr 1 1 0 0]],.row 1 [[.ptr (K+1) 2 0 0]],.row 5 [[.p (.int .i64 o),.p (.str nm),KA,b',e']],.row 5 [[.p (.int .i64 0),.p (.str []),.nils,.nils,.nils]]],okO M x:=by
  intro b' e' M hM hb' he'
  refine ae (by intro x hx;rw[List.mem_singleton.1 hx];exact⟨by simp only[below];omega,trivial⟩) (ae (by intro x hx;rw[List.mem_singleton.1 hx];exact⟨by simp only[below];omega,trivial⟩) (ae ?_ (ae (cM (by simp[okO])) dS)))
  intro x hx;rw[List.mem_singleton.1 hx];exact⟨by simp,by simp,(au hM [KA] ⟨hv1,trivial⟩).1,hb',he',trivial⟩
 refine(hblk bd ib n2 m2 (.row 1 [[.ptr 1 1 0 0]]:: .row 1 [[.ptr (K+1) 2 0 0]]:: .row 5 [[.p (.int .i64 o),.p (.str nm),KA,.p (smL bd),.p (smL el)]]:: .row 5 [[.p (.int .i64 0),.p (.str []),.nils,.nils,.nils]]::os1) hmO (by omega) ?_).mono ?_
 ·intro x hx
  rcases List.mem_append.1 (show x∈[AO.row 1 [[.ptr 1 1 0 0]],.row 1 [[.ptr (K+1) 2 0 0]],.row 5 [[.p (.int .i64 o),.p (.str nm),KA,.p (smL bd),.p (smL el)]],.row 5 [[.p (.int .i64 0),.p (.str []),.nils,.nils,.nils]]]++os1 from hx) with h|h
  ·exact okg _ _ _ (Nat.le_refl _) (by simp) (by simp) x h
  ·exact hk1 x (List.mem_append_right _ h)
 rintro r h ⟨hb2',hv2,m3,vs2,I2,os2,rfl,rfl,ho2,nd2,hf2⟩
 obtain⟨KB,rfl⟩:=aS ho2
 obtain⟨c3,c4⟩:=bz ho2
 have hv2:=hv2 KB rfl
 simp-implicitDefEqProofs[-AV.cells,-AV.isCell,cT,aD,aQ,cV,aE,sF,rD,c1,c2,c3,c4,aa,hlen,one]
 refine(lP G (.ptr (K+1) 2 0 0) (.inr ⟨_,rfl⟩) _).mono ?_
 rintro r h ⟨rfl,rfl⟩
 simp-implicitDefEqProofs[aa,hlen]
 have hN2:(RH b0 (cW bd [] (m2::sco up) n2).2.2 (⟨gap,m2⟩::up)++((AO.row 1 [[.ptr 1 1 0 0]]:: .row 1 [[.ptr (K+1) 2 0 0]]:: .row 5 [[.p (.int .i64 o),.p (.str nm),KA,.p (smL bd),.p (smL el)]]:: .row 5 [[.p (.int .i64 0),.p (.str []),.nils,.nils,.nils]]::os1)++[AO.mp (mpE m3),AO.row 2 [[.mp (K+2+(os1.length+4)),.ptr (K+1) 2 0 0]]])++os2).length=K+2+(os1.length+(os2.length+2)+4):=by
  simp[hlen]<;>omega
 have hk2:=FU hb2'
 have hg2:∀t:List AO,(AO.row 1 [[.ptr 1 1 0 0]]:: .row 1 [[.ptr (K+1) 2 0 0]]:: .row 5 [[.p (.int .i64 o),.p (.str nm),KA,.p (smL bd),.p (smL el)]]:: .row 5 [[.p (.int .i64 0),.p (.str []),.nils,.nils,.nils]]::t).length=t.length+4:=fun _=>rfl
 rw[hg2] at hk2 hv2 hf2 ho2
 rw[hN2] at hk2 hv2
 have hok3:∀x∈(AO.row 1 [[.ptr 1 1 0 0]]:: .row 1 [[.ptr (K+1) 2 0 0]]:: .row 5 [[.p (.int .i64 o),.p (.str nm),KA,KB,.p (smL el)]]:: .row 5 [[.p (.int .i64 0),.p (.str []),.nils,.nils,.nils]]::(os1++ .mp (mpE m3):: .row 2 [[.mp (K+2+(os1.length+4)),.ptr (K+1) 2 0 0]]::os2)),okO (K+2+(os1.length+(os2.length+2)+4)) x:=by
  intro x hx
  rcases List.mem_append.1 (show x∈[AO.row 1 [[.ptr 1 1 0 0]],.row 1 [[.ptr (K+1) 2 0 0]],.row 5 [[.p (.int .i64 o),.p (.str nm),KA,KB,.p (smL el)]],.row 5 [[.p (.int .i64 0),.p (.str []),.nils,.nils,.nils]]]++(os1++ .mp (mpE m3):: .row 2 [[.mp (K+2+(os1.length+4)),.ptr (K+1) 2 0 0]]::os2) from hx) with h|h
  ·exact okg _ _ _ (by omega) hv2 (by simp) x h
  ·refine hk2 x ?_
   simp only[List.mem_append,List.mem_cons] at h⊢
   rcases h with h|h|h|h
   ·exact .inl (.inr (.inl (.inr (.inr (.inr (.inr h))))))
   ·exact .inl (.inr (.inr (.inl h)))
   ·exact .inl (.inr (.inr (.inr (.inl h))))
   ·exact .inr h
 have h3:=hblk el ie (cW bd [] (m2::sco up) n2).2.2 m2 (.row 1 [[.ptr 1 1 0 0]]:: .row 1 [[.ptr (K+1) 2 0 0]]:: .row 5 [[.p (.int .i64 o),.p (.str nm),KA,KB,.p (smL el)]]:: .row 5 [[.p (.int .i64 0),.p (.str []),.nils,.nils,.nils]]::(os1++ .mp (mpE m3):: .row 2 [[.mp (K+2+(os1.length+4)),.ptr (K+1) 2 0 0]]::os2)) hmO (by omega) (by
  intro x hx
  have:=hok3 x hx
  simp only[List.length_cons,List.length_append]
  exact this)
 simp only[List.length_cons,List.length_append,List.cons_append,List.append_assoc] at h3
 refine h3.mono ?_
 rintro r h ⟨_,_,m4,vs3,I3,os3,rfl,rfl,ho3,nd3,hf3⟩
 obtain⟨KE,rfl⟩:=aS ho3
 obtain⟨c5,c6⟩:=bz ho3
 simp-implicitDefEqProofs[-AV.cells,-AV.isCell,cT,aD,aQ,cV,aE,sF,rD,c1,c2,c3,c4,c5,c6,aa,hlen,one]
 exact FP o nm ho1 ho2 ho3 nd1 nd2 nd3 hf1 hf2 hf3 (by simp[hlen]) (by simp[hlen];omega) (by simp[hlen];omega)
theorem DR{b0:AO}(hb:okO 0 b0):∀(N:Nat) (l:List Sm),aG l<N→aG l≤1073741824→zj G b0 l:=by
 intro N
 induction N with
 |zero=>intro l h;omega
 |succ N ih=>
  intro l hl hz gap m up n hs hm hc
  have hll:=br l
  have hup:upV (⟨gap,m⟩::up)= .ptr (2+scL up+gap.length+1) 2 0 0:=rfl
  have hlen:∀n m,(RH b0 n (⟨gap,m⟩::up)).length=2+(scL up+gap.length+2):=fun n m=>by rw[jt b0];rfl
  have hM:=Bh G (vc hb gap up hs) (irG (sco up)) (fun i st=>Sml (st.1::sco up)∧st.2+cy (l.drop i)≤26) l (by omega) (fun i st hi hv=>?_) (m,n) ⟨hm,by simpa using hc⟩
  ·rw[zg] at hM
   refine AC.go mm ?_
   have hcaps:(vc hb gap up hs).caps=[.ptr (2+(scL up+gap.length+2)) 1 0 0,.ptr (2+(scL up+gap.length+2)+1) 1 0 0]:=rfl
   have hF:(vc hb gap up hs).F=bq:=rfl
   have hI:∀n m,(vc hb gap up hs).I (m,n)=RH b0 n (⟨gap,m⟩::up)++[.row 1 [[.ptr 1 1 0 0]],.row 1 [[.ptr (2+scL up+gap.length+1) 2 0 0]]]:=fun _ _=>rfl
   rw[hcaps,hF,hI,hI] at hM
   simp-implicitDefEqProofs[gH,hlen]
   refine hM.mono ?_
   rintro r h ⟨vs,I,os,rfl,rfl,ho,nd,hf⟩
   obtain⟨K,rfl⟩:=aS ho
   simp-implicitDefEqProofs[aa,hlen,one]
   exact xS (w:=one) (C1:=[_,_]) ho nd hf (by simp[hlen])
  ·obtain⟨h1,h2⟩:=hv
   have hat:=BP hi
   have hks:=aV (List.getElem_mem hi)
   obtain⟨mi,ni⟩:=st
   simp only at h1 h2
   generalize l[i]=s at hat hks
   have hcs:=zx s mi (sco up) ni
   obtain⟨o,nme,a,bd,el⟩:=s
   rw[Sm.sz] at hks
   refine⟨⟨?_,?_⟩,?_⟩
   ·show Sml ((irS _ mi (sco up) ni).2.1::sco up)
    rw[hcs.2]
    exact h1.opS _ _ (fun ho=>by
     have ho':o=1:=ho
     rw[jQ,if_pos ho'] at hat;omega)
   ·show(irS _ mi (sco up) ni).2.2+_≤26
    rw[hcs.1];omega
   ·exact GD G hb (by omega) (ih bd (by omega) (by omega)) (ih el (by omega) (by omega)) gap mi up ni hs h1 (by omega)
end Go.Proofs.YtnjbhgpbgmpkcaaGreatDoor
namespace Go.Proofs.YtnjbhgpbgmpkcaaGreatDoor
open Go Go.Aw
set_option maxRecDepth 100000
theorem qE(fns:List Fd):∀(l:List Fd) (k:Nat),fN fns k l=0↔∀(i:Nat) (f:Fd),l[i]?=some f→(fnW fns (k+i) f).code=0
 |[],k=>by simp[fN]
 |f::r,k=>by
  rw[fN]
  have ih:=qE fns r (k+1)
  constructor
  ·intro h i g hg
   by_cases h0:(fnW fns k f).code=0
   ·rw[if_pos h0] at h
    cases i with
    |zero=>cases hg;exact h0
    |succ i=>have:=ih.1 h i g (by simpa using hg);rwa[show k+(i+1)=k+1+i by omega]
   ·rw[if_neg h0] at h;exact absurd h h0
  ·intro h
   rw[if_pos (by have:=h 0 f rfl;rwa[Nat.add_zero] at this)]
   exact ih.2 fun i g hg=>by have:=h (i+1) g (by simpa using hg);rwa[show k+(i+1)=k+1+i by omega] at this
theorem zP(l:List Fd):cZ l=0↔ce l=true∧∀(k:Nat) (f:Fd),l[k]?=some f→(fnW l k f).code=0:=by
 unfold cZ
 by_cases h:ce l=true
 ·rw[if_pos h,qE];simp[h]
 ·rw[if_neg h];simp[h]
theorem yr(l:List Fd):ce l=true↔(1≤l.length∧l.length≤4)∧(∀f∈l,il f=true)∧ia l≤40:=by
 simp only[ce,inR,Bool.and_eq_true,decide_eq_true_eq,List.all_eq_true]
 constructor
 ·rintro⟨⟨⟨h1,h2⟩,h3⟩,h4⟩;exact⟨⟨by omega,by omega⟩,h3,h4⟩
 ·rintro⟨⟨h1,h2⟩,h3,h4⟩;exact⟨⟨⟨by omega,by omega⟩,h3⟩,h4⟩
def Fd.cut(f:Fd)(n:Nat):Fd:=⟨f.name,f.params,f.body.take n⟩
end Go.Proofs.YtnjbhgpbgmpkcaaGreatDoor
namespace Go.Proofs.YtnjbhgpbgmpkcaaGreatDoor
open Go Go.Aw
set_option maxRecDepth 100000
set_option maxHeartbeats 4000000
def kG(l:List Fd):Nat→List Fd
 |0=>[]
 |i+1=>kG l i++(match l[i]? with|some f=>[rnF l i f]|none=>[])
def pw(l:List Fd):Bool:=l.all fun f=>decide (mg f≤26)
def gF(l:List Fd):Bool:=decide (cZ l=0)&&pw l
def jv(l:List Fd):List Fd:=if gF l=true then l.map irF else[]
theorem xp(l:List Fd):∀i,i≤l.length→(kG l i).length=i
 |0,_=>rfl
 |i+1,h=>by
  have hg:=List.getElem?_eq_getElem (show i<l.length by omega)
  rw[kG,List.length_append,xp l i (by omega),hg];rfl
theorem zL{l:List Fd}(h:cZ l=0):∀i,i≤l.length→kG l i=(l.take i).map irF
 |0,_=>by simp[kG]
 |i+1,hi=>by
  have hl:i<l.length:=by omega
  have hg:=List.getElem?_eq_getElem hl
  rw[kG,zL h i (by omega),hg,al hl,List.map_append]
  simp only
  rw[Gt l i l[i] (((zP l).1 h).2 i l[i] hg)];rfl
variable (G:aA)
theorem rj(l:List Fd)(hz:bm l≤1073741824):VF Tryz.prog G cB [.agg [.p (fdL l)]] (.tup [.agg [.p (fdL (jv l))],.p (.bool (gF l))]):=by
 have hll:=cK l
 have hfl:∀l,fdL l= .lst 3 (l.map Fd.cs):=fun _=>rfl
 have key:AC Tryz.prog G cB [.agg [.p (fdL l)]] [] fun x h=>∃v,x= .ret (.tup [.agg [v],.p (.bool (gF l))])∧View h v (fdL (jv l)):=by
  refine AC.go lB ?_
  simp-implicitDefEqProofs[gJ]
  refine(Ea G l hz).use ?_
  by_cases h0:cZ l=0
  case neg=>
   have hr:gF l=false:=by simp[gF,h0]
   have hp:jv l=[]:=by simp[jv,hr]
   rw[hr,hp]
   simp-implicitDefEqProofs[h0]
   exact .nils 3
  have hro:gF l=pw l:=by simp[gF,h0]
  have hrp:jv l=if pw l=true then l.map irF else[]:=by rw[jv,hro]
  rw[hro,hrp]
  simp-implicitDefEqProofs[h0]
  have hE:∀i,okO 0 (qr 3 (nn (kG l i))):=fun i=>IC (uk _)
  have hok:∀i,∀o∈[AO.row 1 [[.p (fdL l)]],.row 1 [[.nils]],.row 1 [[slE 3 3 (nn (kG l i))]],qr 3 (nn (kG l i))],okO 4 o:=fun i=>
   ae (by simp[okO,below]) (ae (by simp[okO,below]) (ae (by intro e he;rw[List.mem_singleton.1 he];exact⟨Ep (by omega),trivial⟩) (ae (cM (hE i)) dS)))
  refine az (fun i:Nat=>aj 38 [(1,.ptr 0 1 0 0),(2,.ptr 1 1 0 0),(4,.ptr 2 1 0 0),(5,.p (.int .i64 i))]) (fun i=>[.row 1 [[.p (fdL l)]],.row 1 [[.nils]],.row 1 [[slE 3 3 (nn (kG l i))]],qr 3 (nn (kG l i))]) (fun i=>i≤l.length∧∀f∈l.take i,mg f≤26) (fun i=>l.length-i) 0 (by simp) ?_ ?_
  ·have e1:slE 3 3 (nn (kG l 0))= .nils:=rfl
   have e2:qr 3 (nn (kG l 0))= .dead:=rfl
   rw[e1,e2]
   exact rQ (h:=[AO.row 1 [[.p (fdL l)]],.row 1 [[.nils]],.row 1 [[.nils]]]) (by simp) (by simp) (by simp[okO,below]) (by simp[below])
  rintro i ⟨hi,hf⟩
  simp-implicitDefEqProofs[hfl]
  refine bh (fun h=>?_) (fun h=>?_)
  ·simp at h
   have hg:=List.getElem?_eq_getElem h
   have hT:kG l (i+1)=kG l i++[rnF l i l[i]]:=by rw[kG,hg]
   have hol:=xp l i (by omega)
   have hmem:=List.getElem_mem h
   have htk:=al h
   generalize l[i]=f at hg hT hmem htk
   have hcw:=Ba l i f
   have hrc:=yB l i f
   have hrl:(nn (kG l i)).length=i:=by simp[nn,hol]
   generalize kG l i=out at hT hol hrl
   simp-implicitDefEqProofs[]
   refine(Cb G hg hz).use ?_
   have hvn:(fnW l i f).count=mg f:=hcw
   by_cases h26:mg f≤26
   case neg=>
    have hfw:pw l=false:=by
     cases e:pw l with
     |false=>rfl
     |true=>
      rw[pw,List.all_eq_true] at e
      have:=e f hmem
      exact absurd (by simpa using this) h26
    have h26':(26:Int)<(mg f:Int):=by omega
    rw[hfw]
    simp-implicitDefEqProofs[hrc,hvn,h26']
    exact .nils 3
   have h26':¬(26:Int)<(mg f:Int):=by omega
   simp-implicitDefEqProofs[hrc,hvn,h26']
   refine⟨by omega,i+1,⟨h,fun g hgm=>?_⟩,by omega,?_⟩
   ·rw[htk] at hgm
    rcases List.mem_append.1 hgm with h|h
    ·exact hf g h
    ·rw[List.mem_singleton.1 h];exact h26
   ·rw[hT]
    have hR:nn (out++[rnF l i f])=nn out++[[.p (.str f.name),.p (ay (kx f.params (w0 l i f))),.p (smL (eU l i 0 f.body (bX f.params (w0 l i f))))]]:=by
     rw[nn,List.map_append,List.map_singleton,hrc];rfl
    rw[hR,FG _ (by simp),Ee _ (by simp)]
    refine eC [0,1,2,6] rfl (by decide) (bH rfl (by simp) (bH rfl (by simp) (kC (es:=[[.sl 3 3 0 ((nn out).length+1)]]) (by simp[below]) (by simp[ren,bn]) (bH rfl (fun x hx=>?_) cQ)))) (by simp[below,ren,hfl,w1 (i:=i) (by omega)])
    rcases List.mem_append.1 hx with h|h
    ·exact uk _ x h
    ·rw[List.mem_singleton.1 h];simp
  ·simp at h
   have hie:i=l.length:=by omega
   subst hie
   rw[List.take_length] at hf
   have hfw:pw l=true:=by
    rw[pw,List.all_eq_true];exact fun f hm=>by simpa using hf f hm
   have hmm:kG l l.length=l.map irF:=by rw[zL h0 _ (Nat.le_refl _),List.take_length]
   rw[hfw,if_pos rfl,hmm]
   simp-implicitDefEqProofs[]
   have hh:nn (l.map irF)=((l.map irF).map Fd.cs).map (·.map .p):=by simp[nn]
   rw[hh]
   have:=Ha (h:=[AO.row 1 [[AV.p (PV.lst 3 (List.map Fd.cs l))]],AO.row 1 [[slE 3 3 (((l.map irF).map Fd.cs).map (·.map .p))]],AO.row 1 [[slE 3 3 (((l.map irF).map Fd.cs).map (·.map .p))]],qr 3 (((l.map irF).map Fd.cs).map (·.map .p))]) (id:=3) (sz:=3) (ls:=(l.map irF).map Fd.cs) rfl (fun x hx=>by obtain⟨b,_,rfl⟩:=List.mem_map.1 hx;rfl)
   rw[List.map_map (l:=l)] at this
   simpa using this
 refine key.freezeR (fun t v h ⟨_,e,_⟩=>by cases e) fun v h ⟨u,e1,e2⟩=>?_
 cases e1
 exact .tup (.agg (.one e2 .nil) (.keep (by simp) .nil)) .nil
end Go.Proofs.YtnjbhgpbgmpkcaaGreatDoor
namespace Go.Proofs.YtnjbhgpbgmpkcaaGreatDoor
open Go Go.Aw
set_option maxRecDepth 100000
set_option maxHeartbeats 4000000
variable (G:aA)
theorem Jm{f:FuncId}{args args0:List AV}{b0 o0:AO}{n n':Nat}{m m':Scp}{v:AV}(H:AC Tryz.prog G f args0 (RH b0 n [⟨[],m⟩]) fun x h=>x= .ret v∧h=RH b0 n' [⟨[],m'⟩])(hb:okO 0 b0)(hv:below 0 v)(hT:TW [1,2,3,4] args args0)(rest:List AO):
 AC Tryz.prog G f args (o0::b0::rO n:: .mp (mpE m):: .row 2 [[.mp 3,.nilp]]::rest) fun x h=>x= .ret v∧h=o0::b0::rO n':: .mp (mpE m'):: .row 2 [[.mp 3,.nilp]]::rest:=by
 have hRH:∀n m,RH b0 n [⟨[],m⟩]=[b0,rO n,.mp (mpE m),.row 2 [[.mp 2,.nilp]]]:=fun _ _=>rfl
 rw[hRH,hRH] at H
 have hmp:∀m:Scp,∀σ:List Nat,(mpE m).map (fun x=>(x.1,ren σ x.2))=mpE m:=fun m σ=>by
  rw[mpE,List.map_map];rfl
 have hren:∀σ,ren σ v=v:=fun σ=>by
  have:=gf σ [v] ⟨hv,trivial⟩
  simpa[bn] using this
 have hrb:∀σ,dC σ b0=b0:=fun σ=>oy (n:=0) (fun i hi=>by omega) b0 hb
 have hrr:∀(σ:List Nat) (n:Nat),dC σ (rO n)=rO n:=fun σ n=>by simp[rO,dC,bn,ren]
 have hrm:∀(σ:List Nat) (m:Scp),dC σ (.mp (mpE m))= .mp (mpE m):=fun σ m=>by rw[dC,hmp]
 refine(H.frame [1,2,3,4] (by decide) hT ?_).mono ?_
 ·refine kV rfl hb (kV rfl (by intro e he;rw[List.mem_singleton.1 he];simp[below]) ?_)
  refine⟨by simp,⟨fun x hx=>by obtain⟨y,_,rfl⟩:=List.mem_map.1 hx;simp[below],?_⟩,kC (es:=[[.mp 2,.nilp]]) (by simp[below]) ?_ cQ⟩
  ·rw[hmp];rfl
  ·simp[ren,bn]
 ·rintro x h' ⟨x0,h0,⟨rfl,rfl⟩,_,rfl,rfl⟩
  refine⟨by rw[uH,hren],?_⟩
  simp only[List.length_cons,List.length_nil,Nat.sub_self,List.range'_zero,List.append_nil,List.take_succ_cons,List.take_zero,List.map_cons,List.map_nil,List.drop_succ_cons,List.drop_zero,hrb,hrr,hrm,mrg]
  simp[dC,bn,ren]
def zF:AO:= .row 3 [[.p (.str []),.nils,.nils]]
def pG(st:Scp × Nat)(s:List UInt8):List UInt8 × (Scp × Nat):=(vnm st.2,(eb st.1 s st.2,st.2+1))
theorem zq:∀(ps:List (List UInt8)) (m:Scp) (n:Nat),cw pG (m,n) ps=((eL ps m n).1,((eL ps m n).2.1,(eL ps m n).2.2))
 |[],m,n=>rfl
 |s::r,m,n=>by
  rw[cw,eL]
  have:=zq r (eb m s n) (n+1)
  simp only[pG] at this⊢
  rw[this]
theorem xC:∀(ps:List (List UInt8)) (m:Scp) (n:Nat),(eL ps m n).2.2=n+ps.length
 |[],m,n=>rfl
 |s::r,m,n=>by rw[eL];simp only;rw[xC r];simp only[List.length_cons];omega
theorem vZ:∀(ps:List (List UInt8)) (m:Scp) (n:Nat),n+ps.length≤26→Sml [m]→Sml [(eL ps m n).2.1]
 |[],m,n,_,h=>h
 |s::r,m,n,hn,h=>by
  rw[List.length_cons] at hn
  rw[eL]
  exact vZ r (eb m s n) (n+1) (by omega) (h.set s (by omega))
theorem Sml.base:Sml [[]]:=fun s n e=>by simp[dL,ga] at e
def AD(f:List AV)(hf:ah 0 f):Vis (Scp × Nat) where
 I:=fun st=>[.row 3 [f],zF,rO st.2,.mp (mpE st.1),.row 2 [[.mp 3,.nilp]],.row 1 [[.ptr 2 1 0 0]],.row 1 [[.ptr 4 2 0 0]]]
 n:=7
 F:=bL
 caps:=[.ptr 5 1 0 0,.ptr 6 1 0 0]
 len:=fun _=>rfl
 ok:=fun st=>ae (by intro e he;rw[List.mem_singleton.1 he];exact au (Nat.zero_le _) _ hf) (ae (cM (by simp[zF,okO,below])) (ae (cM (by simp[rO,okO,below])) (ae (ue _ _) (ae (by simp[okO,below]) (ae (by simp[okO,below]) (ae (by simp[okO,below]) dS))))))
 capsOk:=by simp[below]
theorem wF(F:FuncId)(l:List Fd)(q:Fd→Bool)(hb:l.length≤1099511627776)(H:∀x∈l,VF Tryz.prog G F [.agg (x.cs.map .p)] (.p (.bool (q x)))):VF Tryz.prog G bP [.p (fdL l),.fn (.func F) []] (.p (.bool (l.any q))):=by
 have hfl:∀l,fdL l= .lst 3 (l.map Fd.cs):=fun _=>rfl
 have idx:VF Tryz.prog G aX [.p (fdL l),.fn (.func F) []] (.p (.int .i64 (ixI (l.findIdx? q)))):=by
  refine AC.go dJ ?_
  simp-implicitDefEqProofs[cr,hfl]
  refine az (fun i:Nat=>aj 19 [(0,.p (fdL l)),(1,.fn (.func F) []),(7,.p (.int .i64 l.length)),(8,.p (.int .i64 i))]) (fun _=>[]) (fun i=>i≤l.length∧∀f∈l.take i,q f=false) (fun i=>l.length-i) 0 (by simp) (aC rfl (by simp[below,ah,hfl])) ?_
  intro i ⟨hi,hn⟩
  simp-implicitDefEqProofs[hfl]
  refine bh (fun h1=>?_) (fun h1=>?_)
  ·simp at h1
   have hg:=List.getElem?_eq_getElem h1
   have hh:=H l[i] (List.getElem_mem h1)
   have hcs:=l[i].cs_eq'
   rw[hcs] at hh
   simp-implicitDefEqProofs[hg,hcs]
   refine hh.use ?_
   cases he:q l[i] with
   |true=>
    have hf:l.findIdx? q=some i:=by
     rw[List.findIdx?_eq_some_iff_getElem]
     exact⟨h1,he,fun j hj=>by have:=hn l[j] (List.mem_take_iff_getElem.2 ⟨j,by omega,rfl⟩);simp[this]⟩
    simp-implicitDefEqProofs[hf,ixI]
   |false=>
    simp-implicitDefEqProofs[]
    refine⟨i+1,⟨h1,fun p hp=>?_⟩,by omega,aC rfl (by simp[below,ah,hfl,w1 (i:=i) (by omega)])⟩
    rw[al h1] at hp
    rcases List.mem_append.1 hp with hp|hp
    ·exact hn p hp
    ·rw[List.mem_singleton.1 hp];exact he
  ·simp at h1
   rw[List.take_of_length_le h1] at hn
   have hf:l.findIdx? q=none:=by
    rw[List.findIdx?_eq_none_iff];exact hn
   simp-implicitDefEqProofs[hf,ixI]
 refine AC.go gE ?_
 simp-implicitDefEqProofs[cY]
 refine idx.use ?_
 cases hf:l.findIdx? q with
 |none=>
  have:l.any q=false:=by
   rw[List.findIdx?_eq_none_iff] at hf
   rw[List.any_eq_false];intro x hx;simp[hf x hx]
  rw[this]
  simp-implicitDefEqProofs[ixI]
 |some j=>
  have:l.any q=true:=by
   rw[List.findIdx?_eq_some_iff_getElem] at hf
   obtain⟨h1,h2,_⟩:=hf
   exact List.any_eq_true.2 ⟨_,List.getElem_mem h1,h2⟩
  rw[this]
  have hj:(0:Int)≤(j:Int):=by omega
  simp-implicitDefEqProofs[ixI,hj]
theorem EN(f:Fd)(hz:f.sz≤1073741824):VF Tryz.prog G cb [.agg (f.cs.map .p)] (.p (.bool (!decide (mg f≤26)))):=by
 have hfc:=f.cs_eq'
 have hvc:=xL G f hz
 rw[hfc] at hvc
 refine AC.go ku ?_
 simp-implicitDefEqProofs[fw,hfc]
 refine hvc.use ?_
 by_cases h:mg f≤26
 ·have h':¬(26:Int)<(mg f:Int):=by omega
  simp-implicitDefEqProofs[h,h']
 ·have h':(26:Int)<(mg f:Int):=by omega
  simp-implicitDefEqProofs[h,h']
def Em(l:List Fd):Vis Unit where
 I:=fun _=>[.row 1 [[.p (fdL l)]],.row 1 [[.nils]]]
 n:=2
 F:=bs
 caps:=[]
 len:=fun _=>rfl
 ok:=fun _=>by simp[okO,below]
 capsOk:=trivial
variable (hK:G fS=some fq) (hS:G dj=some [.tbl opK opV])
include hK hS
end Go.Proofs.YtnjbhgpbgmpkcaaGreatDoor
namespace Go.Proofs.YtnjbhgpbgmpkcaaGreatDoor
open Go Go.Aw
set_option maxRecDepth 100000
set_option maxHeartbeats 4000000
variable (G:aA)
theorem Gl{w:List AV→AV}{qs:List PV}(hw:Shp w){f:FuncId}{args args0:List AV}{b0 o0:AO}{n n':Nat}{m m':Scp}(H:AC Tryz.prog G f args0 (RH b0 n [⟨[],m⟩]) (Mk w true qs (RH b0 n' [⟨[],m'⟩])))(hb:okO 0 b0)(hT:TW [1,2,3,4] args args0)(rest:List AO):
 AC Tryz.prog G f args (o0::b0::rO n:: .mp (mpE m):: .row 2 [[.mp 3,.nilp]]::rest) (Mk w true qs (o0::b0::rO n':: .mp (mpE m'):: .row 2 [[.mp 3,.nilp]]::rest)):=by
 have hRH:∀n m,RH b0 n [⟨[],m⟩]=[b0,rO n,.mp (mpE m),.row 2 [[.mp 2,.nilp]]]:=fun _ _=>rfl
 rw[hRH,hRH] at H
 have hmp:∀m:Scp,∀σ:List Nat,(mpE m).map (fun x=>(x.1,ren σ x.2))=mpE m:=fun m σ=>by
  rw[mpE,List.map_map];rfl
 have hrb:∀σ,dC σ b0=b0:=fun σ=>oy (n:=0) (fun i hi=>by omega) b0 hb
 have hrr:∀(σ:List Nat) (n:Nat),dC σ (rO n)=rO n:=fun σ n=>by simp[rO,dC,bn,ren]
 have hrm:∀(σ:List Nat) (m:Scp),dC σ (.mp (mpE m))= .mp (mpE m):=fun σ m=>by rw[dC,hmp]
 refine(H.frame [1,2,3,4] (by decide) hT ?_).mono ?_
 ·refine kV rfl hb (kV rfl (by intro e he;rw[List.mem_singleton.1 he];simp[below]) ?_)
  refine⟨by simp,⟨fun x hx=>by obtain⟨y,_,rfl⟩:=List.mem_map.1 hx;simp[below],?_⟩,kC (es:=[[.mp 2,.nilp]]) (by simp[below]) ?_ cQ⟩
  ·rw[hmp];rfl
  ·simp[ren,bn]
 ·rintro x h' ⟨x0,h0,⟨vs,I,os,rfl,rfl,ho,nd,hf⟩,_,rfl,rfl⟩
  have hL:([b0,rO n',AO.mp (mpE m'),.row 2 [[.mp 2,.nilp]]]++os).length-[b0,rO n,AO.mp (mpE m),.row 2 [[.mp 2,.nilp]]].length=os.length:=by simp
  rw[hL]
  have hH:(o0::b0::rO n::AO.mp (mpE m):: .row 2 [[.mp 3,.nilp]]::rest).length=rest.length+5:=rfl
  rw[hH]
  have h2:([1,2,3,4]++List.range' (rest.length+5) os.length).getD 2 0=3:=rfl
  have hσ:∀j,j<os.length→([1,2,3,4]++List.range' (rest.length+5) os.length).getD (4+j) 0=rest.length+5+j:=fun j hj=>by
   rw[List.getD_eq_getElem?_getD,List.getElem?_append_right (by simp)]
   simp[hj]
  generalize [1,2,3,4]++List.range' (rest.length+5) os.length=σ at h2 hσ⊢
  rw[List.getD_eq_getElem?_getD] at h2
  have hrs:dC σ (.row 2 [[.mp 2,.nilp]])= .row 2 [[.mp 3,.nilp]]:=by simp[dC,bn,ren,h2]
  have e1:mrg (o0::b0::rO n::AO.mp (mpE m):: .row 2 [[.mp 3,.nilp]]::rest) [1,2,3,4] ((([b0,rO n',AO.mp (mpE m'),.row 2 [[.mp 2,.nilp]]]++os).take [b0,rO n,AO.mp (mpE m),.row 2 [[.mp 2,.nilp]]].length).map (dC σ))=o0::b0::rO n'::AO.mp (mpE m'):: .row 2 [[.mp 3,.nilp]]::rest:=by
   have:(([b0,rO n',AO.mp (mpE m'),.row 2 [[.mp 2,.nilp]]]++os).take [b0,rO n,AO.mp (mpE m),.row 2 [[.mp 2,.nilp]]].length)=[b0,rO n',AO.mp (mpE m'),.row 2 [[.mp 2,.nilp]]]:=rfl
   rw[this]
   simp only[List.map_cons,List.map_nil,hrb,hrr,hrm,hrs]
   rfl
  have e2:([b0,rO n',AO.mp (mpE m'),.row 2 [[.mp 2,.nilp]]]++os).drop [b0,rO n,AO.mp (mpE m),.row 2 [[.mp 2,.nilp]]].length=os:=rfl
  rw[e1,e2]
  have hlt:∀i∈I,∃j,i=4+j∧j<os.length:=fun i hi=>by
   have h1:=hf i hi
   have h2:=ho.lt hi
   rw[List.length_append] at h2
   simp only[List.length_cons,List.length_nil] at h1 h2
   exact⟨i-4,by omega,by omega⟩
  refine⟨bn σ vs,I.map fun i=>σ.getD i 0,os.map (dC σ),by simp only[uH];rw[hw.ren],rfl,ho.ren fun i hi sz rows e=>?_,?_,fun i hi=>?_⟩
  ·obtain⟨j,rfl,hj⟩:=hlt i hi
   have e':os[j]?=some (.row sz rows):=by
    rw[List.getElem?_append_right (by simp)] at e
    simpa using e
   rw[hσ j hj,List.getElem?_append_right (by simp only[List.length_cons];omega)]
   have:rest.length+5+j-(o0::b0::rO n'::AO.mp (mpE m'):: .row 2 [[.mp 3,.nilp]]::rest).length=j:=by simp only[List.length_cons];omega
   rw[this,List.getElem?_map,e']
   rfl
  ·rw[List.map_congr_left (g:=fun i=>rest.length+1+i) fun i hi=>by
    obtain⟨j,rfl,hj⟩:=hlt i hi
    rw[hσ j hj];omega]
   exact kj (fun i j e=>by omega) nd
  ·obtain⟨i',hi',rfl⟩:=List.mem_map.1 hi
   obtain⟨j,rfl,hj⟩:=hlt i' hi'
   rw[hσ j hj];simp only[List.length_cons];omega
theorem Gq{os1 os2 X1 X2:List AO}{b1 b2 b3 b4 b5 b6 b7:AO}{KA KB:AV}{qa qb:PV}{I1 I2:List Nat}(nm:List UInt8)
 (ho1:OwnL true (X1++os1) [KA] [qa] I1)(ho2:OwnL true (X2++os2) [KB] [qb] I2)(nd1:I1.Nodup)(nd2:I2.Nodup)
 (hf1:∀i∈I1,X1.length≤i)(hf2:∀i∈I2,X2.length≤i)(l1:X1.length=7)(l2:X2.length=7+os1.length):
 MkW .agg true [.str nm,qa,qb] (.ret (.agg [.p (.str nm),KA,KB])) (b1::b2::b3::b4::b5::b6::b7::(os1++os2)):=by
 have m1:=jY (Y:=[b1,b2,b3,b4,b5,b6,b7]) (post:=os2) ho1 hf1 (by simp[l1])
 have m2:=jY (Y:=b1::b2::b3::b4::b5::b6::b7::os1) (post:=[]) ho2 hf2 (by simp[l2];omega)
 rw[List.append_nil] at m2
 have a1:∀i∈I1,i<7+os1.length:=fun i hi=>by
  have h2:=ho1.lt hi
  rw[List.length_append] at h2
  omega
 exact⟨_,I1++I2,rfl,.p _ (fun _=>rfl) (m1.app m2),qu (7+os1.length) nd1 nd2 a1 fun i hi=>by have:=hf2 i hi;omega⟩
theorem ED(f:Fd)(hz:f.sz≤1073741824)(hv:mg f≤26):AC Tryz.prog G bs [.agg (f.cs.map .p)] [] (MkW .agg true (irF f).cs):=by
 have hfc:=f.cs_eq'
 have hfz:f.sz=1+f.name.length+(f.params.length+(f.params.map List.length).sum)+aG f.body:=rfl
 have hst:ay f.params= .lst 1 (f.params.map fun w=>[.str w]):=rfl
 have hvn:mg f=f.params.length+cy f.body:=rfl
 have hzF:okO 0 zF:=by simp[zF,okO,below]
 have hup:∀m,upV [⟨[],m⟩]= .ptr 3 2 0 0:=fun _=>rfl
 have hps:=Gw G (AD [.p (.str f.name),.p (ay f.params),.p (smL f.body)] (by simp)) pG (fun i st=>st.2=i∧Sml [st.1]) f.params (by omega) (fun i st hi hst=>?_) ([],0) ⟨rfl,Sml.base⟩
 ·rw[zq] at hps
  have hcnt:=xC f.params [] 0
  have hcaps:(AD [.p (.str f.name),.p (ay f.params),.p (smL f.body)] (by simp)).caps=[.ptr 5 1 0 0,.ptr 6 1 0 0]:=rfl
  have hF:(AD [.p (.str f.name),.p (ay f.params),.p (smL f.body)] (by simp)).F=bL:=rfl
  have hI:∀m n,(AD [.p (.str f.name),.p (ay f.params),.p (smL f.body)] (by simp)).I (m,n)=[.row 3 [[.p (.str f.name),.p (ay f.params),.p (smL f.body)]],zF,rO n,.mp (mpE m),.row 2 [[.mp 3,.nilp]],.row 1 [[.ptr 2 1 0 0]],.row 1 [[.ptr 4 2 0 0]]]:=fun _ _=>rfl
  rw[hcaps,hF,hI,hI] at hps
  have hir:(irF f).cs=[.str f.name,ay (eL f.params [] 0).1,smL (cW f.body (eL f.params [] 0).2.1 [] (eL f.params [] 0).2.2).1]:=rfl
  refine AC.go ky ?_
  rw[hir]
  have hsml:=vZ f.params [] 0 (by omega) Sml.base
  have hbk:=DR G hzF (aG f.body+1) f.body (by omega) (by omega) [] (eL f.params [] 0).2.1 [] (eL f.params [] 0).2.2 (fun m=>⟨by simp,trivial⟩) hsml (by omega)
  generalize eL f.params [] 0=ps at hps hcnt hbk⊢
  have hbk2:=fun o0 rest=>Gl G ic (o0:=o0) (args:=[.ptr 2 1 0 0,.p (smL f.body),.ptr 4 2 0 0]) hbk hzF (by simp[below,ren,scL]) rest
  have hrO:∀n,rO n= .row 1 [[.p (.int .i64 n)]]:=fun _=>rfl
  have hmpE:mpE []=[]:=rfl
  simp-implicitDefEqProofs[fu,hfc]
  refine(lP G .nilp (.inl rfl) _).mono ?_
  rintro r h ⟨rfl,rfl⟩
  simp-implicitDefEqProofs[aa]
  refine hps.mono ?_
  rintro r h ⟨vs,I1,os1,rfl,rfl,ho1,nd1,hf1⟩
  obtain⟨KP,rfl⟩:=aS ho1
  obtain⟨c1,c2⟩:=bz ho1
  simp-implicitDefEqProofs[-AV.cells,-AV.isCell,cT,aD,aQ,cV,aE,sF,rD,c1,c2,aa,one]
  refine(hbk2 _ _).mono ?_
  rintro r h ⟨vs,I2,os2,rfl,rfl,ho2,nd2,hf2⟩
  obtain⟨KB,rfl⟩:=aS ho2
  obtain⟨c3,c4⟩:=bz ho2
  simp-implicitDefEqProofs[-AV.cells,-AV.isCell,cT,aD,aQ,cV,aE,sF,rD,c1,c2,c3,c4,aa,zF,one]
  exact Gq f.name ho1 ho2 nd1 nd2 hf1 hf2 rfl (by simp;omega)
 ·obtain⟨m,n⟩:=st
  obtain⟨e1,e2⟩:=hst
  simp only at e1 e2
  subst e1
  refine⟨⟨rfl,e2.set _ (by omega)⟩,?_⟩
  have hbd:=fun rest=>Jm G (o0:= .row 3 [[.p (.str f.name),.p (ay f.params),.p (smL f.body)]]) (args:=[.ptr 2 1 0 0,.ptr 4 2 0 0,.p (.str f.params[n])]) (by
   have:=CX G zF [] m [] f.params[n] n (by omega) []
   rw[List.append_nil,List.append_nil] at this
   exact this) hzF (by simp) (by simp[below,ren,hup]) rest
  refine AC.go jr ?_
  have hcaps:(AD [.p (.str f.name),.p (ay f.params),.p (smL f.body)] (by simp)).caps=[.ptr 5 1 0 0,.ptr 6 1 0 0]:=rfl
  have hI:∀m n,(AD [.p (.str f.name),.p (ay f.params),.p (smL f.body)] (by simp)).I (m,n)=[.row 3 [[.p (.str f.name),.p (ay f.params),.p (smL f.body)]],zF,rO n,.mp (mpE m),.row 2 [[.mp 3,.nilp]],.row 1 [[.ptr 2 1 0 0]],.row 1 [[.ptr 4 2 0 0]]]:=fun _ _=>rfl
  have hpg:∀s,pG (m,n) s=(vnm n,(eb m s n,n+1)):=fun _=>rfl
  rw[hpg,hcaps,hI,hI]
  generalize f.params[n]=s at hbd⊢
  simp-implicitDefEqProofs[eJ]
  refine(hbd _).mono ?_
  rintro r h ⟨rfl,rfl⟩
  simp-implicitDefEqProofs[aa]
variable (hK:G fS=some fq) (hS:G dj=some [.tbl opK opV])
include hK hS
theorem kR(l:List Fd)(hz:bm l≤1073741824):AC Tryz.prog G aY [.agg [.p (fdL l)]] [] (MkW (Ag (gF l)) true [fdL (jv l)]):=by
 have hll:=cK l
 have hfl:∀l,fdL l= .lst 3 (l.map Fd.cs):=fun _=>rfl
 have key:AC Tryz.prog G aY [.agg [.p (fdL l)]] [] (MkW (Ag (gF l)) true [fdL (jv l)]):=by
  refine AC.go lw ?_
  simp-implicitDefEqProofs[gz]
  refine(GF G hK hS l hz).use ?_
  by_cases h0:cZ l=0
  case neg=>
   have hr:gF l=false:=by simp[gF,h0]
   have hp:jv l=[]:=by simp[jv,hr]
   rw[hr,hp]
   simp-implicitDefEqProofs[h0]
   exact⟨[.nils],[],rfl,.nils 3 .nil,List.nodup_nil⟩
  have hro:gF l=pw l:=by simp[gF,h0]
  have hrp:jv l=if pw l=true then l.map irF else[]:=by rw[jv,hro]
  have hfa:(l.any fun f=> !decide (mg f≤26))= !pw l:=by rw[pw,List.not_all_eq_any_not]
  rw[hro,hrp]
  simp-implicitDefEqProofs[h0]
  refine(wF G cb l (fun f=> !decide (mg f≤26)) (by omega) fun x hx=>EN G x (by have:=dk hx;omega)).use ?_
  rw[hfa]
  cases hf:pw l with
  |false=>
   simp-implicitDefEqProofs[]
   exact⟨[.nils],[],rfl,.nils 3 .nil,List.nodup_nil⟩
  |true=>
   have hmp:=Fk G (Em l) (fun st x=>(irF x,st)) (fun _ _=>True) l (by omega) (fun i st hi _=>⟨trivial,?_⟩) () trivial
   ·rw[oV] at hmp
    have hI:(Em l).I ()=[.row 1 [[.p (fdL l)]],.row 1 [[.nils]]]:=rfl
    have hF:(Em l).F=bs:=rfl
    have hc:(Em l).caps=[]:=rfl
    rw[hI,hF,hc] at hmp
    simp-implicitDefEqProofs[]
    refine hmp.mono ?_
    rintro r h ⟨vs,I,os,rfl,rfl,ho,nd,hf⟩
    obtain⟨K,rfl⟩:=aS ho
    obtain⟨c1,c2⟩:=bz ho
    simp-implicitDefEqProofs[-AV.cells,-AV.isCell,cT,aD,aQ,cV,aE,sF,rD,c1,c2,aa,one]
    have m:=jY (Y:=[AO.row 1 [[.p (fdL l)]],.row 1 [[K]]]) (post:=[]) ho hf rfl
    rw[List.append_nil] at m
    exact⟨[K],I,rfl,m,nd⟩
   ·have hm:=dk (List.getElem_mem hi)
    have hv:mg l[i]≤26:=by
     rw[pw,List.all_eq_true] at hf
     simpa using hf _ (List.getElem_mem hi)
    exact AC.mkLift gt (ED G l[i] (by omega) hv) (by simp)
 exact key
end Go.Proofs.YtnjbhgpbgmpkcaaGreatDoor
namespace Go.Proofs.YtnjbhgpbgmpkcaaGreatDoor
open Go Go.Aw
set_option maxRecDepth 100000
set_option maxHeartbeats 4000000
theorem mJ{s:List UInt8}(h:aw s=true):s.length≤4:=by
 rw[aw] at h
 simp at h
 omega
theorem xU{e:Ex}(h:kU e=true):e.name.length≤4:=by
 simp only[kU,Bool.and_eq_true,Bool.or_eq_true,decide_eq_true_eq,beq_iff_eq] at h
 obtain⟨⟨⟨⟨_,h1⟩,h2⟩,_⟩,_⟩:=h
 rcases h2 with h2|h2
 ·exact mJ (h1▸h2)
 ·rw[h2];simp
theorem BT:∀(d:Nat) (e:Ex),dP d e=true→e.sz≤5*e.parts:=by
 intro d
 induction d with
 |zero=>intro e h;simp[dP] at h
 |succ d ih=>
  intro e h
  rw[dP,Bool.and_eq_true] at h
  have h1:=xU h.1
  have h2:∀l:List Ex,l.all (dP d)=true→bK l≤5*aH l:=by
   intro l
   induction l with
   |nil=>intro _;simp[bK,aH]
   |cons x r ihl=>
    intro hl
    rw[List.all_cons,Bool.and_eq_true] at hl
    have:=ih x hl.1
    have:=ihl hl.2
    rw[bK,aH];omega
  have h3:=h2 e.kids h.2
  rw[e.sz_eq,e.parts_eq];omega
theorem Fj{e:Ex}(h:jo e=true):e.sz≤150:=by
 simp only[jo,Bool.and_eq_true,decide_eq_true_eq] at h
 have:=BT 6 e h.1
 omega
theorem Dp{s:Sm}(h:gI s=true):1+s.name.length+bK s.args≤305:=by
 simp only[gI,Bool.and_eq_true,Bool.or_eq_true,decide_eq_true_eq,beq_iff_eq] at h
 obtain⟨⟨⟨⟨⟨⟨⟨_,h0⟩,h1⟩,h2⟩,h3⟩,_⟩,_⟩,_⟩:=h
 have hn:s.name.length≤4:=by
  rcases h2 with h2|h2
  ·exact mJ (h1▸h2)
  ·rw[h2];simp
 have ha:∀l:List Ex,l.all jo=true→bK l≤150*l.length:=by
  intro l
  induction l with
  |nil=>intro _;simp[bK]
  |cons x r ihl=>
   intro hl
   rw[List.all_cons,Bool.and_eq_true] at hl
   have:=Fj hl.1
   have:=ihl hl.2
   rw[bK,List.length_cons];omega
 have h4:=ha s.args h3
 have h5:s.args.length≤2:=by rw[h0,je];split<;>omega
 omega
theorem DN:∀(d:Nat) (l:List Sm),l.all (aF d)=true→aG l≤305*cH l:=by
 intro d
 induction d with
 |zero=>
  intro l h
  cases l with
  |nil=>simp[aG]
  |cons s r=>simp[aF] at h
 |succ d ih=>
  intro l
  induction l with
  |nil=>intro _;simp[aG]
  |cons s r ihl=>
   intro h
   rw[List.all_cons,Bool.and_eq_true] at h
   have h2:=ihl h.2
   have h1:=h.1
   simp only[aF,Bool.and_eq_true] at h1
   obtain⟨⟨h3,h4⟩,h5⟩:=h1
   have:=Dp h3
   have:=ih s.body h4
   have:=ih s.els h5
   rw[aG,cH,s.sz_eq,s.cnt_eq];omega
theorem Fc{f:Fd}(h:il f=true):f.sz≤20+305*cH f.body:=by
 simp only[il,Bool.and_eq_true,decide_eq_true_eq] at h
 obtain⟨⟨⟨h1,h2⟩,h3⟩,h4⟩:=h
 have:=mJ h2
 have:=DN 4 f.body h4
 have hp:∀l:List (List UInt8),l.all aw=true→(l.map List.length).sum≤4*l.length:=by
  intro l
  induction l with
  |nil=>intro _;simp
  |cons x r ihl=>
   intro hl
   rw[List.all_cons,Bool.and_eq_true] at hl
   have:=mJ hl.1
   have:=ihl hl.2
   rw[List.map_cons,List.sum_cons,List.length_cons];omega
 have:=hp f.params h1
 have e:f.sz=1+f.name.length+(f.params.length+(f.params.map List.length).sum)+aG f.body:=rfl
 omega
theorem Ac{l:List Fd}(h:ce l=true):bm l≤12280:=by
 obtain⟨h1,h2,h3⟩:=(yr l).1 h
 have key:∀l:List Fd,(∀f∈l,il f=true)→bm l≤20*l.length+305*ia l:=by
  intro l
  induction l with
  |nil=>intro _;simp[bm]
  |cons f r ih=>
   intro hl
   have a:=Fc (hl f (by simp))
   have b:=ih fun g hg=>hl g (by simp[hg])
   have e1:bm (f::r)=f.sz+bm r:=by simp[bm]
   have e2:ia (f::r)=cH f.body+ia r:=by simp[ia]
   rw[e1,e2,List.length_cons];omega
 have:=key l h2
 omega
mutual
theorem Hj(ch:List Scp):∀e:Ex,(irE ch e).sz≤3*e.sz
 | .mk o n s ks=>by
   have h:=vb ch ks
   have hn:(if o=2 then irN ch s else s).length≤2+s.length:=by
    split
    ·simp[irN,vnm]
    ·omega
   rw[irE,Ex.sz,Ex.sz];omega
theorem vb(ch:List Scp):∀l:List Ex,bK (qz ch l)≤3*bK l
 |[]=>by simp[qz,bK]
 |e::r=>by have h1:=Hj ch e;have h2:=vb ch r;rw[qz,bK,bK];omega
end
theorem He:∀(N:Nat) (l:List Sm),aG l<N→∀m up n,aG (cW l m up n).1≤3*aG l:=by
 intro N
 induction N with
 |zero=>intro l h;omega
 |succ N ih=>
  intro l
  induction l with
  |nil=>intro _ m up n;simp[cW,aG]
  |cons s r ihl=>
   intro hl m up n
   obtain⟨o,nme,a,bd,el⟩:=s
   rw[aG,Sm.sz] at hl
   have h1:=vb (m::up) a
   have h2:=ih bd (by omega) [] (opS o nme m n::up) (if o=1 then n+1 else n)
   have h3:=ih el (by omega) [] (opS o nme m n::up) (cW bd [] (opS o nme m n::up) (if o=1 then n+1 else n)).2.2
   have h4:=ihl (by omega) (irS ⟨o,nme,a,bd,el⟩ m up n).2.1 up (irS ⟨o,nme,a,bd,el⟩ m up n).2.2
   have hn:(if o=1 then vnm n else if o=2 then irN (m::up) nme else nme).length≤2+nme.length:=by
    split
    ·simp[vnm]
    ·split
     ·simp[irN,vnm]
     ·omega
   rw[cW]
   simp only
   rw[aG,DL,Sm.sz,aG,Sm.sz]
   omega
theorem zJ:∀(ps:List (List UInt8)) (m:Scp) (n:Nat),(eL ps m n).1.length=ps.length∧((eL ps m n).1.map List.length).sum=2*ps.length
 |[],m,n=>by simp[eL]
 |s::r,m,n=>by
  obtain⟨h1,h2⟩:=zJ r (eb m s n) (n+1)
  rw[eL]
  simp only
  rw[List.length_cons,List.length_cons,h1,List.map_cons,List.sum_cons,h2]
  simp[vnm];omega
theorem Gy(f:Fd):(irF f).sz≤3*f.sz:=by
 obtain⟨h1,h2⟩:=zJ f.params [] 0
 have h3:=He (aG f.body+1) f.body (by omega) (eL f.params [] 0).2.1 [] (eL f.params [] 0).2.2
 have e:f.sz=1+f.name.length+(f.params.length+(f.params.map List.length).sum)+aG f.body:=rfl
 have e2:(irF f).sz=1+f.name.length+((eL f.params [] 0).1.length+((eL f.params [] 0).1.map List.length).sum)+aG (cW f.body (eL f.params [] 0).2.1 [] (eL f.params [] 0).2.2).1:=rfl
 omega
theorem EM(l:List Fd):bm (jv l)≤36840:=by
 unfold jv
 split
 ·rename_i h
  have h0:cZ l=0:=by simp[gF] at h;exact h.1
  have hz:=Ac ((zP l).1 h0).1
  have key:∀l:List Fd,bm (l.map irF)≤3*bm l:=by
   intro l
   induction l with
   |nil=>simp[bm]
   |cons f r ih=>
    have a:=Gy f
    have e1:bm (f::r)=f.sz+bm r:=by simp[bm]
    have e2:bm ((f::r).map irF)=(irF f).sz+bm (r.map irF):=by simp[bm]
    rw[e1,e2];omega
  have:=key l
  omega
 ·simp[bm]
variable (G:aA) (hK:G fS=some fq) (hS:G dj=some [.tbl opK opV])
include hK hS
end Go.Proofs.YtnjbhgpbgmpkcaaGreatDoor
namespace Go.Proofs.YtnjbhgpbgmpkcaaGreatDoor
open Go Go.Aw
set_option maxRecDepth 100000
set_option maxHeartbeats 4000000
theorem GH(n:Int):IntKind.u8.wrap n=n%256:=by simp[IntKind.wrap,IntKind.bits,IntKind.signed]
theorem BD{x:Int}{n:Nat}(h:x=n)(hn:n≤9223372036854775807):IntKind.i64.wrap x=n:=by rw[ag (by omega) (by omega),h]
def tM(n:Nat)(acc:List UInt8):List UInt8:=if n=0 then acc else tM (n/10) (UInt8.ofNat (48+n%10)::acc)
termination_by n
theorem Bp(acc:List UInt8):tM 0 acc=acc:=by rw[tM,if_pos rfl]
theorem AB{n:Nat}(h:¬n=0)(acc:List UInt8):tM n acc=tM (n/10) (UInt8.ofNat (48+n%10)::acc):=by rw[tM,if_neg h]
def dm(n:Nat):List UInt8:=if n=0 then[109,48] else 109::tM n []
structure DGm where (n:Nat) (acc:List UInt8)
variable (G:aA)
theorem eS(n:Nat)(hn:n≤1152921504606846976):VF Tryz.prog G aL [.p (.int .i64 n)] (.p (.str (dm n))):=by
 refine AC.go rd ?_
 by_cases h0:n=0
 ·subst h0
  simp-implicitDefEqProofs[gO,dm]
 have h1:¬(n:Int)≤0:=by omega
 simp-implicitDefEqProofs[gO,h1,h0]
 refine az (fun d:DGm=>aj 20 [(0,.p (.int .i64 d.n)),(3,.p (.str d.acc))]) (fun _=>[]) (fun d=>tM d.n d.acc=tM n []∧d.acc.length+d.n≤n) (fun d=>d.n) ⟨n,[]⟩ (by simp) ?_ ?_
 ·exact aC rfl (by simp[below])
 ·rintro⟨m,acc⟩ ⟨i1,i2⟩
  simp only at i1 i2
  simp-implicitDefEqProofs[]
  refine bh (fun h2=>?_) (fun h2=>?_)
  ·simp at h2
   have hm0:¬m=0:=by omega
   have e10:(m:Int).tmod 10=(m:Int)%10:=Int.tmod_eq_emod_of_nonneg (by omega)
   have ew:IntKind.i64.wrap (48+(m:Int)%10)=48+(m:Int)%10:=ag (by omega) (by omega)
   have e8:IntKind.u8.wrap (48+(m:Int)%10)=48+(m:Int)%10:=by rw[GH];omega
   have et:(48+(m:Int)%10).toNat=48+m%10:=by omega
   have ed:IntKind.i64.wrap ((m:Int)/10)=((m/10:Nat):Int):=BD (by omega) (by omega)
   simp-implicitDefEqProofs[e10,ew,e8,et,ed]
   refine⟨by omega,⟨m/10,UInt8.ofNat (48+m%10)::acc⟩,⟨?_,?_⟩,by simp only;omega,aC rfl ?_⟩
   ·rw[←i1];exact(AB hm0 acc).symm
   ·simp only[List.length_cons];omega
   ·simp[below]
  ·simp at h2
   have:m=0:=by omega
   subst this
   rw[Bp] at i1
   have hl:1+(tM n []).length≤9223372036854775807:=by rw[←i1];omega
   simp-implicitDefEqProofs[dm,h0,i1]
   exact hl
def jJ(k n:Nat):List (List UInt8):=(List.range n).map fun j=>dm (k+j)
theorem xH(k n:Nat):(jJ k n).length=n:=by simp[jJ]
theorem qZ(k i:Nat)(hn:k+i≤1152921504606846976):VF Tryz.prog G aL [.p (.int .i64 ((k:Int)+(i:Int)))] (.p (.str (dm (k+i)))):=by
 have:=eS G (k+i) hn
 rwa[Int.natCast_add] at this
theorem tq{h:List AO}{id:Nat}{xs:List (List UInt8)}{k:Nat}(hr:h[id]?=some (mT xs))(hk:k+xs.length≤1152921504606846976):
 AC Tryz.prog G dc [.sl id 1 0 xs.length,.p (.int .i64 k)] h fun x h'=>x= .ret (.p (.int .i64 ((k+xs.length:Nat):Int)))∧h'=h.set id (mT (jJ k xs.length)):=by
 refine AC.enterB da fun hb=>AC.go da ?_
 have hid:id<h.length:=(List.getElem?_eq_some_iff.1 hr).1
 have hbs:∀ys:List (List UInt8),HB (h.set id (mT ys)):=fun ys=>hb.set_row fun e he=>by
  obtain⟨x,_,rfl⟩:=List.mem_map.1 he
  simp
 simp-implicitDefEqProofs[dd]
 have e0:jJ k 0++xs.drop 0=xs:=by simp[jJ]
 refine az (fun a:Nat × List (List UInt8)=>aj 20 [(0,.sl id 1 0 xs.length),(1,.p (.int .i64 ((k+a.1:Nat):Int))),(5,.p (.int .i64 a.1))]) (fun a=>h.set id (mT a.2)) (fun a=>a.1≤xs.length∧a.2=jJ k a.1++xs.drop a.1) (fun a=>xs.length-a.1) (0,xs) ⟨by simp,e0.symm⟩ ?_ ?_
 ·have e:h.set id (mT xs)=h:=by
   obtain⟨hi,e⟩:=List.getElem?_eq_some_iff.1 hr
   rw[←e];simp
  rw[e]
  exact mb (by simp) hb (by simp-implicitDefEqProofs[below,hid])
 ·rintro⟨i,ys⟩ ⟨hi,hy⟩
  simp only at hi hy
  simp-implicitDefEqProofs[]
  refine bh (fun h1=>?_) (fun h1=>?_)
  ·simp at h1
   have hyl:ys.length=xs.length:=by rw[hy];simp[jJ];omega
   have hys:ys.set i (dm (k+i))=jJ k (i+1)++xs.drop (i+1):=by
    rw[hy,List.set_append_right _ _ (by simp[jJ])]
    simp only[jJ,List.length_map,List.length_range,Nat.sub_self]
    rw[List.drop_eq_getElem_cons h1,List.set_cons_zero,List.range_succ]
    simp
   have hg:(List.map (fun n=>[AV.p (.str n)]) ys)[i]?=some [AV.p (.str (ys[i]'(by omega)))]:=by rw[List.getElem?_map,List.getElem?_eq_getElem (by omega)];rfl
   have hw1:IntKind.i64.wrap ((k:Int)+(i:Int)+1)=(k:Int)+(i:Int)+1:=ag (by omega) (by omega)
   simp-implicitDefEqProofs[]
   refine(qZ G k i (by omega)).use ?_
   simp-implicitDefEqProofs[mT,hid,h1,hg,hw1]
   refine⟨i+1,ys.set i (dm (k+i)),⟨h1,hys⟩,by omega,?_⟩
   have e:(List.map (fun n=>[AV.p (PV.str n)]) ys).set i [AV.p (PV.str (dm (k+i)))]=List.map (fun n=>[AV.p (PV.str n)]) (ys.set i (dm (k+i))):=by
    rw[List.map_set]
   rw[e]
   refine mb ?_ (hbs (ys.set i (dm (k+i)))) ?_
   ·simp
   simp[w1 (i:=i) (by omega),below,hid]
   omega
  ·simp at h1
   have:i=xs.length:=by omega
   subst this
   simp[hy]
theorem tC(k n:Nat)(hk:k+n≤1152921504606846976):VF Tryz.prog G eV [.p (ay (jJ k n)),.p (.int .i64 k)] (.p (.int .i64 ((k+n:Nat):Int))):=by
 refine AC.go nO ?_
 have hsl:∀l,ay l= .lst 1 (l.map fun w=>[.str w]):=fun _=>rfl
 have hl:=xH k n
 simp-implicitDefEqProofs[iE]
 refine az (fun i:Nat=>aj 22 [(0,.p (ay (jJ k n))),(1,.p (.int .i64 ((k+i:Nat):Int))),(5,.p (.int .i64 i))]) (fun _=>[]) (fun i=>i≤n) (fun i=>n-i) 0 (by simp) ?_ ?_
 ·exact aC rfl (by simp[below,ay])
 intro i hi
 simp-implicitDefEqProofs[hsl,hl]
 refine bh (fun h1=>?_) (fun h1=>?_)
 ·simp at h1
  have hg:(jJ k n)[i]?=some (dm (k+i)):=by simp[jJ,h1]
  have hw1:IntKind.i64.wrap ((k:Int)+(i:Int)+1)=(k:Int)+(i:Int)+1:=ag (by omega) (by omega)
  clear hl
  simp-implicitDefEqProofs[hg]
  refine(qZ G k i (by omega)).use ?_
  simp-implicitDefEqProofs[hw1]
  refine⟨i+1,h1,by omega,aC rfl ?_⟩
  simp[below,ay,w1 (i:=i) (by omega)]
  omega
 ·simp at h1
  have:i=n:=by omega
  subst this
  simp-implicitDefEqProofs[]
end Go.Proofs.YtnjbhgpbgmpkcaaGreatDoor
namespace Go.Proofs.YtnjbhgpbgmpkcaaGreatDoor
open Go Go.Aw
set_option maxRecDepth 100000
set_option maxHeartbeats 4000000
mutual
def mkE(k:Nat):Ex→Ex
 | .mk _ _ _ ks=> .mk k ((k+1:Nat):Int) (dm (k+2)) (kY (k+3) ks)
def kY(k:Nat):List Ex→List Ex
 |[]=>[]
 |e::r=>mkE k e::kY (k+3*e.parts) r
end
theorem oO:∀(l:List Ex) (k:Nat),(kY k l).length=l.length
 |[],k=>rfl
 |e::r,k=>by rw[kY,List.length_cons,oO r,List.length_cons]
theorem vl:∀(l:List Ex) (k i:Nat) (e:Ex),l[i]?=some e→(kY k l)[i]?=some (mkE (k+3*aH (l.take i)) e)
 |x::r,k,0,e,h=>by cases h;rfl
 |x::r,k,i+1,e,h=>by
  have:=vl r (k+3*x.parts) i e h
  rw[kY,List.getElem?_cons_succ,this,List.take_succ_cons,aH]
  congr 2
  omega
theorem DD(k:Nat)(e:Ex):(mkE k e).cs=[.int .i64 k,.int .i64 ((k+1:Nat):Int),.str (dm (k+2)),exL (kY (k+3) e.kids)]:=by
 obtain⟨o,n,s,ks⟩:=e;rw[mkE,Ex.cs_eq];rfl
theorem sr{l:List Ex}{i:Nat}(h:i<l.length):aH (l.take (i+1))=aH (l.take i)+l[i].parts:=by
 rw[al h,dH];simp[aH]
theorem uv(l:List Ex)(i:Nat):aH (l.take i)≤aH l:=by
 have e:aH l=aH (l.take i)+aH (l.drop i):=by rw[←dH,List.take_append_drop]
 omega
theorem uy{l:List Ex}{e:Ex}(h:e∈l):e.parts≤aH l:=by
 induction l with
 |nil=>cases h
 |cons x r ih=>
  rw[aH]
  rcases List.mem_cons.1 h with rfl|h
  ·omega
  ·have:=ih h;omega
theorem uG(l:List Ex):l.length≤aH l:=by
 induction l with
 |nil=>exact Nat.le_refl _
 |cons x r ih=>have:=x.parts_eq;rw[aH,List.length_cons];omega
variable (G:aA)
theorem xk:∀(N:Nat) (l:List Ex),aH l<N→∀(h:List AO) (v:AV) (I:List Nat) (k:Nat),OwnL true h [v] [exL l] I→I.Nodup→k+3*aH l≤1152921504606846976→
 AC Tryz.prog G dY [v,.p (.int .i64 k)] h (Mkd h v I (exL (kY k l)) (.int .i64 ((k+3*aH l:Nat):Int))):=by
 intro N
 induction N with
 |zero=>intro l hl;omega
 |succ N ih=>
  intro l hl h v I k ho nd hk
  have hxl:∀l,exL l= .lst 4 (l.map Ex.cs):=fun _=>rfl
  have hll:=uG l
  rcases ho.inv nd with⟨h0,rfl,rfl|rfl⟩|⟨h0,_⟩|⟨id,rows,J,rfl,rfl,hr⟩
  ·have hl0:l=[]:=List.map_eq_nil_iff.1 h0
   subst hl0
   refine AC.go fO ?_
   have hst:Mkd h .nils [] (exL (kY k [])) (.int .i64 ((k+3*aH []:Nat):Int)) (.ret (.p (.int .i64 k))) h:=⟨rfl,.nils 4 .nil,fun _ _ _=>rfl,Nat.le_refl _⟩
   simp-implicitDefEqProofs[dW]
   refine az (fun _:Unit=>aj 42 [(0,.nils),(1,.p (.int .i64 k)),(5,.p (.int .i64 0))]) (fun _=>h) (fun _=>True) (fun _=>0) () trivial (aP (Nat.le_refl _) (by simp[below])) ?_
   intro _ _
   simp-implicitDefEqProofs[]
   exact hst
  ·have hl0:l=[]:=List.map_eq_nil_iff.1 h0
   subst hl0
   refine AC.go fO ?_
   have hst:Mkd h (.p (.lst 4 [])) [] (exL (kY k [])) (.int .i64 ((k+3*aH []:Nat):Int)) (.ret (.p (.int .i64 k))) h:=⟨rfl,.p _ (fun _=>rfl) .nil,fun _ _ _=>rfl,Nat.le_refl _⟩
   simp-implicitDefEqProofs[dW]
   refine az (fun _:Unit=>aj 42 [(0,(.p (.lst 4 []))),(1,.p (.int .i64 k)),(5,.p (.int .i64 0))]) (fun _=>h) (fun _=>True) (fun _=>0) () trivial (aP (Nat.le_refl _) (by simp[below])) ?_
   intro _ _
   simp-implicitDefEqProofs[]
   exact hst
  ·cases h0
  rw[List.length_map]
  refine AC.go fO ?_
  simp-implicitDefEqProofs[dW]
  refine az (fun a:FilS=>aj 42 [(0,.sl id 4 0 l.length),(1,.p (.int .i64 ((k+3*aH (l.take a.i):Nat):Int))),(5,.p (.int .i64 a.i))]) (fun a=>a.h) (MkI h id 4 ((kY k l).map Ex.cs) (l.map Ex.cs) J) (fun a=>l.length-a.i) ⟨0,h⟩ (MkI.init hr) ?_ ?_
  ·exact aP (Nat.le_refl _) (by simp[below,aH,hr.lt])
  rintro⟨i,hh⟩ hI
  simp-implicitDefEqProofs[]
  refine bh (fun h1=>?_) (fun h1=>?_)
  ·simp at h1
   have hg:=List.getElem?_eq_getElem h1
   have hP:=sr h1
   have hM:=uy (List.getElem_mem h1)
   have hT:=uv l (i+1)
   generalize l[i]=e at hg hP hM
   have hD:(l.map Ex.cs)[i]?=some e.cs:=by rw[List.getElem?_map,hg];rfl
   have hA:((kY k l).map Ex.cs)[i]?=some (mkE (k+3*aH (l.take i)) e).cs:=by rw[List.getElem?_map,vl l k i e hg];rfl
   obtain⟨rows',r,Ji,s1,s2,s3,s4,s5,s6,s7⟩:=hI.step hD hA
   obtain⟨K,rfl,hK⟩:=sg s3
   obtain⟨c1,c2⟩:=bz hK
   have q1:∀x,(hh.set id x)[id]?=some x:=fun x=>List.getElem?_set_self s5
   have q2:∀x,(rows'.set i x)[i]?=some x:=fun x=>List.getElem?_set_self s6
   have hnid:id∉Ji:=fun hm=>by rw[List.nodup_cons] at s4;exact s4.1 hm
   have hpe:=e.parts_eq
   have hmt:=eS G (k+3*aH (l.take i)+2) (by omega)
   generalize hkk:k+3*aH (l.take i)=kk at*
   have hkI:(k:Int)+3*(aH (l.take i):Int)=(kk:Int):=by omega
   have w0:IntKind.i64.wrap ((kk:Int)+1)=(kk:Int)+1:=ag (by omega) (by omega)
   have w2:IntKind.i64.wrap ((kk:Int)+1+1)=(kk:Int)+1+1:=ag (by omega) (by omega)
   have w3:IntKind.i64.wrap ((kk:Int)+1+1+1)=(kk:Int)+1+1+1:=ag (by omega) (by omega)
   have hm2:VF Tryz.prog G aL [.p (.int .i64 ((kk:Int)+1+1))] (.p (.str (dm (kk+2)))):=by
    have e:((kk+2:Nat):Int)=(kk:Int)+1+1:=by omega
    rw[←e];exact hmt
   have hIH:=fun h1 ho=>ih e.kids (by have:=e.parts_eq;omega) h1 K Ji (kk+3) ho (List.nodup_cons.1 s4).2 (by have:=e.parts_eq;omega)
   have e3:((kk+3:Nat):Int)=(kk:Int)+1+1+1:=by omega
   rw[e3] at hIH
   simp-implicitDefEqProofs[-AV.cells,-AV.isCell,cT,aD,aQ,cV,aE,c1,c2,s1,s2,q1,q2,hkI,w0,w2,w3]
   refine⟨h1,?_⟩
   refine hm2.use ?_
   simp-implicitDefEqProofs[-AV.cells,-AV.isCell,cT,aD,aQ,cV,aE,c1,c2,s1,s2,q1,q2,w3]
   refine⟨h1,(hIH _ (hK.set_out hnid _)).mono ?_⟩
   rintro r h2 ⟨rfl,o2,f2,l2⟩
   rw[List.length_set] at f2 l2
   have hgo:=s7 h2 [.p (.int .i64 kk),.p (.int .i64 ((kk+1:Nat):Int)),.p (.str (dm (kk+2))),K] (by rw[f2 id s5 hnid,q1];simp) (fun j hj hn hm=>by rw[f2 j hj hm,List.getElem?_set_ne (fun e=>hn e.symm)]) (by rw[DD];exact .p _ (fun _=>rfl) (.p _ (fun _=>rfl) (.p _ (fun _=>rfl) o2))) (Ex.cs_len _) l2
   have hid2:id<h2.length:=by omega
   have hwi:=w1 (i:=i) (by omega)
   have hkn:k+3*aH (l.take (i+1))=kk+3+3*aH e.kids:=by omega
   simp-implicitDefEqProofs[aa]
   refine⟨⟨i+1,h2⟩,hgo,by simp only;omega,aP hgo.2.2.2 ?_⟩
   simp[below,hid2,hwi]
   omega
  ·simp at h1
   have hie:i=l.length:=by have:=hI.1;simp at this;omega
   obtain⟨⟨rows2,d1⟩,d2,d3⟩:=hI.done (by simpa using h1) (by simp[oO])
   subst hie
   rw[List.take_length]
   simp-implicitDefEqProofs[]
   refine⟨by simp,?_,d2,d3⟩
   have:=d1.tree (n:=l.length) (by simp[oO])
   exact this
theorem vR{h:List AO}:∀{ps:List (List UInt8)} {vs:List AV} {J:List Nat},OwnL true h vs (ps.map PV.str) J→vs=ps.map (fun w=> .p (.str w))∧J=[]
 |[],vs,J,H=>by
  cases H
  exact⟨rfl,rfl⟩
 |w::r,vs,J,H=>by
  rw[List.map_cons] at H
  cases H with
  |p _ _ H=>
   obtain⟨e1,e2⟩:=vR H
   exact⟨by rw[e1];rfl,e2⟩
theorem ww{α:Type}:∀{rows:List (List α)} {l:List α},rows.flatten=l→(∀e∈rows,e.length=1)→rows=l.map fun x=>[x]
 |[],l,e,_=>by subst e;rfl
 |r::rs,l,e,h=>by
  subst e
  have h1:=h r (by simp)
  match r,h1 with
  |[x],_=>
   have ih:=ww (rows:=rs) rfl fun e he=>h e (by simp[he])
   rw[List.flatten_cons,List.singleton_append,List.map_cons,←ih]
theorem tW:∀ps:List (List UInt8),(ps.map fun w=>[PV.str w]).flatten=ps.map PV.str
 |[]=>rfl
 |w::r=>by rw[List.map_cons,List.flatten_cons,tW r];rfl
theorem Gf(h:List AO)(v:AV)(I:List Nat)(ps:List (List UInt8))(k:Nat)(ho:OwnL true h [v] [ay ps] I)(nd:I.Nodup)(hk:k+ps.length≤1152921504606846976):
 AC Tryz.prog G dc [v,.p (.int .i64 k)] h (Mkd h v I (ay (jJ k ps.length)) (.int .i64 ((k+ps.length:Nat):Int))):=by
 rcases ho.inv nd with⟨h0,rfl,rfl|rfl⟩|⟨h0,_⟩|⟨id,rows,J,rfl,rfl,hr⟩
 ·have hl0:ps=[]:=List.map_eq_nil_iff.1 h0
  subst hl0
  refine AC.go da ?_
  have hst:Mkd h .nils [] (ay (jJ k 0)) (.int .i64 ((k+0:Nat):Int)) (.ret (.p (.int .i64 k))) h:=⟨rfl,.nils 1 .nil,fun _ _ _=>rfl,Nat.le_refl _⟩
  simp-implicitDefEqProofs[dd]
  refine az (fun _:Unit=>aj 20 [(0,.nils),(1,.p (.int .i64 k)),(5,.p (.int .i64 0))]) (fun _=>h) (fun _=>True) (fun _=>0) () trivial (aP (Nat.le_refl _) (by simp[below])) ?_
  intro _ _
  simp-implicitDefEqProofs[]
  exact hst
 ·have hl0:ps=[]:=List.map_eq_nil_iff.1 h0
  subst hl0
  refine AC.go da ?_
  have hst:Mkd h (.p (.lst 1 [])) [] (ay (jJ k 0)) (.int .i64 ((k+0:Nat):Int)) (.ret (.p (.int .i64 k))) h:=⟨rfl,.p _ (fun _=>rfl) .nil,fun _ _ _=>rfl,Nat.le_refl _⟩
  simp-implicitDefEqProofs[dd]
  refine az (fun _:Unit=>aj 20 [(0,.p (.lst 1 [])),(1,.p (.int .i64 k)),(5,.p (.int .i64 0))]) (fun _=>h) (fun _=>True) (fun _=>0) () trivial (aP (Nat.le_refl _) (by simp[below])) ?_
  intro _ _
  simp-implicitDefEqProofs[]
  exact hst
 ·cases h0
 rw[List.length_map]
 have hfl:(ps.map fun w=>[PV.str w]).flatten=ps.map PV.str:=by
  exact tW ps
 have hown:=hr.own
 rw[hfl] at hown
 obtain⟨e1,e2⟩:=vR hown
 subst e2
 have e3:=ww e1 hr.rl
 have hh:h[id]?=some (mT ps):=by rw[hr.here,e3,List.map_map];rfl
 refine(tq G hh hk).mono ?_
 rintro x h' ⟨rfl,rfl⟩
 have hid:id<h.length:=hr.lt
 refine⟨rfl,uf (List.getElem?_set_self hid) (by simp[xH]),fun j hj hn=>?_,by simp⟩
 simp at hn
 exact List.getElem?_set_ne fun e=>hn e.symm
mutual
def Sm.mq:Sm→Nat
 | .mk _ _ a b e=>2+3*aH a+aU b+aU e
def aU:List Sm→Nat
 |[]=>0
 |s::r=>s.mq+aU r
end
mutual
def mkS(k:Nat):Sm→Sm
 | .mk _ _ a b e=> .mk k (dm (k+1)) (kY (k+2) a) (jR (k+2+3*aH a) b) (jR (k+2+3*aH a+aU b) e)
def jR(k:Nat):List Sm→List Sm
 |[]=>[]
 |s::r=>mkS k s::jR (k+s.mq) r
end
theorem Sm.mq_eq(s:Sm):s.mq=2+3*aH s.args+aU s.body+aU s.els:=by cases s;rfl
theorem sa:∀a b:List Sm,aU (a++b)=aU a+aU b
 |[],b=>by simp[aU]
 |s::r,b=>by rw[List.cons_append,aU,aU,sa r b];omega
theorem pk:∀(l:List Sm) (k:Nat),(jR k l).length=l.length
 |[],k=>rfl
 |e::r,k=>by rw[jR,List.length_cons,pk r,List.length_cons]
theorem uN:∀(l:List Sm) (k i:Nat) (e:Sm),l[i]?=some e→(jR k l)[i]?=some (mkS (k+aU (l.take i)) e)
 |x::r,k,0,e,h=>by cases h;rfl
 |x::r,k,i+1,e,h=>by
  have:=uN r (k+x.mq) i e h
  rw[jR,List.getElem?_cons_succ,this,List.take_succ_cons,aU]
  congr 2
  omega
theorem BV(k:Nat)(e:Sm):(mkS k e).cs=[.int .i64 k,.str (dm (k+1)),exL (kY (k+2) e.args),smL (jR (k+2+3*aH e.args) e.body),smL (jR (k+2+3*aH e.args+aU e.body) e.els)]:=by
 obtain⟨o,s,a,b,el⟩:=e;rw[mkS,Sm.cs_eq];rfl
theorem tX{l:List Sm}{i:Nat}(h:i<l.length):aU (l.take (i+1))=aU (l.take i)+l[i].mq:=by
 rw[al h,sa];simp[aU]
theorem oU(l:List Sm)(i:Nat):aU (l.take i)≤aU l:=by
 have e:aU l=aU (l.take i)+aU (l.drop i):=by rw[←sa,List.take_append_drop]
 omega
theorem wg{l:List Sm}{e:Sm}(h:e∈l):e.mq≤aU l:=by
 induction l with
 |nil=>cases h
 |cons x r ih=>
  rw[aU]
  rcases List.mem_cons.1 h with rfl|h
  ·omega
  ·have:=ih h;omega
theorem wc(l:List Sm):l.length≤aU l:=by
 induction l with
 |nil=>exact Nat.le_refl _
 |cons x r ih=>have:=x.mq_eq;rw[aU,List.length_cons];omega
theorem xz:∀(N:Nat) (l:List Sm),aU l<N→∀(h:List AO) (v:AV) (I:List Nat) (k:Nat),OwnL true h [v] [smL l] I→I.Nodup→k+aU l≤1152921504606846976→
 AC Tryz.prog G cS [v,.p (.int .i64 k)] h (Mkd h v I (smL (jR k l)) (.int .i64 ((k+aU l:Nat):Int))):=by
 intro N
 induction N with
 |zero=>intro l hl;omega
 |succ N ih=>
  intro l hl h v I k ho nd hk
  have hll:=wc l
  rcases ho.inv nd with⟨h0,rfl,rfl|rfl⟩|⟨h0,_⟩|⟨id,rows,J,rfl,rfl,hr⟩
  ·have hl0:l=[]:=List.map_eq_nil_iff.1 h0
   subst hl0
   refine AC.go fY ?_
   have hst:Mkd h .nils [] (smL (jR k [])) (.int .i64 ((k+aU []:Nat):Int)) (.ret (.p (.int .i64 k))) h:=⟨rfl,.nils 5 .nil,fun _ _ _=>rfl,Nat.le_refl _⟩
   simp-implicitDefEqProofs[dX]
   refine az (fun _:Unit=>aj 49 [(0,.nils),(1,.p (.int .i64 k)),(5,.p (.int .i64 0))]) (fun _=>h) (fun _=>True) (fun _=>0) () trivial (aP (Nat.le_refl _) (by simp[below])) ?_
   intro _ _
   simp-implicitDefEqProofs[]
   exact hst
  ·have hl0:l=[]:=List.map_eq_nil_iff.1 h0
   subst hl0
   refine AC.go fY ?_
   have hst:Mkd h (.p (.lst 5 [])) [] (smL (jR k [])) (.int .i64 ((k+aU []:Nat):Int)) (.ret (.p (.int .i64 k))) h:=⟨rfl,.p _ (fun _=>rfl) .nil,fun _ _ _=>rfl,Nat.le_refl _⟩
   simp-implicitDefEqProofs[dX]
   refine az (fun _:Unit=>aj 49 [(0,(.p (.lst 5 []))),(1,.p (.int .i64 k)),(5,.p (.int .i64 0))]) (fun _=>h) (fun _=>True) (fun _=>0) () trivial (aP (Nat.le_refl _) (by simp[below])) ?_
   intro _ _
   simp-implicitDefEqProofs[]
   exact hst
  ·cases h0
  rw[List.length_map]
  refine AC.go fY ?_
  simp-implicitDefEqProofs[dX]
  refine az (fun a:FilS=>aj 49 [(0,.sl id 5 0 l.length),(1,.p (.int .i64 ((k+aU (l.take a.i):Nat):Int))),(5,.p (.int .i64 a.i))]) (fun a=>a.h) (MkI h id 5 ((jR k l).map Sm.cs) (l.map Sm.cs) J) (fun a=>l.length-a.i) ⟨0,h⟩ (MkI.init hr) ?_ ?_
  ·exact aP (Nat.le_refl _) (by simp[below,aU,hr.lt])
  rintro⟨i,hh⟩ hI
  simp-implicitDefEqProofs[]
  refine bh (fun h1=>?_) (fun h1=>?_)
  ·simp at h1
   have hg:=List.getElem?_eq_getElem h1
   have hP:=tX h1
   have hM:=wg (List.getElem_mem h1)
   have hT:=oU l (i+1)
   generalize l[i]=e at hg hP hM
   have hD:(l.map Sm.cs)[i]?=some e.cs:=by rw[List.getElem?_map,hg];rfl
   have hA:((jR k l).map Sm.cs)[i]?=some (mkS (k+aU (l.take i)) e).cs:=by rw[List.getElem?_map,uN l k i e hg];rfl
   obtain⟨rows',r,Ji,s1,s2,s3,s4,s5,s6,s7⟩:=hI.step hD hA
   obtain⟨A,B,E,I1,I2,I3,rfl,rfl,oA,oB,oE⟩:=yE s3
   obtain⟨c1,c2⟩:=bz oA
   obtain⟨c3,c4⟩:=bz oB
   obtain⟨c5,c6⟩:=bz oE
   have q1:∀x,(hh.set id x)[id]?=some x:=fun x=>List.getElem?_set_self s5
   have q2:∀x,(rows'.set i x)[i]?=some x:=fun x=>List.getElem?_set_self s6
   rw[List.nodup_cons] at s4
   obtain⟨hnid,n123⟩:=s4
   simp only[List.mem_append,not_or] at hnid
   obtain⟨x1,x2,x3⟩:=hnid
   obtain⟨n1,n23,d123⟩:=List.nodup_append.1 n123
   obtain⟨n2,n3,d23⟩:=List.nodup_append.1 n23
   have hpe:=e.mq_eq
   have hmt:=eS G (k+aU (l.take i)+1) (by omega)
   generalize hkk:k+aU (l.take i)=kk at*
   have hkI:(k:Int)+(aU (l.take i):Int)=(kk:Int):=by omega
   have w0:IntKind.i64.wrap ((kk:Int)+1)=(kk:Int)+1:=ag (by omega) (by omega)
   have w2:IntKind.i64.wrap ((kk:Int)+1+1)=(kk:Int)+1+1:=ag (by omega) (by omega)
   have hm2:VF Tryz.prog G aL [.p (.int .i64 ((kk:Int)+1))] (.p (.str (dm (kk+1)))):=by
    have e:((kk+1:Nat):Int)=(kk:Int)+1:=by omega
    rw[←e];exact hmt
   have e2:((kk+2:Nat):Int)=(kk:Int)+1+1:=by omega
   have mA:=fun h1 ho=>xk G (aH e.args+1) e.args (by omega) h1 A I1 (kk+2) ho n1 (by omega)
   have mB:=fun h1 ho=>ih e.body (by omega) h1 B I2 (kk+2+3*aH e.args) ho n2 (by omega)
   have mE:=fun h1 ho=>ih e.els (by omega) h1 E I3 (kk+2+3*aH e.args+aU e.body) ho n3 (by omega)
   rw[e2] at mA
   simp-implicitDefEqProofs[-AV.cells,-AV.isCell,cT,aD,aQ,cV,aE,c1,c2,c3,c4,c5,c6,s1,s2,q1,q2,hkI,w0,w2]
   refine⟨h1,?_⟩
   refine hm2.use ?_
   simp-implicitDefEqProofs[-AV.cells,-AV.isCell,cT,aD,aQ,cV,aE,c1,c2,c3,c4,c5,c6,s1,s2,q1,q2,w2]
   refine⟨h1,(mA _ (oA.set_out x1 _)).mono ?_⟩
   rintro r h2 ⟨rfl,o2,f2,l2⟩
   rw[List.length_set] at f2 l2
   have g2:h2[id]?=some (.row 5 (rows'.set i [.p (.int .i64 kk),.p (.str (dm (kk+1))),A,B,E])):=by rw[f2 id s5 x1,q1]
   simp-implicitDefEqProofs[-AV.cells,-AV.isCell,cT,aD,aQ,cV,aE,c1,c2,c3,c4,c5,c6,aa,g2,q2]
   have oB2:OwnL true h2 [B] [smL e.body] I2:=oB.frame fun j hj=>by
    have hne:id≠j:=fun e=>x2 (by rw[e];exact hj)
    rw[f2 j (oB.lt hj) (fun hm=>d123 j hm j (List.mem_append_left _ hj) rfl),List.getElem?_set_ne hne]
   refine⟨h1,(mB _ oB2).mono ?_⟩
   rintro r h3 ⟨rfl,o3,f3,l3⟩
   have g3:h3[id]?=some (.row 5 (rows'.set i [.p (.int .i64 kk),.p (.str (dm (kk+1))),A,B,E])):=by rw[f3 id (by omega) x2,g2]
   simp-implicitDefEqProofs[-AV.cells,-AV.isCell,cT,aD,aQ,cV,aE,c1,c2,c3,c4,c5,c6,aa,g3,q2]
   have oE3:OwnL true h3 [E] [smL e.els] I3:=oE.frame fun j hj=>by
    have:=oE.lt hj
    have hne:id≠j:=fun e=>x3 (by rw[e];exact hj)
    rw[f3 j (by omega) (fun hm=>d23 j hm j hj rfl),f2 j this (fun hm=>d123 j hm j (List.mem_append_right _ hj) rfl),List.getElem?_set_ne hne]
   refine⟨h1,(mE _ oE3).mono ?_⟩
   rintro r h4 ⟨rfl,o4,f4,l4⟩
   have hid4:id<h4.length:=by omega
   have hwi:=w1 (i:=i) (by omega)
   have hkn:k+aU (l.take (i+1))=kk+2+3*aH e.args+aU e.body+aU e.els:=by omega
   have oA4:OwnL true h4 [A] [exL (kY (kk+2) e.args)] I1:=o2.frame fun j hj=>by
    have:=o2.lt hj
    rw[f4 j (by omega) (fun hm=>d123 j hj j (List.mem_append_right _ hm) rfl),f3 j this (fun hm=>d123 j hj j (List.mem_append_left _ hm) rfl)]
   have oB4:OwnL true h4 [B] [smL (jR (kk+2+3*aH e.args) e.body)] I2:=o3.frame fun j hj=>by
    have:=o3.lt hj
    rw[f4 j this (fun hm=>d23 j hj j hm rfl)]
   have hgo:=s7 h4 [.p (.int .i64 kk),.p (.str (dm (kk+1))),A,B,E] (by rw[f4 id (by omega) x3,g3]) (fun j hj hn hm=>by
    simp only[List.mem_append,not_or] at hm
    rw[f4 j (by omega) hm.2.2,f3 j (by omega) hm.2.1,f2 j hj hm.1,List.getElem?_set_ne (fun e=>hn e.symm)]) (by
    rw[BV];exact .p _ (fun _=>rfl) (.p _ (fun _=>rfl) (oA4.app (oB4.app o4)))) (Sm.cs_len _) (by omega)
   simp-implicitDefEqProofs[aa]
   refine⟨⟨i+1,h4⟩,hgo,by simp only;omega,aP hgo.2.2.2 ?_⟩
   simp[below,hid4,hwi]
   omega
  ·simp at h1
   have hie:i=l.length:=by have:=hI.1;simp at this;omega
   obtain⟨⟨rows2,d1⟩,d2,d3⟩:=hI.done (by simpa using h1) (by simp[pk])
   subst hie
   rw[List.take_length]
   simp-implicitDefEqProofs[]
   refine⟨by simp,?_,d2,d3⟩
   have:=d1.tree (n:=l.length) (by simp[pk])
   exact this
def Fd.mq(f:Fd):Nat:=1+f.params.length+aU f.body
def bA(l:List Fd):Nat:=(l.map Fd.mq).sum
def mkF(k:Nat)(f:Fd):Fd:=⟨dm k,jJ (k+1) f.params.length,jR (k+1+f.params.length) f.body⟩
def mU(k:Nat):List Fd→List Fd
 |[]=>[]
 |s::r=>mkF k s::mU (k+s.mq) r
theorem wx(a b:List Fd):bA (a++b)=bA a+bA b:=by simp[bA]
theorem px:∀(l:List Fd) (k:Nat),(mU k l).length=l.length
 |[],k=>rfl
 |e::r,k=>by rw[mU,List.length_cons,px r,List.length_cons]
theorem vr:∀(l:List Fd) (k i:Nat) (e:Fd),l[i]?=some e→(mU k l)[i]?=some (mkF (k+bA (l.take i)) e)
 |x::r,k,0,e,h=>by cases h;rfl
 |x::r,k,i+1,e,h=>by
  have:=vr r (k+x.mq) i e h
  have e1:bA (x::r.take i)=x.mq+bA (r.take i):=by simp[bA]
  rw[mU,List.getElem?_cons_succ,this,List.take_succ_cons,e1]
  congr 2
  omega
theorem BF(k:Nat)(e:Fd):(mkF k e).cs=[.str (dm k),ay (jJ (k+1) e.params.length),smL (jR (k+1+e.params.length) e.body)]:=rfl
theorem ul{l:List Fd}{i:Nat}(h:i<l.length):bA (l.take (i+1))=bA (l.take i)+l[i].mq:=by
 rw[al h,wx];simp[bA]
theorem pz(l:List Fd)(i:Nat):bA (l.take i)≤bA l:=by
 have e:bA l=bA (l.take i)+bA (l.drop i):=by rw[←wx,List.take_append_drop]
 omega
theorem xd{l:List Fd}{e:Fd}(h:e∈l):e.mq≤bA l:=by
 induction l with
 |nil=>cases h
 |cons x r ih=>
  have e1:bA (x::r)=x.mq+bA r:=by simp[bA]
  rw[e1]
  rcases List.mem_cons.1 h with rfl|h
  ·omega
  ·have:=ih h;omega
theorem vU(l:List Fd):l.length≤bA l:=by
 induction l with
 |nil=>exact Nat.zero_le _
 |cons x r ih=>
  have e1:bA (x::r)=x.mq+bA r:=by simp[bA]
  have e2:x.mq=1+x.params.length+aU x.body:=rfl
  rw[e1,List.length_cons];omega
theorem Bx(l:List Fd)(h:List AO)(v:AV)(I:List Nat)(k:Nat)(ho:OwnL true h [v] [fdL l] I)(nd:I.Nodup)(hk:k+bA l≤1152921504606846976):
 AC Tryz.prog G iR [v,.p (.int .i64 k)] h (Mkd h v I (fdL (mU k l)) (.int .i64 ((k+bA l:Nat):Int))):=by
 have hll:=vU l
 rcases ho.inv nd with⟨h0,rfl,rfl|rfl⟩|⟨h0,_⟩|⟨id,rows,J,rfl,rfl,hr⟩
 ·have hl0:l=[]:=List.map_eq_nil_iff.1 h0
  subst hl0
  refine AC.go iK ?_
  have hst:Mkd h .nils [] (fdL (mU k [])) (.int .i64 ((k+bA []:Nat):Int)) (.ret (.p (.int .i64 k))) h:=⟨rfl,.nils 3 .nil,fun _ _ _=>rfl,Nat.le_refl _⟩
  simp-implicitDefEqProofs[fA]
  refine az (fun _:Unit=>aj 35 [(0,.nils),(1,.p (.int .i64 k)),(5,.p (.int .i64 0))]) (fun _=>h) (fun _=>True) (fun _=>0) () trivial (aP (Nat.le_refl _) (by simp[below])) ?_
  intro _ _
  simp-implicitDefEqProofs[]
  exact hst
 ·have hl0:l=[]:=List.map_eq_nil_iff.1 h0
  subst hl0
  refine AC.go iK ?_
  have hst:Mkd h (.p (.lst 3 [])) [] (fdL (mU k [])) (.int .i64 ((k+bA []:Nat):Int)) (.ret (.p (.int .i64 k))) h:=⟨rfl,.p _ (fun _=>rfl) .nil,fun _ _ _=>rfl,Nat.le_refl _⟩
  simp-implicitDefEqProofs[fA]
  refine az (fun _:Unit=>aj 35 [(0,(.p (.lst 3 []))),(1,.p (.int .i64 k)),(5,.p (.int .i64 0))]) (fun _=>h) (fun _=>True) (fun _=>0) () trivial (aP (Nat.le_refl _) (by simp[below])) ?_
  intro _ _
  simp-implicitDefEqProofs[]
  exact hst
 ·cases h0
 rw[List.length_map]
 refine AC.go iK ?_
 simp-implicitDefEqProofs[fA]
 refine az (fun a:FilS=>aj 35 [(0,.sl id 3 0 l.length),(1,.p (.int .i64 ((k+bA (l.take a.i):Nat):Int))),(5,.p (.int .i64 a.i))]) (fun a=>a.h) (MkI h id 3 ((mU k l).map Fd.cs) (l.map Fd.cs) J) (fun a=>l.length-a.i) ⟨0,h⟩ (MkI.init hr) ?_ ?_
 ·exact aP (Nat.le_refl _) (by simp[below,bA,hr.lt])
 rintro⟨i,hh⟩ hI
 simp-implicitDefEqProofs[]
 refine bh (fun h1=>?_) (fun h1=>?_)
 ·simp at h1
  have hg:=List.getElem?_eq_getElem h1
  have hP:=ul h1
  have hM:=xd (List.getElem_mem h1)
  have hT:=pz l (i+1)
  generalize l[i]=e at hg hP hM
  have hD:(l.map Fd.cs)[i]?=some e.cs:=by rw[List.getElem?_map,hg];rfl
  have hA:((mU k l).map Fd.cs)[i]?=some (mkF (k+bA (l.take i)) e).cs:=by rw[List.getElem?_map,vr l k i e hg];rfl
  obtain⟨rows',r,Ji,s1,s2,s3,s4,s5,s6,s7⟩:=hI.step hD hA
  obtain⟨A,B,I1,I2,rfl,rfl,oA,oB⟩:=yq s3
  obtain⟨c1,c2⟩:=bz oA
  obtain⟨c3,c4⟩:=bz oB
  have q1:∀x,(hh.set id x)[id]?=some x:=fun x=>List.getElem?_set_self s5
  have q2:∀x,(rows'.set i x)[i]?=some x:=fun x=>List.getElem?_set_self s6
  rw[List.nodup_cons] at s4
  obtain⟨hnid,n12⟩:=s4
  simp only[List.mem_append,not_or] at hnid
  obtain⟨x1,x2⟩:=hnid
  obtain⟨n1,n2,d12⟩:=List.nodup_append.1 n12
  have hpe:e.mq=1+e.params.length+aU e.body:=rfl
  have hmt:=eS G (k+bA (l.take i)) (by omega)
  generalize hkk:k+bA (l.take i)=kk at*
  have hkI:(k:Int)+(bA (l.take i):Int)=(kk:Int):=by omega
  have w0:IntKind.i64.wrap ((kk:Int)+1)=(kk:Int)+1:=ag (by omega) (by omega)
  have e2:((kk+1:Nat):Int)=(kk:Int)+1:=by omega
  have mA:=fun h1 ho=>Gf G h1 A I1 e.params (kk+1) ho n1 (by omega)
  have mB:=fun h1 ho=>xz G (aU e.body+1) e.body (by omega) h1 B I2 (kk+1+e.params.length) ho n2 (by omega)
  rw[e2] at mA
  simp-implicitDefEqProofs[-AV.cells,-AV.isCell,cT,aD,aQ,cV,aE,c1,c2,c3,c4,s1,s2,q1,q2,hkI,w0]
  refine hmt.use ?_
  simp-implicitDefEqProofs[-AV.cells,-AV.isCell,cT,aD,aQ,cV,aE,c1,c2,c3,c4,s1,s2,q1,q2,w0]
  refine⟨h1,(mA _ (oA.set_out x1 _)).mono ?_⟩
  rintro r h2 ⟨rfl,o2,f2,l2⟩
  rw[List.length_set] at f2 l2
  have g2:h2[id]?=some (.row 3 (rows'.set i [.p (.str (dm kk)),A,B])):=by rw[f2 id s5 x1,q1]
  simp-implicitDefEqProofs[-AV.cells,-AV.isCell,cT,aD,aQ,cV,aE,c1,c2,c3,c4,aa,g2,q2]
  have oB2:OwnL true h2 [B] [smL e.body] I2:=oB.frame fun j hj=>by
   have hne:id≠j:=fun e=>x2 (by rw[e];exact hj)
   rw[f2 j (oB.lt hj) (fun hm=>d12 j hm j hj rfl),List.getElem?_set_ne hne]
  refine⟨h1,(mB _ oB2).mono ?_⟩
  rintro r h3 ⟨rfl,o3,f3,l3⟩
  have hid3:id<h3.length:=by omega
  have hwi:=w1 (i:=i) (by omega)
  have hkn:k+bA (l.take (i+1))=kk+1+e.params.length+aU e.body:=by omega
  have oA3:OwnL true h3 [A] [ay (jJ (kk+1) e.params.length)] I1:=o2.frame fun j hj=>by
   have:=o2.lt hj
   rw[f3 j this (fun hm=>d12 j hj j hm rfl)]
  have hgo:=s7 h3 [.p (.str (dm kk)),A,B] (by rw[f3 id (by omega) x2,g2]) (fun j hj hn hm=>by
   simp only[List.mem_append,not_or] at hm
   rw[f3 j (by omega) hm.2,f2 j hj hm.1,List.getElem?_set_ne (fun e=>hn e.symm)]) (by
   rw[BF];exact .p _ (fun _=>rfl) (oA3.app o3)) (Fd.cs_len _) (by omega)
  simp-implicitDefEqProofs[aa]
  refine⟨⟨i+1,h3⟩,hgo,by simp only;omega,aP hgo.2.2.2 ?_⟩
  simp[below,hid3,hwi]
  omega
 ·simp at h1
  have hie:i=l.length:=by have:=hI.1;simp at this;omega
  obtain⟨⟨rows2,d1⟩,d2,d3⟩:=hI.done (by simpa using h1) (by simp[px])
  subst hie
  rw[List.take_length]
  simp-implicitDefEqProofs[]
  refine⟨by simp,?_,d2,d3⟩
  have:=d1.tree (n:=l.length) (by simp[px])
  exact this
theorem nu(l:List Fd)(h:List AO)(v:AV)(I:List Nat)(k:Nat)(ho:OwnL true h [v] [fdL l] I)(nd:I.Nodup)(hk:k+bA l≤1152921504606846976):
 AC Tryz.prog G db [.agg [v],.p (.int .i64 k)] h (Mkd h v I (fdL (mU k l)) (.int .i64 ((k+bA l:Nat):Int))):=by
 obtain⟨c1,c2⟩:=bz ho
 have hm:=Bx G l (h++[.row 1 [[v]]]) v I k (ho.more _) nd hk
 refine AC.go nL ?_
 simp-implicitDefEqProofs[-AV.cells,-AV.isCell,cT,aD,aQ,cV,aE,c1,c2,ir]
 refine hm.mono ?_
 rintro r h2 ⟨rfl,o2,f2,l2⟩
 simp-implicitDefEqProofs[aa]
 rw[List.length_append] at f2 l2
 refine⟨by simp,o2,fun j hj hn=>?_,by omega⟩
 rw[f2 j (by omega) hn,List.getElem?_append_left hj]
end Go.Proofs.YtnjbhgpbgmpkcaaGreatDoor
namespace Go.Proofs.YtnjbhgpbgmpkcaaGreatDoor
open Go Go.Aw
set_option maxRecDepth 100000
set_option maxHeartbeats 4000000
variable (G:aA)
theorem wn:∀(N:Nat) (l:List Ex),aH l<N→∀(k:Nat),k+3*aH l≤1152921504606846976→VF Tryz.prog G dU [.p (exL (kY k l)),.p (.int .i64 k)] (.p (.int .i64 ((k+3*aH l:Nat):Int))):=by
 intro N
 induction N with
 |zero=>intro l hl;omega
 |succ N ih=>
  intro l hl k hk
  have hxl:∀l,exL l= .lst 4 (l.map Ex.cs):=fun _=>rfl
  have hll:=uG l
  have hlen:=oO l k
  refine AC.go qy ?_
  simp-implicitDefEqProofs[jV]
  refine az (fun i:Nat=>aj 50 [(0,.p (exL (kY k l))),(1,.p (.int .i64 ((k+3*aH (l.take i):Nat):Int))),(5,.p (.int .i64 i))]) (fun _=>[]) (fun i=>i≤l.length) (fun i=>l.length-i) 0 (by simp) ?_ ?_
  ·exact aC rfl (by simp[below,hxl,aH])
  intro i hi
  simp-implicitDefEqProofs[hxl,hlen]
  refine bh (fun h1=>?_) (fun h1=>?_)
  ·simp at h1
   have hg0:=List.getElem?_eq_getElem h1
   have hP:=sr h1
   have hM:=uy (List.getElem_mem h1)
   have hT:=uv l (i+1)
   generalize l[i]=e at hg0 hP hM
   have hpe:=e.parts_eq
   have hg:(kY k l)[i]?=some (mkE (k+3*aH (l.take i)) e):=vl l k i e hg0
   have hcs:=DD (k+3*aH (l.take i)) e
   clear hlen
   have hh:=ih e.kids (by omega) (k+3*aH (l.take i)+3) (by omega)
   have hmt:=eS G (k+3*aH (l.take i)+2) (by omega)
   generalize hkk:k+3*aH (l.take i)=kk at*
   have hkI:(k:Int)+3*(aH (l.take i):Int)=(kk:Int):=by omega
   have w0:IntKind.i64.wrap ((kk:Int)+1)=((kk+1:Nat):Int):=by rw[ag (by omega) (by omega)];omega
   have w2:IntKind.i64.wrap (((kk+1:Nat):Int)+1)=((kk+2:Nat):Int):=by rw[ag (by omega) (by omega)];omega
   have w3:IntKind.i64.wrap (((kk+2:Nat):Int)+1)=((kk+3:Nat):Int):=by rw[ag (by omega) (by omega)];omega
   have hnn:¬((kk+3+3*aH e.kids:Nat):Int)<0:=by omega
   have hev:kk+3+3*aH e.kids=k+3*aH (l.take (i+1)):=by omega
   generalize hq:kk+3+3*aH e.kids=q at*
   generalize hk1:((kk+1:Nat):Int)=k1 at*
   generalize hk2:((kk+2:Nat):Int)=k2 at*
   generalize hk3:((kk+3:Nat):Int)=k3 at*
   rw[hxl] at hh hcs
   simp-implicitDefEqProofs[hg,hcs,hkI,w0,w2,w3]
   refine hmt.use ?_
   simp-implicitDefEqProofs[hg,hcs,w3]
   refine hh.use ?_
   simp-implicitDefEqProofs[hnn]
   refine⟨i+1,h1,by omega,aC rfl ?_⟩
   simp[below,hxl,w1 (i:=i) (by omega)]
   omega
  ·simp at h1
   have hie:i=l.length:=by omega
   subst hie
   rw[List.take_length]
   simp-implicitDefEqProofs[]
theorem xo:∀(N:Nat) (l:List Sm),aU l<N→∀(k:Nat),k+aU l≤1152921504606846976→VF Tryz.prog G cJ [.p (smL (jR k l)),.p (.int .i64 k)] (.p (.int .i64 ((k+aU l:Nat):Int))):=by
 intro N
 induction N with
 |zero=>intro l hl;omega
 |succ N ih=>
  intro l hl k hk
  have hxl:∀l,smL l= .lst 5 (l.map Sm.cs):=fun _=>rfl
  have hll:=wc l
  have hlen:=pk l k
  refine AC.go pU ?_
  simp-implicitDefEqProofs[jO]
  refine az (fun i:Nat=>aj 59 [(0,.p (smL (jR k l))),(1,.p (.int .i64 ((k+aU (l.take i):Nat):Int))),(5,.p (.int .i64 i))]) (fun _=>[]) (fun i=>i≤l.length) (fun i=>l.length-i) 0 (by simp) ?_ ?_
  ·exact aC rfl (by simp[below,hxl,aU])
  intro i hi
  simp-implicitDefEqProofs[hxl,hlen]
  refine bh (fun h1=>?_) (fun h1=>?_)
  ·simp at h1
   have hg0:=List.getElem?_eq_getElem h1
   have hP:=tX h1
   have hM:=wg (List.getElem_mem h1)
   have hT:=oU l (i+1)
   generalize l[i]=e at hg0 hP hM
   have hpe:=e.mq_eq
   have hg:(jR k l)[i]?=some (mkS (k+aU (l.take i)) e):=uN l k i e hg0
   have hcs:=BV (k+aU (l.take i)) e
   clear hlen
   generalize hkk:k+aU (l.take i)=kk at*
   have hA:=wn G (aH e.args+1) e.args (by omega) (kk+2) (by omega)
   have hB:=ih e.body (by omega) (kk+2+3*aH e.args) (by omega)
   have hE:=ih e.els (by omega) (kk+2+3*aH e.args+aU e.body) (by omega)
   have hmt:=eS G (kk+1) (by omega)
   have hkI:(k:Int)+(aU (l.take i):Int)=(kk:Int):=by omega
   have w0:IntKind.i64.wrap ((kk:Int)+1)=((kk+1:Nat):Int):=by rw[ag (by omega) (by omega)];omega
   have w2:IntKind.i64.wrap (((kk+1:Nat):Int)+1)=((kk+2:Nat):Int):=by rw[ag (by omega) (by omega)];omega
   have hn1:¬((kk+2+3*aH e.args:Nat):Int)<0:=by omega
   have hn2:¬((kk+2+3*aH e.args+aU e.body:Nat):Int)<0:=by omega
   have hn3:¬((kk+2+3*aH e.args+aU e.body+aU e.els:Nat):Int)<0:=by omega
   have hev:kk+2+3*aH e.args+aU e.body+aU e.els=k+aU (l.take (i+1)):=by omega
   generalize hk2:((kk+2:Nat):Int)=k2 at*
   generalize hk1:((kk+1:Nat):Int)=k1 at*
   generalize hqe:kk+2+3*aH e.args+aU e.body+aU e.els=qe at*
   generalize hqb:kk+2+3*aH e.args+aU e.body=qb at*
   generalize hqa:kk+2+3*aH e.args=qa at*
   rw[hxl] at hB hE
   simp only[hxl] at hcs
   simp-implicitDefEqProofs[hg,hcs,hkI,w0,w2]
   refine hmt.use ?_
   simp-implicitDefEqProofs[hg,hcs,w2]
   refine hA.use ?_
   simp-implicitDefEqProofs[hg,hcs,hn1]
   refine hB.use ?_
   simp-implicitDefEqProofs[hg,hcs,hn2]
   refine hE.use ?_
   simp-implicitDefEqProofs[hn3]
   refine⟨i+1,h1,by omega,aC rfl ?_⟩
   simp[below,hxl,w1 (i:=i) (by omega)]
   omega
  ·simp at h1
   have hie:i=l.length:=by omega
   subst hie
   rw[List.take_length]
   simp-implicitDefEqProofs[]
theorem Au(l:List Fd)(k:Nat)(hk:k+bA l≤1152921504606846976):VF Tryz.prog G iY [.p (fdL (mU k l)),.p (.int .i64 k)] (.p (.int .i64 ((k+bA l:Nat):Int))):=by
 have hxl:∀l,fdL l= .lst 3 (l.map Fd.cs):=fun _=>rfl
 have hll:=vU l
 have hlen:=px l k
 refine AC.go se ?_
 simp-implicitDefEqProofs[mo]
 refine az (fun i:Nat=>aj 41 [(0,.p (fdL (mU k l))),(1,.p (.int .i64 ((k+bA (l.take i):Nat):Int))),(5,.p (.int .i64 i))]) (fun _=>[]) (fun i=>i≤l.length) (fun i=>l.length-i) 0 (by simp) ?_ ?_
 ·exact aC rfl (by simp[below,hxl,bA])
 intro i hi
 simp-implicitDefEqProofs[hxl,hlen]
 refine bh (fun h1=>?_) (fun h1=>?_)
 ·simp at h1
  have hg0:=List.getElem?_eq_getElem h1
  have hP:=ul h1
  have hM:=xd (List.getElem_mem h1)
  have hT:=pz l (i+1)
  generalize l[i]=e at hg0 hP hM
  have hpe:e.mq=1+e.params.length+aU e.body:=rfl
  have hg:(mU k l)[i]?=some (mkF (k+bA (l.take i)) e):=vr l k i e hg0
  have hcs:=BF (k+bA (l.take i)) e
  clear hlen
  generalize hkk:k+bA (l.take i)=kk at*
  have hA:=tC G (kk+1) e.params.length (by omega)
  have hB:=xo G (aU e.body+1) e.body (by omega) (kk+1+e.params.length) (by omega)
  have hmt:=eS G kk (by omega)
  have hkI:(k:Int)+(bA (l.take i):Int)=(kk:Int):=by omega
  have w0:IntKind.i64.wrap ((kk:Int)+1)=((kk+1:Nat):Int):=by rw[ag (by omega) (by omega)];omega
  have hn1:¬((kk+1+e.params.length:Nat):Int)<0:=by omega
  have hn2:¬((kk+1+e.params.length+aU e.body:Nat):Int)<0:=by omega
  have hev:kk+1+e.params.length+aU e.body=k+bA (l.take (i+1)):=by omega
  generalize hk1:((kk+1:Nat):Int)=k1 at*
  generalize hqb:kk+1+e.params.length+aU e.body=qb at*
  generalize hqa:kk+1+e.params.length=qa at*
  simp-implicitDefEqProofs[hg,hcs,hkI,w0]
  refine hmt.use ?_
  simp-implicitDefEqProofs[hg,hcs,w0]
  refine hA.use ?_
  simp-implicitDefEqProofs[hg,hcs,hn1]
  refine hB.use ?_
  simp-implicitDefEqProofs[hn2]
  refine⟨i+1,h1,by omega,aC rfl ?_⟩
  simp[below,hxl,w1 (i:=i) (by omega)]
  omega
 ·simp at h1
  have hie:i=l.length:=by omega
  subst hie
  rw[List.take_length]
  simp-implicitDefEqProofs[]
theorem tA(l:List Fd)(k:Nat)(hk:k+bA l≤1152921504606846976):VF Tryz.prog G dg [.agg [.p (fdL (mU k l))],.p (.int .i64 k)] (.p (.int .i64 ((k+bA l:Nat):Int))):=by
 have hF:=Au G l k hk
 have hn1:¬((k+bA l:Nat):Int)<0:=by omega
 generalize hqa:k+bA l=qa at*
 refine AC.go nW ?_
 simp-implicitDefEqProofs[iT]
 refine hF.use ?_
 simp-implicitDefEqProofs[hn1]
end Go.Proofs.YtnjbhgpbgmpkcaaGreatDoor
namespace Go.Proofs.YtnjbhgpbgmpkcaaGreatDoor
open Go Go.Aw
set_option maxRecDepth 100000
mutual
theorem Ex.parts_szI:∀e:Ex,e.parts≤e.sz
 | .mk _ _ w k=>by
   have:=sh k
   rw[Ex.parts_eq,Ex.sz_eq]
   simp only[Ex.kids,Ex.name]
   omega
theorem sh:∀l:List Ex,aH l≤bK l
 |[]=>by simp[aH]
 |e::r=>by
  have h1:=Ex.parts_szI e
  have h2:=sh r
  rw[aH,bK]
  omega
end
mutual
theorem Sm.mq_sz:∀s:Sm,s.mq≤3*s.sz
 | .mk _ w a b e=>by
   have h1:=sh a
   have h2:=ph b
   have h3:=ph e
   rw[Sm.mq_eq,Sm.sz_eq]
   simp only[Sm.args,Sm.body,Sm.els,Sm.name]
   omega
theorem ph:∀l:List Sm,aU l≤3*aG l
 |[]=>by simp[aU]
 |s::r=>by
  have h1:=Sm.mq_sz s
  have h2:=ph r
  rw[aU,aG]
  omega
end
theorem ti:∀l:List Fd,bA l≤3*bm l
 |[]=>by simp[bA]
 |f::r=>by
  have h1:=ph f.body
  have h2:=ti r
  have e1:bm (f::r)=f.sz+bm r:=by simp[bm]
  have e2:bA (f::r)=f.mq+bA r:=by simp[bA]
  have e3:f.mq=1+f.params.length+aU f.body:=rfl
  have e4:f.sz=1+f.name.length+(f.params.length+(f.params.map List.length).sum)+aG f.body:=rfl
  omega
end Go.Proofs.YtnjbhgpbgmpkcaaGreatDoor
namespace Go.Proofs.YtnjbhgpbgmpkcaaGreatDoor
open Go Go.Aw
set_option maxRecDepth 100000
set_option maxHeartbeats 4000000
variable (G:aA) (hK:G fS=some fq) (hS:G dj=some [.tbl opK opV])
include hK hS
theorem pB(l:List Fd)(hf:GL l):VF Tryz.prog G dB [.agg [.p (fdL l)]] (.p (.bool true)):=by
 refine AC.go io ?_
 have hsz':VF Tryz.prog G dR [.agg [.p (fdL l)],.p (.int .i64 1048576)] (.p (.int .i64 (bE 1048576 (bm l)))):=wl G l hf 1048576 (Nat.le_refl _)
 simp-implicitDefEqProofs[dz]
 refine hsz'.use ?_
 by_cases hz:bm l≤1048576
 case neg=>
  rw[bx hz]
  simp-implicitDefEqProofs[]
 have hto:=xx G l hz
 have hnn:¬((1048576-bm l:Nat):Int)<0:=by omega
 have hrz:=EM l
 have hot:=fun h:List AO=>AC.mkLift gt (vV G l hz) (h:=h) (by simp)
 have hin:∀(h:List AO) (v:AV) (I:List Nat),OwnL true h [v] [fdL l] I→AC Tryz.prog G aY [.agg [v]] h (Mk (Ag (gF l)) true [fdL (jv l)] h):=fun h v I ho=>AC.mkLend (xm _) (kR G hK hS l (by omega)) (.agg ho.views .nil)
 have hpu:VF Tryz.prog G aY [.agg [.p (fdL l)]] (.tup [.agg [.p (fdL (jv l))],.p (.bool (gF l))]):=AC.mkFreeze (xm _) (kR G hK hS l (by omega))
 have hsR:=rj G l (by omega)
 have hQ:=ti l
 have hQr:=ti (jv l)
 have heq:=qQ G (jv l) (by omega)
 have hmr:=fun h v I=>nu G (jv l) h v I 1
 have hhr:=tA G (jv l) 1 (by omega)
 generalize jv l=rp at*
 generalize gF l=ok at*
 rw[du hz]
 simp-implicitDefEqProofs[hnn]
 refine hto.use ?_
 simp-implicitDefEqProofs[]
 refine hsR.use ?_
 simp-implicitDefEqProofs[]
 refine(hot _).mono ?_
 rintro x h2 ⟨vs,I,os,rfl,e2,ho,nd,hf⟩
 obtain⟨v,rfl⟩:=aS ho
 obtain⟨c1,c2⟩:=bz ho
 simp-implicitDefEqProofs[-AV.cells,-AV.isCell,cT,aD,aQ,cV,aE,c1,c2,aa]
 refine(hin _ v I (ho.more _)).mono ?_
 rintro x h3 ⟨vs6,I6,os6,rfl,e3,ho6,nd6,hf6⟩
 obtain⟨v6,rfl⟩:=aS ho6
 obtain⟨c3,c4⟩:=bz ho6
 have hb0:h3[0]?=some (.row 1 [[.p (fdL l)]]):=by rw[e3,e2];rfl
 have hb4:h3[1]?=some (.row 1 [[.p (fdL rp)]]):=by rw[e3,e2];rfl
 have hb5:h3[h2.length]?=some (.row 1 [[v]]):=by rw[e3];simp
 have ho3:OwnL true h3 [v] [fdL l] I:=by rw[e3];exact(ho.more _).more _
 have hlen3:h2.length<h3.length:=(List.getElem?_eq_some_iff.1 hb5).1
 have hI1:∀i∈I,2≤i:=fun i hi=>hf i hi
 have h6:∀i∈I6,h2.length<i:=fun i hi=>by have:=hf6 i hi;simp at this;omega
 have hnil:1<h2.length:=by rw[e2];simp
 have hg0:∀t,(h3++t)[0]?=some (.row 1 [[.p (fdL l)]]):=fun t=>by rw[List.getElem?_append_left (by omega)];exact hb0
 have hg4:∀t,(h3++t)[1]?=some (.row 1 [[.p (fdL rp)]]):=fun t=>by rw[List.getElem?_append_left (by omega)];exact hb4
 have hg5:∀t,(h3++t)[h2.length]?=some (.row 1 [[v]]):=fun t=>by rw[List.getElem?_append_left (by omega)];exact hb5
 have hdl:=fun h v6 I6 (ho6:OwnL true h [v6] [fdL rp] I6)=>heq.lend (h:=h) (args:=[.agg [v6],.agg [.p (fdL rp)]]) (.agg ho6.views (.keep (by simp[below]) .nil)) rfl
 simp-implicitDefEqProofs[-AV.cells,-AV.isCell,cT,aD,aQ,cV,aE,c1,c2,c3,c4,aa,Ag,hg0,hg4,hg5]
 have hG0:=hg0 [.row 1 [[v6]]]
 have hG4:=hg4 [.row 1 [[v6]]]
 have hG5:=hg5 [.row 1 [[v6]]]
 have hG7:(h3++[AO.row 1 [[v6]]])[h3.length]?=some (.row 1 [[v6]]):=by simp
 have ho3':=ho3.more [.row 1 [[v6]]]
 have ho6':=ho6.more [.row 1 [[v6]]]
 have h6':∀i∈I6,h2.length<i∧i<h3.length:=fun i hi=>⟨h6 i hi,ho6.lt hi⟩
 have hI2:∀i∈I,i<h2.length:=fun i hi=>ho.lt hi
 generalize hn3:h3.length=n3 at*
 generalize hn2:h2.length=n2 at*
 generalize h3++[AO.row 1 [[v6]]]=h4 at*
 clear hg0 hg4 hg5 hb0 hb4 hb5 ho3 ho6 ho e3 hf6 h6
 refine(hdl _ v6 I6 ho6').mono ?_
 rintro x h5 ⟨rfl,rfl⟩
 simp-implicitDefEqProofs[aa,hG0,hG4,hG5,hG7]
 refine hto.use ?_
 simp-implicitDefEqProofs[aa,hG0,hG4,hG5,hG7]
 have hep:=fun h v I (ho:OwnL true h [v] [fdL l] I)=>(qQ G l hz).lend (h:=h) (args:=[.agg [v],.agg [.p (fdL l)]]) (.agg ho.views (.keep (by simp[below]) .nil)) rfl
 refine(hep _ v I ho3').mono ?_
 rintro x h5 ⟨rfl,rfl⟩
 simp-implicitDefEqProofs[aa,hG0,hG4,hG5,hG7]
 refine(nu G l _ v I 1 ho3' nd (by omega)).mono ?_
 rintro x h6 ⟨rfl,o7,f7,l7⟩
 have hnn7:¬(1:Int)+(bA l:Int)<0:=by omega
 have hL4:n3<h5.length:=(List.getElem?_eq_some_iff.1 hG7).1
 have fG0:h6[0]?=some (.row 1 [[.p (fdL l)]]):=by rw[f7 _ (by omega) fun hm=>by have:=hI1 _ hm;omega,hG0]
 have fG4:h6[1]?=some (.row 1 [[.p (fdL rp)]]):=by rw[f7 _ (by omega) fun hm=>by have:=hI1 _ hm;omega,hG4]
 have fG7:h6[n3]?=some (.row 1 [[v6]]):=by rw[f7 _ hL4 fun hm=>by have:=hI2 _ hm;omega,hG7]
 have fo6:OwnL true h6 [v6] [fdL rp] I6:=ho6'.frame fun i hi=>f7 i (ho6'.lt hi) fun hm=>by have:=h6' i hi;have:=hI2 i hm;omega
 clear hG0 hG4 hG5 hG7
 simp-implicitDefEqProofs[aa,fG0,fG4,fG7,hnn7]
 refine(hdl _ v6 I6 fo6).mono ?_
 rintro x h7 ⟨rfl,rfl⟩
 simp-implicitDefEqProofs[aa,fG0,fG4,fG7,hnn7]
 refine(hmr _ v6 I6 fo6 nd6 (by omega)).mono ?_
 rintro x h8 ⟨rfl,o8,f8,l8⟩
 have hL7:n3<h7.length:=(List.getElem?_eq_some_iff.1 fG7).1
 have gG0:h8[0]?=some (.row 1 [[.p (fdL l)]]):=by rw[f8 _ (by omega) fun hm=>by have:=h6' _ hm;omega,fG0]
 have gG4:h8[1]?=some (.row 1 [[.p (fdL rp)]]):=by rw[f8 _ (by omega) fun hm=>by have:=h6' _ hm;omega,fG4]
 have gG7:h8[n3]?=some (.row 1 [[v6]]):=by rw[f8 _ hL7 fun hm=>by have:=h6' _ hm;omega,fG7]
 clear fG0 fG4 fG7
 have hhe:=fun h v6 I6 (ho6:OwnL true h [v6] [fdL (mU 1 rp)] I6)=>hhr.lend (h:=h) (args:=[.agg [v6],.p (.int .i64 1)]) (.agg ho6.views (.keep (by simp[below]) .nil)) rfl
 have hnn9:¬(1:Int)+(bA rp:Int)<0:=by omega
 simp-implicitDefEqProofs[aa,gG0,gG4,gG7]
 refine(hhe _ v6 I6 o8).mono ?_
 rintro x h9 ⟨rfl,rfl⟩
 simp-implicitDefEqProofs[aa,gG0,gG4,gG7,hnn9]
 refine hto.use ?_
 simp-implicitDefEqProofs[aa,gG0,gG4,gG7]
 refine hpu.use ?_
 have kG4:(h9++[AO.row 1 [[.p (fdL rp)]]])[1]?=some (.row 1 [[.p (fdL rp)]]):=by rw[List.getElem?_append_left (by omega)];exact gG4
 have kG7:(h9++[AO.row 1 [[.p (fdL rp)]]])[n3]?=some (.row 1 [[v6]]):=by rw[List.getElem?_append_left (by omega)];exact gG7
 have kG9:(h9++[AO.row 1 [[.p (fdL rp)]]])[h9.length]?=some (.row 1 [[.p (fdL rp)]]):=by simp
 have ko:=o8.more [AO.row 1 [[.p (fdL rp)]]]
 simp-implicitDefEqProofs[aa,gG0,gG4,gG7,kG4,kG7,kG9]
 refine heq.use ?_
 simp-implicitDefEqProofs[aa,kG4,kG7,kG9]
 refine(hhe _ v6 I6 ko).mono ?_
 rintro x h10 ⟨rfl,rfl⟩
 simp-implicitDefEqProofs[aa,kG4,kG7,kG9,hnn9]
end Go.Proofs.YtnjbhgpbgmpkcaaGreatDoor
