/-
  Contracts and lemmas that the card needs, part 7.
-/
import Derived.Test.YtaopbokndkdieaaGreatDoorSm6
namespace Go.Proofs.YtaopbokndkdieaaGreatDoor
open Go Go.Aw
set_option maxRecDepth 100000
set_option maxHeartbeats 4000000
def K_impl_checker_block:AK:= .seq (.reg [oM 14 1,oJ 15 (.len false (.t 14)),oK 16 0]) (.blk 0 (.loop (.seq (.reg [oJ 17 (.bin .lss (.t 16) (.t 15))]) (.seq (.cond (.t 17) (.skip) (.exit 0)) (.seq (.blk 1 (.seq (.reg [oJ 18 (.idxS 5 (.t 14) (.t 16)),oJ 19 (.ld (some 5) (.t 18)),oJ 7 (.alloc [(.p (.int .i64 0)),(.p (.str [])),.nils,.nils,.nils]),⟨none,none,.st 5 (.t 7) (.t 19)⟩]) (.seq (.seq (.reg [oF 20 2 7,oL 21 20,oJ 22 (.len false (.t 21)),oK 23 0]) (.blk 2 (.loop (.seq (.reg [oJ 24 (.bin .lss (.t 23) (.t 22))]) (.seq (.cond (.t 24) (.skip) (.exit 2)) (.seq (.blk 3 (.seq (.reg [oJ 25 (.idxS 4 (.t 21) (.t 23)),oJ 26 (.ld (some 4) (.t 25)),oJ 9 (.alloc [(.p (.int .i64 0)),(.p (.int .i64 0)),(.p (.str [])),.nils]),⟨none,none,.st 4 (.t 9) (.t 26)⟩]) (.reg [oM 27 0,oJ 28 (.ld (some 4) (.t 9)),oM 29 2,oJ 30 (.call cG [(.t 27),(.t 28),(.t 29)])]))) (.reg [oJ 31 (.bin .add (.t 23) (.c (.p (.int .i64 1)))),oM 23 31]))))))) (.cut (.seq (.reg [oF 32 0 7,oL 33 32]) (.blk 4 (.seq (.reg [oJ 35 (.bin .eql (.t 33) (.c (.p (.int .i64 1)))),oM 34 35]) (.cond (.t 34) (.seq (.seq (.reg [oM 37 2,oN 38 37,oF 39 0 38,oF 41 1 7,oL 40 39,oL 42 41,oJ 43 (.lk 1 (.p (.int .i64 0)) true (.t 40) (.t 42)),oM 36 43,oJ 44 (.ext 0 (.t 36)),oJ 45 (.ext 1 (.t 36)),oM 10 44,oM 11 45]) (.seq (.reg [oM 46 11]) (.cond (.t 46) (.reg [oM 47 0,oJ 48 (.call aw [(.t 47),(.c (.p (.int .i64 2)))])]) (.skip)))) (.reg [oM 49 2,oN 50 49,oF 51 0 50,oF 53 1 7,oL 52 51,oL 54 53,⟨none,none,.mup 1 (.t 52) (.t 54) (.c (.p (.int .i64 0)))⟩])) (.seq (.reg [oJ 56 (.bin .eql (.t 33) (.c (.p (.int .i64 2)))),oM 55 56]) (.cond (.t 55) (.seq (.reg [oM 58 2,oF 59 1 7,oL 60 59,oJ 61 (.call bG [(.t 58),(.t 60)]),oM 57 61,oJ 62 (.ext 0 (.t 57)),oJ 63 (.ext 1 (.t 57)),oM 12 62,oM 13 63]) (.seq (.reg [oM 64 13,oJ 65 (.not (.t 64))]) (.cond (.t 65) (.reg [oM 66 0,oJ 67 (.call aw [(.t 66),(.c (.p (.int .i64 3)))])]) (.skip)))) (.skip))))))) (.seq (.reg [oF 68 0 7,oL 69 68,oJ 70 (.bin .eql (.t 69) (.c (.p (.int .i64 5)))),oM 71 70,⟨(some 72),some (71,false),.fldA 0 (.t 7)⟩,⟨(some 73),some (71,false),.ld none (.t 72)⟩,⟨(some 74),some (71,false),.bin .eql (.t 73) (.c (.p (.int .i64 6)))⟩,oJ 75 (.pick (.t 71) (.c (.p (.bool true))) (.t 74))]) (.cond (.t 75) (.seq (.reg [oM 76 0,oF 77 3 7,oM 79 2,oL 78 77,oJ 80 (.call bu [(.t 79)]),⟨none,none,.chk none 77 78⟩,oJ 81 (.call aU [(.t 76),(.t 78),(.t 80)])]) (.reg [oM 82 0,oF 83 4 7,oM 85 2,oL 84 83,oJ 86 (.call bu [(.t 85)]),⟨none,none,.chk none 83 84⟩,oJ 87 (.call aU [(.t 82),(.t 84),(.t 86)])])) (.skip))))))) (.reg [oJ 88 (.bin .add (.t 16) (.c (.p (.int .i64 1)))),oM 16 88]))))))
theorem ny:K_impl_checker_block.whole=F_impl_checker_block.ak:=rfl
theorem zL(fns:List Fd)(k:Nat):∀(a b:List Sm) (m:Scp) (up:List Scp) (c:Int),gw fns k (a++b) m up c=gw fns k b (gw fns k a m up c).1 up (gw fns k a m up c).2
 |[],b,m,up,c=>rfl
 |s::r,b,m,up,c=>by rw[List.cons_append,gw,gw,zL fns k r]
theorem DT{fns:List Fd}{k:Nat}{l:List Sm}{m:Scp}{up:List Scp}{c:Int}{i:Nat}(h:i<l.length):gw fns k (l.take (i+1)) m up c=icS fns k l[i] (gw fns k (l.take i) m up c).1 up (gw fns k (l.take i) m up c).2:=by
 rw[ah h,zL];rfl
def AX(b0:AO)(fns:List Fd)(k:Nat)(up:List GS)(gap:List AO)(c:Int):List AO:=b0::cO fns k c::(scH up++gap)
theorem Ka(b0:AO)(fns:List Fd)(k:Nat)(up:List GS)(gap:List AO)(c:Int):(AX b0 fns k up gap c).length=2+scL up+gap.length:=by
 simp only[AX,List.length_cons,List.length_append,kg];omega
theorem FD(b0:AO)(fns:List Fd)(k:Nat)(up:List GS)(gap:List AO)(m:Scp)(c:Int)(rest:List AO):CH b0 fns k c (⟨gap,m⟩::up)++rest=AX b0 fns k up gap c++(.mp (mpE m):: .row 2 [[.mp (2+scL up+gap.length),upV up]]::rest):=by
 simp[CH,AX,scH]
theorem Hz(b0:AO)(fns:List Fd)(k:Nat)(up:List GS)(gap:List AO)(m:Scp)(c:Int):CH b0 fns k c (⟨gap,m⟩::up)=AX b0 fns k up gap c++[.mp (mpE m),.row 2 [[.mp (2+scL up+gap.length),upV up]]]:=by
 have:=FD b0 fns k up gap m c []
 rwa[List.append_nil] at this
theorem LB{b0:AO}{fns:List Fd}{k:Nat}{up:List GS}{gap:List AO}(hb:okO 0 b0)(hs:tT up)(hg:∀o∈gap,okO (2+scL up+gap.length) o)(c:Int):∀o∈AX b0 fns k up gap c,okO (2+scL up+gap.length) o:=by
 refine ag (bK hb) (ag (by intro e he;rw[List.mem_singleton.1 he];simp[below]) ?_)
 intro o ho
 rcases List.mem_append.1 ho with h|h
 ·exact AE up hs (by omega) o h
 ·exact hg o h
theorem tE{kk L n:Nat}{A r s:List AO}{l l1:List (Nat × AV)}(hl:A.length=L)(hk:kk≤L+r.length)(ha:∀o∈A,okO L o)(hr:∀o∈r,okO (L+r.length) o)(H:FgA (L+r.length) l l1):Wk kk (aj n l) (A++(r++s)) (aj n l1) (A++r):=by
 have hll:(A++r).length=L+r.length:=by rw[List.length_append,hl]
 refine ka (m:=L+r.length) hk (fk ?_ hll ?_) H
 ·rw[←List.append_assoc,←hll,List.take_left'];rfl
 ·intro o ho
  rcases List.mem_append.1 ho with h|h
  ·exact qr (by omega) (ha o h)
  ·exact hr o h
theorem Af(m:Scp)(n:Nat):okO n (.mp (mpE m)):=by
 intro e he
 obtain⟨x,_,rfl⟩:=List.mem_map.1 he
 simp[below]
variable (G:aI)
theorem Jx(b0:AO){fns:List Fd}{k:Nat}(hf:fns.length≤1073741824)(hk:k≤fns.length)(hb:okO 0 b0):∀(N:Nat) (l:List Sm),aD l<N→aD l≤1073741824→∀(gap:List AO) (m:Scp) (up:List GS) (c:Int),tT (⟨gap,m⟩::up)→
 AC Tryz.prog G aU [.ptr 1 3 0 0,.p (smL l),upV (⟨gap,m⟩::up)] (CH b0 fns k c (⟨gap,m⟩::up)) fun x h=>x= .ret (.tup [])∧h=CH b0 fns k (gw fns k l m (sco up) c).2 (⟨gap,(gw fns k l m (sco up) c).1⟩::up):=by
 intro N
 induction N with
 |zero=>intro l h;omega
 |succ N ih=>
  intro l hl hz gap m up c hs
  have hll:=aR l
  have hsl:∀l,smL l= .lst 5 (l.map Sm.cs):=fun _=>rfl
  have hs':∀m,tT (⟨gap,m⟩::up):=fun _=>hs
  have hscl:∀m,scL (⟨gap,m⟩::up)=scL up+gap.length+2:=fun _=>rfl
  refine JG G (AC.goK nj ny ?_) (by rw[gV,gV];rfl) (by rw[gV];exact Au hb (hs' _) (by rw[hscl];exact Nat.le_of_eq (by rfl))) (by simp[below])
  have hup:upV (⟨gap,m⟩::up)= .ptr (2+scL up+gap.length+1) 2 0 0:=rfl
  have hlenC:∀c m,(CH b0 fns k c (⟨gap,m⟩::up)).length=2+scL up+gap.length+2:=fun c m=>by rw[gV,hscl];omega
  have hokC:∀c m,∀o∈CH b0 fns k c (⟨gap,m⟩::up),okO (2+scL up+gap.length+2) o:=fun c m=>Au hb (hs' m) (by rw[hscl];omega)
  have hlenA:∀c,(AX b0 fns k up gap c).length=2+scL up+gap.length:=Ka b0 fns k up gap
  simp-implicitDefEqProofs[K_impl_checker_block,F_impl_checker_block,hsl,hup]
  refine aF (fun i:Nat=>aj 89 [(0,.ptr 1 3 0 0),(2,.ptr (2+scL up+gap.length+1) 2 0 0),(14,.p (smL l)),(15,.p (.int .i64 l.length)),(16,.p (.int .i64 i))])
   (fun i=>CH b0 fns k (gw fns k (l.take i) m (sco up) c).2 (⟨gap,(gw fns k (l.take i) m (sco up) c).1⟩::up)) (fun i=>i≤l.length) (fun i=>l.length-i) 0 (by simp) ?_ ?_
  ·refine aa (h:=CH b0 fns k c (⟨gap,m⟩::up)) (Nat.le_refl _) (by rw[hlenC];exact hokC _ _) ?_
   rw[hlenC]
   simp[below,hsl]
  intro i hi
  have eT:=fun h=>DT (fns:=fns) (k:=k) (l:=l) (m:=m) (up:=sco up) (c:=c) (i:=i) h
  rw[hlenC]
  generalize hst:gw fns k (l.take i) m (sco up) c=st at eT⊢
  obtain⟨mi,ci⟩:=st
  simp only at eT⊢
  simp-implicitDefEqProofs[hsl]
  refine bh (fun h=>?_) (fun h=>?_)
  ·simp at h
   have hg:=List.getElem?_eq_getElem h
   have hse:=l[i].cs_eq
   have hsz:=l[i].sz_eq
   have hks:=aL (List.getElem_mem h)
   have eT:=eT h
   generalize l[i]=s at hg hse hsz hks eT
   obtain⟨o,nme,a,bd,el⟩:=s
   simp only[Sm.op,Sm.name,Sm.args,Sm.body,Sm.els] at hse hsz
   have hxl:exL a= .lst 4 (a.map Ex.cs):=rfl
   have hal:=aM a
   simp-implicitDefEqProofs[hg,hse,hlenC,hxl]
   have hexpr:∀(c:Int) (e:Ex) (rest:List AO),e.sz≤1073741824→AC Tryz.prog G cG [.ptr 1 3 0 0,.agg (e.cs.map .p),.ptr (2+scL up+gap.length+1) 2 0 0] (AX b0 fns k up gap c++(.mp (mpE mi):: .row 2 [[.mp (2+scL up+gap.length),upV up]]::rest)) fun x h=>x= .ret (.tup [])∧h=AX b0 fns k up gap (e.pre.foldl (fJ fns k (mi::sco up)) c)++(.mp (mpE mi):: .row 2 [[.mp (2+scL up+gap.length),upV up]]::rest):=by
    intro c e rest he
    have:=KM G (KK G b0 hf hk (⟨gap,mi⟩::up) hb (hs' mi) c e he) hb (hs' mi) rfl rest (by refine⟨by simp only[below];omega,by simp,jg _ (Nat.le_refl _),trivial⟩)
    simp only[FD] at this
    exact this
   have hfail:∀(c e:Int) (t:List AO),AC Tryz.prog G aw [.ptr 1 3 0 0,.p (.int .i64 e)] (AX b0 fns k up gap c++t) fun x h=>x= .ret (.tup [])∧h=AX b0 fns k up gap (fl c e)++t:=fun c e t=>yF G b0 fns k c e _
   have hfind:∀(c:Int) (m:Scp) (s:List UInt8) (rest:List AO),AC Tryz.prog G bG [.ptr (2+scL up+gap.length+1) 2 0 0,.p (.str s)] (AX b0 fns k up gap c++(.mp (mpE m):: .row 2 [[.mp (2+scL up+gap.length),upV up]]::rest)) fun x h=>x= .ret (.tup [.p (.int .i64 (((fT (m::sco up) s).getD 0:Nat):Int)),.p (.bool (fT (m::sco up) s).isSome)])∧h=AX b0 fns k up gap c++(.mp (mpE m):: .row 2 [[.mp (2+scL up+gap.length),upV up]]::rest):=by
    intro c m s rest
    have:=FY G b0 (cO fns k c) (⟨gap,m⟩::up) rest s
    have e:b0::cO fns k c::(scH (⟨gap,m⟩::up)++rest)=CH b0 fns k c (⟨gap,m⟩::up)++rest:=rfl
    rw[e,FD] at this
    exact this
   have hblk:∀(c:Int) (m2:Scp) (l':List Sm) (gap2:List AO),aD l'<N→aD l'≤1073741824→(∀o∈gap2,okO (2+scL up+gap.length+2+gap2.length) o)→
    AC Tryz.prog G aU [.ptr 1 3 0 0,.p (smL l'),.ptr (2+scL up+gap.length+2+gap2.length+1) 2 0 0] (AX b0 fns k up gap c++(.mp (mpE m2):: .row 2 [[.mp (2+scL up+gap.length),upV up]]::(gap2++[.mp [],.row 2 [[.mp (2+scL up+gap.length+2+gap2.length),.ptr (2+scL up+gap.length+1) 2 0 0]]])))
     fun x h=>x= .ret (.tup [])∧∃m',h=AX b0 fns k up gap (gw fns k l' [] (m2::sco up) c).2++(.mp (mpE m2):: .row 2 [[.mp (2+scL up+gap.length),upV up]]::(gap2++[.mp (mpE m'),.row 2 [[.mp (2+scL up+gap.length+2+gap2.length),.ptr (2+scL up+gap.length+1) 2 0 0]]])):=by
    intro c m2 l' gap2 h1 h2 h3
    have e1:2+scL (⟨gap,m2⟩::up)+gap2.length=2+scL up+gap.length+2+gap2.length:=by rw[hscl];omega
    have e2:∀c m',CH b0 fns k c (⟨gap2,m'⟩::⟨gap,m2⟩::up)=AX b0 fns k up gap c++(.mp (mpE m2):: .row 2 [[.mp (2+scL up+gap.length),upV up]]::(gap2++[.mp (mpE m'),.row 2 [[.mp (2+scL up+gap.length+2+gap2.length),.ptr (2+scL up+gap.length+1) 2 0 0]]])):=by
     intro c m'
     rw[←e1]
     simp[CH,AX,scH,upV]
    have:=ih l' h1 h2 gap2 [] (⟨gap,m2⟩::up) c ⟨by rw[e1];exact h3,hs' m2⟩
    rw[show upV (⟨gap2,[]⟩::⟨gap,m2⟩::up)= .ptr (2+scL up+gap.length+2+gap2.length+1) 2 0 0 by rw[←e1];rfl] at this
    rw[e2] at this
    refine this.mono ?_
    rintro x h ⟨hx,hh⟩
    exact⟨hx,(gw fns k l' [] (sco (⟨gap,m2⟩::up)) c).1,by rw[hh,e2];rfl⟩
   rw[Hz b0 fns k up gap mi ci,List.append_assoc]
   simp only[List.cons_append,List.nil_append]
   have hokA:=LB (fns:=fns) (k:=k) hb hs.2 hs.1
   generalize hL:2+scL up+gap.length=L at hexpr hfind hblk hlenA hlenC hokC hokA⊢
   have hR:okO (L+2) (.row 2 [[.mp L,upV up]]):=by
    intro e he;rw[List.mem_singleton.1 he]
    exact⟨by simp only[below];omega,jg up (by omega),trivial⟩
   have hX:okO 0 (.row 5 [[AV.p (.int .i64 o),.p (.str nme),.p (.lst 4 (a.map Ex.cs)),.p (smL bd),.p (smL el)]]):=by simp[okO]
   have ok3:∀(m:Scp),∀x∈[AO.mp (mpE m),.row 2 [[.mp L,upV up]],.row 5 [[AV.p (.int .i64 o),.p (.str nme),.p (.lst 4 (a.map Ex.cs)),.p (smL bd),.p (smL el)]]],okO (L+3) x:=fun m=>
    ag (Af _ _) (ag (qr (by omega) hR) (ag (bK hX) dR))
   refine aF (fun j:Nat=>aj 89 [(0,.ptr 1 3 0 0),(2,.ptr (L+1) 2 0 0),(7,.ptr (L+2) 5 0 0),(14,.p (smL l)),(15,.p (.int .i64 l.length)),(16,.p (.int .i64 i)),(21,.p (exL a)),(22,.p (.int .i64 a.length)),(23,.p (.int .i64 j))])
    (fun j=>AX b0 fns k up gap ((dX (a.take j)).foldl (fJ fns k (mi::sco up)) ci)++[.mp (mpE mi),.row 2 [[.mp L,upV up]],.row 5 [[AV.p (.int .i64 o),.p (.str nme),.p (.lst 4 (a.map Ex.cs)),.p (smL bd),.p (smL el)]]])
    (fun j=>j≤a.length) (fun j=>a.length-j) 0 (by simp) ?_ ?_
   ·refine tE (s:=[]) (hlenA _) (by simp) (hokA _) (ok3 _) ?_
    simp[below,hsl,hxl]
   intro j hj
   simp-implicitDefEqProofs[hxl]
   refine bh (fun hc=>?_) (fun hc=>?_)
   ·simp at hc
    have hga:=List.getElem?_eq_getElem hc
    have hka:=az (List.getElem_mem hc)
    have hkc:=a[j].cs_eq
    have hE:=hexpr ((dX (a.take j)).foldl (fJ fns k (mi::sco up)) ci) a[j] [.row 5 [[AV.p (.int .i64 o),.p (.str nme),.p (.lst 4 (a.map Ex.cs)),.p (smL bd),.p (smL el)]],.row 4 [[.p (.int .i64 a[j].op),.p (.int .i64 a[j].n),.p (.str a[j].name),.p (exL a[j].kids)]]] (by omega)
    rw[hkc] at hE
    simp-implicitDefEqProofs[hga,hkc,hlenA]
    refine hE.mono ?_
    rintro r h ⟨rfl,rfl⟩
    simp-implicitDefEqProofs[ab]
    refine⟨j+1,hc,by omega,?_⟩
    have hf2:(dX (a.take (j+1))).foldl (fJ fns k (mi::sco up)) ci=a[j].pre.foldl (fJ fns k (mi::sco up)) ((dX (a.take j)).foldl (fJ fns k (mi::sco up)) ci):=by
     rw[ah hc,kQ,List.foldl_append,dX,dX,List.append_nil]
    rw[hf2]
    refine tE (r:=[_,_,_]) (s:=[_]) (hlenA _) (by simp) (hokA _) (ok3 _) ?_
    simp[below,hsl,hxl,w1 (i:=j) (by omega)]
   simp at hc
   have hje:j=a.length:=by omega
   subst hje
   rw[List.take_length]
   have hic:icS fns k ⟨o,nme,a,bd,el⟩ mi (sco up) ci=(opS o nme mi 0,if o=5∨o=6 then(gw fns k el [] (opS o nme mi 0::sco up) (gw fns k bd [] (opS o nme mi 0::sco up) (opC o nme mi (sco up) (AZ fns k (mi::sco up) a ci))).2).2 else opC o nme mi (sco up) (AZ fns k (mi::sco up) a ci)):=rfl
   rw[hic] at eT
   clear hic
   rw[show(dX a).foldl (fJ fns k (mi::sco up)) ci=AZ fns k (mi::sco up) a ci from rfl]
   generalize AZ fns k (mi::sco up) a ci=c1 at eT⊢
   simp-implicitDefEqProofs[]
   refine kL (aj 89 [(0,.ptr 1 3 0 0),(2,.ptr (L+1) 2 0 0),(7,.ptr (L+2) 5 0 0),(14,.p (smL l)),(15,.p (.int .i64 l.length)),(16,.p (.int .i64 i))])
    (AX b0 fns k up gap (opC o nme mi (sco up) c1)++[.mp (mpE (opS o nme mi 0)),.row 2 [[.mp L,upV up]],.row 5 [[AV.p (.int .i64 o),.p (.str nme),.p (.lst 4 (a.map Ex.cs)),.p (smL bd),.p (smL el)]]]) ?_ ?_
   ·have fin:∀(r1:List (Nat × AV)) (c2:Int) (m2:Scp),Aw.look r1 0= .ptr 1 3 0 0→Aw.look r1 2= .ptr (L+1) 2 0 0→Aw.look r1 7= .ptr (L+2) 5 0 0→Aw.look r1 14= .p (smL l)→Aw.look r1 15= .p (.int .i64 l.length)→Aw.look r1 16= .p (.int .i64 i)→
     Wk (L+2) (aj 89 r1) (AX b0 fns k up gap c2++[.mp (mpE m2),.row 2 [[.mp L,upV up]],.row 5 [[AV.p (.int .i64 o),.p (.str nme),.p (.lst 4 (a.map Ex.cs)),.p (smL bd),.p (smL el)]]])
      (aj 89 [(0,.ptr 1 3 0 0),(2,.ptr (L+1) 2 0 0),(7,.ptr (L+2) 5 0 0),(14,.p (smL l)),(15,.p (.int .i64 l.length)),(16,.p (.int .i64 i))])
      (AX b0 fns k up gap c2++[.mp (mpE m2),.row 2 [[.mp L,upV up]],.row 5 [[AV.p (.int .i64 o),.p (.str nme),.p (.lst 4 (a.map Ex.cs)),.p (smL bd),.p (smL el)]]]):=by
     intro r1 c2 m2 e0 e2 e7 e14 e15 e16
     refine tE (s:=[]) (hlenA _) (by simp) (hokA _) (ok3 _) ?_
     simp[below,e0,e2,e7,e14,e15,e16]
    by_cases o1:o=1
    ·have hmg:=qM nme mi
     have hms:jt (.str nme) (.p (.int .i64 0)) (mpE mi)=some (mpE (iY mi nme 0)):=by simpa using vF nme 0 mi
     have e2:opS o nme mi 0=iY mi nme 0:=if_pos o1
     rw[e2]
     cases hh:gQ mi nme with
     |none=>
      have e1:opC o nme mi (sco up) c1=c1:=by rw[opC,if_pos o1,hh];rfl
      rw[hh] at hmg
      rw[e1]
      subst o1
      simp-implicitDefEqProofs[hlenA,hmg,hms]
      exact fin _ _ _ (by simp) (by simp) (by simp) (by simp[hsl]) (by simp) (by simp)
     |some n=>
      have e1:opC o nme mi (sco up) c1=fl c1 2:=by rw[opC,if_pos o1,hh];rfl
      rw[hh] at hmg
      rw[e1]
      subst o1
      simp-implicitDefEqProofs[hlenA,hmg,hms]
      refine(hfail c1 2 _).mono ?_
      rintro r h ⟨rfl,rfl⟩
      simp-implicitDefEqProofs[ab,hlenA,hms]
      exact fin _ _ _ (by simp) (by simp) (by simp) (by simp[hsl]) (by simp) (by simp)
    have e2:opS o nme mi 0=mi:=if_neg o1
    rw[e2]
    by_cases o2:o=2
    ·cases hh:fT (mi::sco up) nme with
     |none=>
      have e1:opC o nme mi (sco up) c1=fl c1 3:=by rw[opC,if_neg o1,if_pos o2,hh];rfl
      rw[e1]
      subst o2
      have hF:=hfind c1 mi nme [.row 5 [[AV.p (.int .i64 2),.p (.str nme),.p (.lst 4 (a.map Ex.cs)),.p (smL bd),.p (smL el)]]]
      rw[hh] at hF
      simp-implicitDefEqProofs[hlenA]
      refine hF.mono ?_
      rintro r h ⟨rfl,rfl⟩
      simp-implicitDefEqProofs[ab]
      refine(hfail c1 3 _).mono ?_
      rintro r h ⟨rfl,rfl⟩
      simp-implicitDefEqProofs[ab]
      exact fin _ _ _ (by simp) (by simp) (by simp) (by simp[hsl]) (by simp) (by simp)
     |some n=>
      have e1:opC o nme mi (sco up) c1=c1:=by rw[opC,if_neg o1,if_pos o2,hh];rfl
      rw[e1]
      subst o2
      have hF:=hfind c1 mi nme [.row 5 [[AV.p (.int .i64 2),.p (.str nme),.p (.lst 4 (a.map Ex.cs)),.p (smL bd),.p (smL el)]]]
      rw[hh] at hF
      simp-implicitDefEqProofs[hlenA]
      refine hF.mono ?_
      rintro r h ⟨rfl,rfl⟩
      simp-implicitDefEqProofs[ab]
      exact fin _ _ _ (by simp) (by simp) (by simp) (by simp[hsl]) (by simp) (by simp)
    ·have e1:opC o nme mi (sco up) c1=c1:=by rw[opC,if_neg o1,if_neg o2]
     rw[e1]
     simp-implicitDefEqProofs[hlenA,o1,o2]
     exact fin _ _ _ (by simp) (by simp) (by simp) (by simp[hsl]) (by simp) (by simp)
   generalize opC o nme mi (sco up) c1=c2 at eT⊢
   generalize opS o nme mi 0=m2 at eT⊢
   have hdrop:∀(r1:List (Nat × AV)) (c3:Int) (s:List AO),Aw.look r1 0= .ptr 1 3 0 0→Aw.look r1 2= .ptr (L+1) 2 0 0→Aw.look r1 14= .p (smL l)→Aw.look r1 15= .p (.int .i64 l.length)→Aw.look r1 16= .p (.int .i64 ((i:Int)+1))→
    Wk (L+2) (aj 89 r1) (AX b0 fns k up gap c3++([.mp (mpE m2),.row 2 [[.mp L,upV up]]]++s)) (aj 89 [(0,.ptr 1 3 0 0),(2,.ptr (L+1) 2 0 0),(14,.p (smL l)),(15,.p (.int .i64 l.length)),(16,.p (.int .i64 ((i:Int)+1)))]) (CH b0 fns k c3 (⟨gap,m2⟩::up)):=by
    intro r1 c3 s e0 e2 e14 e15 e16
    rw[Hz,hL]
    refine tE (hlenA _) (by simp) (hokA _) (ag (Af _ _) (ag hR dR)) ?_
    simp[below,e0,e2,e14,e15,e16]
   by_cases ho:o=5∨o=6
   ·rw[if_pos ho] at eT
    rcases ho with o5|o6
    ·subst o5
     simp-implicitDefEqProofs[hlenA]
     refine(uz G (.ptr (L+1) 2 0 0) (.inr ⟨_,rfl⟩) _).mono ?_
     rintro r h ⟨rfl,rfl⟩
     simp-implicitDefEqProofs[ab,hlenA]
     refine(hblk c2 m2 bd [_] (by omega) (by omega) (fun x hx=>by rw[List.mem_singleton.1 hx];exact bK (by simp[okO]))).mono ?_
     rintro r h ⟨rfl,m3,rfl⟩
     simp-implicitDefEqProofs[ab,hlenA]
     refine(uz G (.ptr (L+1) 2 0 0) (.inr ⟨_,rfl⟩) _).mono ?_
     rintro r h ⟨rfl,rfl⟩
     simp-implicitDefEqProofs[ab,hlenA]
     refine(hblk _ m2 el [_,_,_] (by omega) (by omega) (ag (bK (by simp[okO])) (ag (Af _ _) (ag (by
      intro e he;rw[List.mem_singleton.1 he]
      exact⟨by simp only[below];simp,by simp only[below];simp,trivial⟩) dR)))).mono ?_
     rintro r h ⟨rfl,m4,rfl⟩
     simp-implicitDefEqProofs[ab,hlenA]
     refine⟨i+1,by omega,by omega,?_⟩
     rw[eT]
     refine hdrop _ _ _ (by simp) (by simp) (by simp[hsl]) (by simp) (by simp[w1 (i:=i) (by omega)])
    ·subst o6
     simp-implicitDefEqProofs[hlenA]
     refine(uz G (.ptr (L+1) 2 0 0) (.inr ⟨_,rfl⟩) _).mono ?_
     rintro r h ⟨rfl,rfl⟩
     simp-implicitDefEqProofs[ab,hlenA]
     refine(hblk c2 m2 bd [_] (by omega) (by omega) (fun x hx=>by rw[List.mem_singleton.1 hx];exact bK (by simp[okO]))).mono ?_
     rintro r h ⟨rfl,m3,rfl⟩
     simp-implicitDefEqProofs[ab,hlenA]
     refine(uz G (.ptr (L+1) 2 0 0) (.inr ⟨_,rfl⟩) _).mono ?_
     rintro r h ⟨rfl,rfl⟩
     simp-implicitDefEqProofs[ab,hlenA]
     refine(hblk _ m2 el [_,_,_] (by omega) (by omega) (ag (bK (by simp[okO])) (ag (Af _ _) (ag (by
      intro e he;rw[List.mem_singleton.1 he]
      exact⟨by simp only[below];simp,by simp only[below];simp,trivial⟩) dR)))).mono ?_
     rintro r h ⟨rfl,m4,rfl⟩
     simp-implicitDefEqProofs[ab,hlenA]
     refine⟨i+1,by omega,by omega,?_⟩
     rw[eT]
     refine hdrop _ _ _ (by simp) (by simp) (by simp[hsl]) (by simp) (by simp[w1 (i:=i) (by omega)])
   ·rw[if_neg ho] at eT
    have o5:¬o=5:=fun h=>ho (.inl h)
    have o6:¬o=6:=fun h=>ho (.inr h)
    simp-implicitDefEqProofs[hlenA,o5,o6]
    refine⟨i+1,by omega,by omega,?_⟩
    rw[eT]
    refine hdrop _ _ [_] (by simp) (by simp) (by simp[hsl]) (by simp) (by simp[w1 (i:=i) (by omega)])
  ·simp at h
   have hie:i=l.length:=by omega
   subst hie
   rw[List.take_length] at hst
   rw[hst]
   simp-implicitDefEqProofs[]
end Go.Proofs.YtaopbokndkdieaaGreatDoor
namespace Go.Proofs.YtaopbokndkdieaaGreatDoor
open Go Go.Aw
set_option maxRecDepth 100000
set_option maxHeartbeats 4000000
def K_impl_CheckProgram:AK:= .seq (.reg [oJ 1 (.box 1 (.t 0)),oK 2 0]) (.seq (.seq (.reg [oJ 11 (.ld (some 1) (.t 1)),oJ 12 (.call dD [(.t 11)]),oJ 13 (.not (.t 12))]) (.cond (.t 13) (.seq (.reg [oK 2 1]) (.ret)) (.skip))) (.seq (.reg [oJ 14 (.ld (some 1) (.t 1)),oJ 15 (.bld [.nils,(.p (.int .i64 0)),(.p (.int .i64 0))] [(0,1,(.t 14))]),oJ 16 (.box 3 (.t 15)),oM 3 16]) (.seq (.seq (.reg [oF 17 0 1,oL 18 17,oJ 19 (.len false (.t 18)),oK 20 0]) (.blk 0 (.loop (.seq (.reg [oJ 21 (.bin .lss (.t 20) (.t 19))]) (.seq (.cond (.t 21) (.skip) (.exit 0)) (.seq (.blk 1 (.seq (.reg [oM 22 20,oJ 23 (.idxS 3 (.t 18) (.t 20)),oJ 24 (.ld (some 3) (.t 23)),oJ 5 (.alloc [(.p (.str [])),.nils,.nils]),oM 4 22,⟨none,none,.st 3 (.t 5) (.t 24)⟩]) (.seq (.reg [oM 25 3,oM 26 4,oN 27 25,oF 28 1 27,oS 28 26]) (.cut (.seq (.reg [oJ 29 (.ld (some 1) (.t 1)),oF 30 0 5,oL 31 30,oJ 32 (.call iq [(.t 29),(.t 31)]),oM 33 4,oJ 34 (.bin .lss (.t 32) (.t 33))]) (.cond (.t 34) (.reg [oM 35 3,oJ 36 (.call aw [(.t 35),(.c (.p (.int .i64 2)))])]) (.skip))) (.seq (.reg [oJ 37 (.call bu [(.c .nilp)]),oM 6 37]) (.seq (.seq (.reg [oF 38 1 5,oL 39 38,oJ 40 (.len false (.t 39)),oK 41 0]) (.blk 2 (.loop (.seq (.reg [oJ 42 (.bin .lss (.t 41) (.t 40))]) (.seq (.cond (.t 42) (.skip) (.exit 2)) (.seq (.blk 3 (.seq (.reg [oJ 43 (.idxS 1 (.t 39) (.t 41)),oL 44 43,oM 8 44]) (.seq (.seq (.reg [oM 46 6,oN 47 46,oF 48 0 47,oL 49 48,oM 50 8,oJ 51 (.lk 1 (.p (.int .i64 0)) true (.t 49) (.t 50)),oM 45 51,oJ 52 (.ext 0 (.t 45)),oJ 53 (.ext 1 (.t 45)),oM 9 52,oM 10 53]) (.seq (.reg [oM 54 10]) (.cond (.t 54) (.reg [oM 55 3,oJ 56 (.call aw [(.t 55),(.c (.p (.int .i64 2)))])]) (.skip)))) (.reg [oM 57 6,oN 58 57,oF 59 0 58,oL 60 59,oM 61 8,⟨none,none,.mup 1 (.t 60) (.t 61) (.c (.p (.int .i64 0)))⟩])))) (.reg [oJ 62 (.bin .add (.t 41) (.c (.p (.int .i64 1)))),oM 41 62]))))))) (.reg [oM 63 3,oF 64 2 5,oL 65 64,oM 66 6,oJ 67 (.call aU [(.t 63),(.t 65),(.t 66)])]))))))) (.reg [oJ 68 (.bin .add (.t 20) (.c (.p (.int .i64 1)))),oM 20 68]))))))) (.seq (.reg [oM 69 3,oN 70 69,oF 71 2 70,oL 72 71,oM 2 72]) (.ret)))))
theorem oY:K_impl_CheckProgram.whole=F_impl_CheckProgram.ak:=rfl
theorem xf(fns:List Fd):∀(a b:List Fd) (k:Nat) (c:Int),jR fns k (a++b) c=jR fns (k+a.length) b (jR fns k a c)
 |[],b,k,c=>rfl
 |f::r,b,k,c=>by rw[List.cons_append,jR,jR,xf fns r];congr 1;simp only[List.length_cons];omega
theorem Bv{fns l:List Fd}{i:Nat}{c:Int}(h:i<l.length):jR fns 0 (l.take (i+1)) c=icF fns i l[i] (jR fns 0 (l.take i) c):=by
 rw[ah h,xf,List.length_take,Nat.min_eq_left (Nat.le_of_lt h),Nat.zero_add];rfl
theorem HE(a b:List (List UInt8))(m:Scp)(c:Int):kx (a++b) m c=kx b (kx a m c).1 (kx a m c).2:=by simp[kx]
theorem EE{l:List (List UInt8)}{i:Nat}{m:Scp}{c:Int}(h:i<l.length):kx (l.take (i+1)) m c=(iY (kx (l.take i) m c).1 l[i] 0,if(gQ (kx (l.take i) m c).1 l[i]).isSome then fl (kx (l.take i) m c).2 2 else(kx (l.take i) m c).2):=by
 rw[ah h,HE];rfl
variable (G:aI) (hK:G dH=some dy) (hS:G bM=some [.tbl opK opV])
include hK hS
theorem vK(l:List Fd)(hl:bn l≤1073741824):VF Tryz.prog G fd [.agg [.p (fdL l)]] (.p (.int .i64 (aX l))):=by
 have hll:=bL l
 have hfl:∀l,fdL l= .lst 3 (l.map Fd.cs):=fun _=>rfl
 rw[AF]
 refine AC.goK oC oY ?_
 simp-implicitDefEqProofs[K_impl_CheckProgram,F_impl_CheckProgram]
 refine(uQ G hK hS l hl).use ?_
 by_cases hv:bH l=true
 case neg=>
  have hv':bH l=false:=by simpa using hv
  simp-implicitDefEqProofs[hv']
 rw[if_pos hv]
 simp-implicitDefEqProofs[hv,hfl]
 refine aF (fun i:Nat=>aj 73 [(1,.ptr 0 1 0 0),(3,.ptr 1 3 0 0),(18,.p (fdL l)),(19,.p (.int .i64 l.length)),(20,.p (.int .i64 i))])
  (fun i=>[.row 1 [[.p (fdL l)]],cO l (i-1) (jR l 0 (l.take i) 0)]) (fun i=>i≤l.length) (fun i=>l.length-i) 0 (by simp) ?_ ?_
 ·refine aa (h:=[.row 1 [[.p (fdL l)]],cO l 0 0]) (by simp) (by simp[okO,below,cO]) (by simp[below,hfl])
 intro i hi
 have hbo:okO 0 (.row 1 [[.p (fdL l)]]):=by simp[okO]
 simp-implicitDefEqProofs[hfl]
 refine bh (fun h=>?_) (fun h=>?_)
 ·simp at h
  have hg:=List.getElem?_eq_getElem h
  have hks:=bS (List.getElem_mem h)
  have eT:=Bv (fns:=l) (c:=0) h
  obtain⟨j,ej,ejl⟩:=xg hg
  generalize l[i]=f at*
  have hcs:f.cs=[.str f.name,aN f.params,smL f.body]:=rfl
  have hfz:f.sz=1+f.name.length+(f.params.length+(f.params.map List.length).sum)+aD f.body:=rfl
  have hst:aN f.params= .lst 1 (f.params.map fun w=>[.str w]):=rfl
  generalize jR l 0 (l.take i) 0=c0 at eT⊢
  simp-implicitDefEqProofs[hg,hcs,cO]
  have hic:icF l i f c0=(gw l i f.body (kx f.params [] (if j<i then fl c0 2 else c0)).1 [] (kx f.params [] (if j<i then fl c0 2 else c0)).2).2:=by
   rw[icF,ej];simp
  rw[hic] at eT
  clear hic
  refine kL (aj 73 [(1,.ptr 0 1 0 0),(3,.ptr 1 3 0 0),(4,.p (.int .i64 i)),(5,.ptr 2 3 0 0),(18,.p (fdL l)),(19,.p (.int .i64 l.length)),(20,.p (.int .i64 i))])
   [.row 1 [[.p (fdL l)]],cO l i (if j<i then fl c0 2 else c0),.row 3 [[.p (.str f.name),.p (aN f.params),.p (smL f.body)]]] ?_ ?_
  ·simp-implicitDefEqProofs[]
   refine(GR G l f.name (by omega)).use ?_
   rw[ej]
   by_cases hj:j<i
   ·have hj':(j:Int)<(i:Int):=by omega
    rw[if_pos hj]
    simp-implicitDefEqProofs[ixI,hj']
    refine(yF G (.row 1 [[.p (fdL l)]]) l i c0 2 [.row 3 [[.p (.str f.name),.p (aN f.params),.p (smL f.body)]]]).mono ?_
    rintro r h ⟨rfl,rfl⟩
    simp-implicitDefEqProofs[ab]
    exact aa (by simp) (by simp[okO,below,cO]) (by simp[below,hfl])
   ·have hj':¬(j:Int)<(i:Int):=by omega
    rw[if_neg hj]
    simp-implicitDefEqProofs[ixI,hj']
    exact aa (h:=[.row 1 [[.p (fdL l)]],cO l i c0,.row 3 [[.p (.str f.name),.p (aN f.params),.p (smL f.body)]]]) (by simp) (by simp[okO,below,cO]) (by simp[below,hfl])
  generalize (if j<i then fl c0 2 else c0)=c1 at eT⊢
  have hCH:∀(c:Int) (m:Scp),CH (.row 1 [[.p (fdL l)]]) l i c [⟨[.row 3 [[.p (.str f.name),.p (aN f.params),.p (smL f.body)]]],m⟩]=[.row 1 [[.p (fdL l)]],cO l i c,.row 3 [[.p (.str f.name),.p (aN f.params),.p (smL f.body)]],.mp (mpE m),.row 2 [[.mp 3,.nilp]]]:=fun _ _=>rfl
  simp-implicitDefEqProofs[]
  refine(uz G .nilp (.inl rfl) _).mono ?_
  rintro r h ⟨rfl,rfl⟩
  simp-implicitDefEqProofs[ab,hst]
  refine aF (fun q:Nat=>aj 73 [(1,.ptr 0 1 0 0),(3,.ptr 1 3 0 0),(4,.p (.int .i64 i)),(5,.ptr 2 3 0 0),(6,.ptr 4 2 0 0),(18,.p (fdL l)),(19,.p (.int .i64 l.length)),(20,.p (.int .i64 i)),(39,.p (aN f.params)),(40,.p (.int .i64 f.params.length)),(41,.p (.int .i64 q))])
   (fun q=>[.row 1 [[.p (fdL l)]],cO l i (kx (f.params.take q) [] c1).2,.row 3 [[.p (.str f.name),.p (aN f.params),.p (smL f.body)]],.mp (mpE (kx (f.params.take q) [] c1).1),.row 2 [[.mp 3,.nilp]]])
   (fun q=>q≤f.params.length) (fun q=>f.params.length-q) 0 (by simp) ?_ ?_
  ·exact aa (h:=[.row 1 [[.p (fdL l)]],cO l i c1,.row 3 [[.p (.str f.name),.p (aN f.params),.p (smL f.body)]],.mp [],.row 2 [[.mp 3,.nilp]]]) (by simp) (by simp[okO,below,cO]) (by simp[below,hfl,hst])
  intro q hq
  have eP:=fun h=>EE (l:=f.params) (i:=q) (m:=[]) (c:=c1) h
  generalize hP:kx (f.params.take q) [] c1=st at eP⊢
  obtain⟨mq,cq⟩:=st
  simp only at eP⊢
  simp-implicitDefEqProofs[hst]
  refine bh (fun hc=>?_) (fun hc=>?_)
  ·simp at hc
   have hga:=List.getElem?_eq_getElem hc
   have eP:=eP hc
   generalize f.params[q]=nme at hga eP
   have hmg:=qM nme mq
   have hms:jt (.str nme) (.p (.int .i64 0)) (mpE mq)=some (mpE (iY mq nme 0)):=by simpa using vF nme 0 mq
   have fin:∀(r1:List (Nat × AV)) (c2:Int),Aw.look r1 1= .ptr 0 1 0 0→Aw.look r1 3= .ptr 1 3 0 0→Aw.look r1 4= .p (.int .i64 i)→Aw.look r1 5= .ptr 2 3 0 0→Aw.look r1 6= .ptr 4 2 0 0→Aw.look r1 18= .p (fdL l)→Aw.look r1 19= .p (.int .i64 l.length)→Aw.look r1 20= .p (.int .i64 i)→Aw.look r1 39= .p (aN f.params)→Aw.look r1 40= .p (.int .i64 f.params.length)→Aw.look r1 41= .p (.int .i64 ((q:Int)+1))→
    Wk 0 (aj 73 r1) [.row 1 [[.p (fdL l)]],cO l i c2,.row 3 [[.p (.str f.name),.p (aN f.params),.p (smL f.body)]],.mp (mpE (iY mq nme 0)),.row 2 [[.mp 3,.nilp]]]
     (aj 73 [(1,.ptr 0 1 0 0),(3,.ptr 1 3 0 0),(4,.p (.int .i64 i)),(5,.ptr 2 3 0 0),(6,.ptr 4 2 0 0),(18,.p (fdL l)),(19,.p (.int .i64 l.length)),(20,.p (.int .i64 i)),(39,.p (aN f.params)),(40,.p (.int .i64 f.params.length)),(41,.p (.int .i64 ((q:Int)+1)))])
     [.row 1 [[.p (fdL l)]],cO l i c2,.row 3 [[.p (.str f.name),.p (aN f.params),.p (smL f.body)]],.mp (mpE (iY mq nme 0)),.row 2 [[.mp 3,.nilp]]]:=by
    intro r1 c2 e1 e3 e4 e5 e6 e18 e19 e20 e39 e40 e41
    refine aa (by simp) (ag (by simp[okO]) (ag (by simp[okO,cO]) (ag (by simp[okO]) (ag (Af _ _) (ag (by simp[okO,below]) dR))))) ?_
    simp[below,e1,e3,e4,e5,e6,e18,e19,e20,e39,e40,e41]
   cases hh:gQ mq nme with
   |none=>
    rw[hh] at hmg eP
    simp-implicitDefEqProofs[hga,hmg,hms]
    refine⟨q+1,by omega,by omega,?_⟩
    rw[eP]
    exact fin _ _ (by simp) (by simp) (by simp) (by simp) (by simp) (by simp[hfl]) (by simp) (by simp) (by simp[hst]) (by simp) (by simp[w1 (i:=q) (by omega)])
   |some n=>
    rw[hh] at hmg eP
    simp-implicitDefEqProofs[hga,hmg,hms]
    refine(yF G (.row 1 [[.p (fdL l)]]) l i cq 2 _).mono ?_
    rintro r h ⟨rfl,rfl⟩
    simp-implicitDefEqProofs[ab,hms]
    refine⟨q+1,by omega,by omega,?_⟩
    rw[eP]
    exact fin _ _ (by simp) (by simp) (by simp) (by simp) (by simp) (by simp[hfl]) (by simp) (by simp) (by simp[hst]) (by simp) (by simp[w1 (i:=q) (by omega)])
  ·simp at hc
   have hqe:q=f.params.length:=by omega
   subst hqe
   rw[List.take_length] at hP
   rw[hP] at eT
   simp only at eT
   have hB:=Jx G (.row 1 [[.p (fdL l)]]) (fns:=l) (k:=i) (by omega) (by omega) hbo (aD f.body+1) f.body (by omega) (by omega) [.row 3 [[.p (.str f.name),.p (aN f.params),.p (smL f.body)]]] mq [] cq ⟨by simp[okO],trivial⟩
   rw[hCH] at hB
   simp-implicitDefEqProofs[]
   refine hB.mono ?_
   rintro r h ⟨rfl,rfl⟩
   simp-implicitDefEqProofs[ab]
   refine⟨i+1,by omega,by omega,?_⟩
   rw[eT]
   refine ka (m:=2) (by omega) (fk rfl rfl (by simp[okO,below,cO])) (by simp[below,hfl,w1 (i:=i) (by omega)])
 ·simp at h
  have hie:i=l.length:=by omega
  subst hie
  rw[List.take_length]
  simp-implicitDefEqProofs[cO]
end Go.Proofs.YtaopbokndkdieaaGreatDoor
namespace Go.Proofs.YtaopbokndkdieaaGreatDoor
open Go Go.Aw
set_option maxRecDepth 100000
set_option maxHeartbeats 4000000
variable (G:aI)
theorem zI(l:List Fd)(hz:bn l≤1073741824):VF Tryz.prog G kH [.agg [.p (fdL l)]] (.p (.bool (decide (aX l=0)))):=by
 refine AC.go wQ ?_
 simp-implicitDefEqProofs[pu]
 refine(uB G l hz).use ?_
 simp-implicitDefEqProofs[]
variable (hK:G dH=some dy) (hS:G bM=some [.tbl opK opV])
include hK hS
theorem yn(l:List Fd)(hz:bn l≤1073741824):VF Tryz.prog G ip [.agg [.p (fdL l)]] (.p (.bool (decide (aX l=0)))):=by
 refine AC.go yY ?_
 simp-implicitDefEqProofs[sZ]
 refine(vK G hK hS l hz).use ?_
 simp-implicitDefEqProofs[]
end Go.Proofs.YtaopbokndkdieaaGreatDoor
namespace Go.Proofs.YtaopbokndkdieaaGreatDoor
open Go Go.Aw
set_option maxRecDepth 100000
set_option maxHeartbeats 4000000
def bf{σ α β:Type}(g:σ→α→β × σ):σ→List α→List β × σ
 |st,[]=>([],st)
 |st,x::r=>((g st x).1::(bf g (g st x).2 r).1,(bf g (g st x).2 r).2)
theorem zX{σ α β:Type}(g:σ→α→β × σ):∀(a b:List α) (st:σ),bf g st (a++b)=((bf g st a).1++(bf g (bf g st a).2 b).1,(bf g (bf g st a).2 b).2)
 |[],b,st=>rfl
 |x::r,b,st=>by rw[List.cons_append,bf,zX g r];rfl
theorem nO{σ α β:Type}{g:σ→α→β × σ}{l:List α}{st:σ}{i:Nat}(h:i<l.length):bf g st (l.take (i+1))=((bf g st (l.take i)).1++[(g (bf g st (l.take i)).2 l[i]).1],(g (bf g st (l.take i)).2 l[i]).2):=by
 rw[ah h,zX];rfl
theorem nG{σ α β:Type}(g:σ→α→β × σ):∀(l:List α) (st:σ),(bf g st l).1.length=l.length
 |[],st=>rfl
 |x::r,st=>by rw[bf,List.length_cons,List.length_cons,nG g r]
theorem nc{σ α β:Type}{g:σ→α→β × σ}{inv:Nat→σ→Prop}:∀{l:List α} {st:σ} {k:Nat},inv k st→(∀(i:Nat) st (h:i<l.length),inv (k+i) st→inv (k+i+1) (g st l[i]).2)→∀i,i≤l.length→inv (k+i) (bf g st (l.take i)).2
 |[],st,k,h0,_,i,hi=>by
  have:i=0:=by simpa using hi
  subst this;exact h0
 |x::r,st,k,h0,hs,0,_=>h0
 |x::r,st,k,h0,hs,i+1,hi=>by
  have h1:=hs 0 st (by simp) h0
  have:=nc (g:=g) (l:=r) (st:=(g st x).2) (k:=k+1) h1 (fun j st hj hv=>by
   have:=hs (j+1) st (by simp;omega) (by rw[show k+(j+1)=k+1+j by omega];exact hv)
   rw[show k+(j+1)+1=k+1+j+1 by omega] at this
   exact this) i (by simpa using hi)
  rw[List.take_succ_cons,bf,show k+(i+1)=k+1+i by omega]
  exact this
theorem Ko{n k:Nat}{A:List AO}{π:List Nat}{h r1:List AO}(hl:A.length=n)(ha:∀o∈A,okO n o)(hh:∀i,i<n→h[i]?=A[i]?)(ρ:List Nat)(hρ:∀i,i<n→ρ.getD i 0=i)(hρn:n≤ρ.length)(hk:k=n)(hr:HW ρ h π r1):HW ρ h (List.range' 0 k++π) (A++r1):=by
 subst hk
 have key:∀(B:List AO) (s:Nat),(∀i:Nat,B[i]?=h[s+i]?∨B.length≤i)→s+B.length=k→(∀o∈B,okO k o)→HW ρ h (List.range' s B.length++π) (B++r1):=by
  intro B
  induction B with
  |nil=>intro s _ _ _;exact hr
  |cons o r ih=>
   intro s hb hs ho
   rw[List.length_cons,List.range'_succ]
   have h0:h[s]?=some o:=by
    rcases hb 0 with h0|h0
    ·simpa using h0.symm
    ·simp at h0
   have hok:=ho o (by simp)
   have ih:=ih (s+1) (fun i=>by
    rcases hb (i+1) with h1|h1
    ·rw[List.getElem?_cons_succ] at h1;left;rw[h1];congr 1;omega
    ·right;simpa using h1) (by simp at hs;omega) (fun o ho'=>ho o (by simp[ho']))
   have hsl:=(List.getElem?_eq_some_iff.1 h0).1
   cases o with
   |dead=>exact gY hsl ih
   |row sz es=>
    refine lZ (fun x hx=>aT hρn _ (hok x hx)) ?_ ih
    rw[h0,List.map_congr_left (g:=id) fun x hx=>mX hρ x (hok x hx)];simp
   |mp es=>exact⟨hsl,⟨fun x hx=>by exact(aT hρn [x.2] ⟨hok x hx,trivial⟩).1,by rw[h0,List.map_congr_left (g:=id) fun x hx=>by rw[jc hρ x.2 (hok x hx)];rfl];simp⟩,ih⟩
   |sit s p=>exact⟨hsl,h0,ih⟩
 have:=key A 0 (fun i=>by
  rcases Nat.lt_or_ge i A.length with hi|hi
  ·left;rw[Nat.zero_add];exact(hh i (by omega)).symm
  ·right;exact hi) (by omega) ha
 rwa[hl] at this
theorem xG{kk q n m d sz c:Nat}{A mid s:List AO}{es:List (List AV)}{l l1:List (Nat × AV)}(hl:A.length=n)(hm:mid.length=m)(hk:kk≤n)(ha:∀o∈A,okO n o)(he:∀x∈es,af 0 x)(H:FgA n l l1)(hd:Aw.look l d= .sl (n+m) sz 0 c):
 Wk kk (aj q l) (A++(mid++ .row sz es::s)) (aj q ((d,.sl n sz 0 c)::l1)) (A++[.row sz es]):=by
 have hρ:∀i,i<n→(List.range' 0 n++[n+m]).getD i 0=i:=fun i hi=>by
  rw[List.getD_eq_getElem?_getD,List.getElem?_append_left (by simp;exact hi)];simp[hi]
 have hρn:(List.range' 0 n++[n+m]).getD n 0=n+m:=by
  rw[List.getD_eq_getElem?_getD,List.getElem?_append_right (by simp)];simp
 refine cr (List.range' 0 n++[n+m]) (by simp;omega) (fun i hi=>hρ i (by omega)) ?_ ?_ ?_
 ·refine List.nodup_append.2 ⟨List.nodup_range',by simp,fun a ha b hb e=>?_⟩
  rw[List.mem_singleton] at hb
  have:=(List.mem_range'_1.1 ha).2
  omega
 ·refine Ko hl ha (fun i hi=>by rw[List.getElem?_append_left (by omega)]) _ hρ (by simp) rfl ?_
  refine aE ?_ he bj
  rw[List.getElem?_append_right (by omega),hl,Nat.add_sub_cancel_left,List.getElem?_append_right (by omega),hm,Nat.sub_self];rfl
 ·refine⟨⟨by simp only[below];simp,by simp only[ren,hρn];exact hd.symm⟩,?_⟩
  clear hd
  induction l1 with
  |nil=>trivial
  |cons x r ih=>
   obtain⟨⟨a,c⟩,e⟩:=H
   exact⟨⟨(aT (by simp) [x.2] ⟨a,trivial⟩).1,by rw[jc hρ _ a,c]⟩,ih e⟩
theorem qq{hF:List AO}{n:Nat}:∀{A r:List AO},(∀o∈A,okO n o)→FzO hF n (A++r) A
 |[],r,_=> .nil r
 |o::a,r,h=> .same (h o (by simp)) (qq fun o ho=>h o (by simp[ho]))
theorem tJ{n:Nat}{A r:List AO}{o:AO}(hl:A.length=n):(tail n (A++o::r))[n]?=some o:=by
 unfold tail
 rw[List.getElem?_append_right (by simp),List.length_replicate,Nat.sub_self,←hl,List.drop_left']
 ·rfl
 ·rfl
variable (G:aI)
theorem lz{σ:Type}(V:Vis σ)(g:σ→Ex→Ex × σ)(inv:Nat→σ→Prop)(l:List Ex)(hb:l.length≤1073741824)(hn:0<V.n)
 (hv:∀(i:Nat) st (h:i<l.length),inv i st→inv (i+1) (g st l[i]).2∧AC Tryz.prog G V.F (.agg (l[i].cs.map .p)::V.caps) (V.I st) fun x h'=>x= .ret (.agg ((g st l[i]).1.cs.map .p))∧h'=V.I (g st l[i]).2)(st:σ)(h0:inv 0 st):
 AC Tryz.prog G aG [.p (exL l),.fn (.func V.F) V.caps] (V.I st) fun x h=>x= .ret (.p (exL (bf g st l).1))∧h=V.I (bf g st l).2:=by
 have hxl:∀l,exL l= .lst 4 (l.map Ex.cs):=fun _=>rfl
 have hlen:=V.len
 have hcb:=V.capsOk
 have hinv:∀i,i≤l.length→inv i (bf g st (l.take i)).2:=fun i hi=>by
  have:=nc (g:=g) (inv:=inv) (l:=l) (st:=st) (k:=0) h0 (fun i st h hi=>by
   rw[Nat.zero_add] at hi⊢;exact(hv i st h hi).1) i hi
  rwa[Nat.zero_add] at this
 have hRp:∀l:List Ex,∀x∈exR l,af 0 x:=jG
 have hRl:∀l:List Ex,(exR l).length=l.length:=fun l=>by simp[exR]
 have hRa:∀(l:List Ex) (y:Ex),exR (l++[y])=exR l++[y.cs.map .p]:=fun l y=>by simp[exR]
 have key:AC Tryz.prog G aG [.p (exL l),.fn (.func V.F) V.caps] (V.I st) fun x h=>x= .ret (slE V.n 4 (exR (bf g st l).1))∧h=V.I (bf g st l).2++[dY 4 (exR (bf g st l).1)]:=by
  refine AC.go lr ?_
  simp-implicitDefEqProofs[fO,hxl]
  refine aF (fun i:Nat=>aj 22 [(5,slE V.n 4 (exR (bf g st (l.take i)).1)),(0,.p (exL l)),(1,.fn (.func V.F) V.caps),(8,.p (exL l)),(9,.p (.int .i64 l.length)),(10,.p (.int .i64 i))])
   (fun i=>V.I (bf g st (l.take i)).2++[dY 4 (exR (bf g st (l.take i)).1)]) (fun i=>i≤l.length) (fun i=>l.length-i) 0 (by simp) ?_ ?_
  ·have e:dY 4 (exR (bf g st (l.take 0)).1)= .dead:=rfl
   rw[e]
   exact iw (by rw[hlen];exact Nat.le_refl _) (by rw[hlen];exact hn) (by rw[hlen];exact V.ok st) (by simp[below,hxl,hcb,hlen,bf,exR,oc])
  intro i hi
  have hT:=fun h=>nO (g:=g) (l:=l) (st:=st) (i:=i) h
  have hi2:=hinv i hi
  have hml:=nG g (l.take i) st
  rw[List.length_take,Nat.min_eq_left hi] at hml
  generalize hcur:bf g st (l.take i)=cur at hT hi2 hml⊢
  obtain⟨out,s⟩:=cur
  simp only at hT hi2 hml⊢
  simp-implicitDefEqProofs[hxl]
  refine bh (fun hc=>?_) (fun hc=>?_)
  ·simp at hc
   have hg:=List.getElem?_eq_getElem hc
   have hT:=hT hc
   obtain⟨_,hA⟩:=hv i s hc hi2
   generalize l[i]=x at hg hT hA
   have hkc:=x.cs_eq
   have hyc:=(g s x).1.cs_eq
   rw[hkc] at hA
   simp-implicitDefEqProofs[hg,hkc,hlen]
   refine(V.pre G hA _ ⟨by simp[below],hcb⟩).mono ?_
   rintro r h ⟨rfl,rfl⟩
   rw[hyc]
   simp-implicitDefEqProofs[ab,hlen]
   have hol:=hRl out
   refine⟨⟨by omega,by omega⟩,i+1,hc,by omega,?_⟩
   rw[hT]
   simp only[hRa]
   rw[qu _ (by simp),nF _ (by simp),hyc]
   refine xG (mid:=[_,_,_]) (s:=[]) (hlen _) rfl (Nat.le_refl _) (V.ok _) ?_ ?_ ?_
   ·intro x hx
    rcases List.mem_append.1 hx with h|h
    ·exact hRp _ x h
    ·rw[List.mem_singleton.1 h];simp
   ·simp[below,hxl,hcb,w1 (i:=i) (by omega)]
   ·simp
  ·simp at hc
   have hie:i=l.length:=by omega
   subst hie
   rw[List.take_length] at hcur
   rw[hcur]
   simp-implicitDefEqProofs[]
 refine key.frz V.n (by rw[hlen];exact Nat.le_refl _) (fun t v h ⟨e,_⟩=>by cases e) ?_
 rintro v h ⟨e,rfl⟩
 cases e
 refine⟨_,V.I (bf g st l).2,by rw[List.length_append,hlen];omega,hlen _,.one ?_ .nil,qq (V.ok _),rfl,rfl⟩
 have ht:=tJ (r:=[]) (o:=dY 4 (exR (bf g st l).1)) (hlen (bf g st l).2)
 have hh:exR (bf g st l).1=((bf g st l).1.map Ex.cs).map (·.map .p):=by simp[exR]
 rw[hh] at ht⊢
 exact uk ht (fun x hx=>by obtain⟨b,_,rfl⟩:=List.mem_map.1 hx;simp)
theorem rR{σ:Type}(V:Vis σ)(g:σ→Sm→Sm × σ)(inv:Nat→σ→Prop)(l:List Sm)(hb:l.length≤1073741824)(hn:0<V.n)
 (hv:∀(i:Nat) st (h:i<l.length),inv i st→inv (i+1) (g st l[i]).2∧AC Tryz.prog G V.F (.agg (l[i].cs.map .p)::V.caps) (V.I st) fun x h'=>x= .ret (.agg ((g st l[i]).1.cs.map .p))∧h'=V.I (g st l[i]).2)(st:σ)(h0:inv 0 st):
 AC Tryz.prog G an [.p (smL l),.fn (.func V.F) V.caps] (V.I st) fun x h=>x= .ret (.p (smL (bf g st l).1))∧h=V.I (bf g st l).2:=by
 have hxl:∀l,smL l= .lst 5 (l.map Sm.cs):=fun _=>rfl
 have hlen:=V.len
 have hcb:=V.capsOk
 have hinv:∀i,i≤l.length→inv i (bf g st (l.take i)).2:=fun i hi=>by
  have:=nc (g:=g) (inv:=inv) (l:=l) (st:=st) (k:=0) h0 (fun i st h hi=>by
   rw[Nat.zero_add] at hi⊢;exact(hv i st h hi).1) i hi
  rwa[Nat.zero_add] at this
 have hRp:∀l:List Sm,∀x∈smR l,af 0 x:=aO
 have hRl:∀l:List Sm,(smR l).length=l.length:=fun l=>by simp[smR]
 have hRa:∀(l:List Sm) (y:Sm),smR (l++[y])=smR l++[y.cs.map .p]:=fun l y=>by simp[smR]
 have key:AC Tryz.prog G an [.p (smL l),.fn (.func V.F) V.caps] (V.I st) fun x h=>x= .ret (slE V.n 5 (smR (bf g st l).1))∧h=V.I (bf g st l).2++[dY 5 (smR (bf g st l).1)]:=by
  refine AC.go fQ ?_
  simp-implicitDefEqProofs[dL,hxl]
  refine aF (fun i:Nat=>aj 22 [(5,slE V.n 5 (smR (bf g st (l.take i)).1)),(0,.p (smL l)),(1,.fn (.func V.F) V.caps),(8,.p (smL l)),(9,.p (.int .i64 l.length)),(10,.p (.int .i64 i))])
   (fun i=>V.I (bf g st (l.take i)).2++[dY 5 (smR (bf g st (l.take i)).1)]) (fun i=>i≤l.length) (fun i=>l.length-i) 0 (by simp) ?_ ?_
  ·have e:dY 5 (smR (bf g st (l.take 0)).1)= .dead:=rfl
   rw[e]
   exact iw (by rw[hlen];exact Nat.le_refl _) (by rw[hlen];exact hn) (by rw[hlen];exact V.ok st) (by simp[below,hxl,hcb,hlen,bf,smR,oc])
  intro i hi
  have hT:=fun h=>nO (g:=g) (l:=l) (st:=st) (i:=i) h
  have hi2:=hinv i hi
  have hml:=nG g (l.take i) st
  rw[List.length_take,Nat.min_eq_left hi] at hml
  generalize hcur:bf g st (l.take i)=cur at hT hi2 hml⊢
  obtain⟨out,s⟩:=cur
  simp only at hT hi2 hml⊢
  simp-implicitDefEqProofs[hxl]
  refine bh (fun hc=>?_) (fun hc=>?_)
  ·simp at hc
   have hg:=List.getElem?_eq_getElem hc
   have hT:=hT hc
   obtain⟨_,hA⟩:=hv i s hc hi2
   generalize l[i]=x at hg hT hA
   have hkc:=x.cs_eq
   have hyc:=(g s x).1.cs_eq
   rw[hkc] at hA
   simp-implicitDefEqProofs[hg,hkc,hlen]
   refine(V.pre G hA _ ⟨by simp[below],hcb⟩).mono ?_
   rintro r h ⟨rfl,rfl⟩
   rw[hyc]
   simp-implicitDefEqProofs[ab,hlen]
   have hol:=hRl out
   refine⟨⟨by omega,by omega⟩,i+1,hc,by omega,?_⟩
   rw[hT]
   simp only[hRa]
   rw[qu _ (by simp),nF _ (by simp),hyc]
   refine xG (mid:=[_,_,_]) (s:=[]) (hlen _) rfl (Nat.le_refl _) (V.ok _) ?_ ?_ ?_
   ·intro x hx
    rcases List.mem_append.1 hx with h|h
    ·exact hRp _ x h
    ·rw[List.mem_singleton.1 h];simp
   ·simp[below,hxl,hcb,w1 (i:=i) (by omega)]
   ·simp
  ·simp at hc
   have hie:i=l.length:=by omega
   subst hie
   rw[List.take_length] at hcur
   rw[hcur]
   simp-implicitDefEqProofs[]
 refine key.frz V.n (by rw[hlen];exact Nat.le_refl _) (fun t v h ⟨e,_⟩=>by cases e) ?_
 rintro v h ⟨e,rfl⟩
 cases e
 refine⟨_,V.I (bf g st l).2,by rw[List.length_append,hlen];omega,hlen _,.one ?_ .nil,qq (V.ok _),rfl,rfl⟩
 have ht:=tJ (r:=[]) (o:=dY 5 (smR (bf g st l).1)) (hlen (bf g st l).2)
 have hh:smR (bf g st l).1=((bf g st l).1.map Sm.cs).map (·.map .p):=by simp[smR]
 rw[hh] at ht⊢
 exact uk ht (fun x hx=>by obtain⟨b,_,rfl⟩:=List.mem_map.1 hx;simp)
theorem yC{σ:Type}(V:Vis σ)(g:σ→Fd→Fd × σ)(inv:Nat→σ→Prop)(l:List Fd)(hb:l.length≤1073741824)(hn:0<V.n)
 (hv:∀(i:Nat) st (h:i<l.length),inv i st→inv (i+1) (g st l[i]).2∧AC Tryz.prog G V.F (.agg (l[i].cs.map .p)::V.caps) (V.I st) fun x h'=>x= .ret (.agg ((g st l[i]).1.cs.map .p))∧h'=V.I (g st l[i]).2)(st:σ)(h0:inv 0 st):
 AC Tryz.prog G aZ [.p (fdL l),.fn (.func V.F) V.caps] (V.I st) fun x h=>x= .ret (.p (fdL (bf g st l).1))∧h=V.I (bf g st l).2:=by
 have hxl:∀l,fdL l= .lst 3 (l.map Fd.cs):=fun _=>rfl
 have hlen:=V.len
 have hcb:=V.capsOk
 have hinv:∀i,i≤l.length→inv i (bf g st (l.take i)).2:=fun i hi=>by
  have:=nc (g:=g) (inv:=inv) (l:=l) (st:=st) (k:=0) h0 (fun i st h hi=>by
   rw[Nat.zero_add] at hi⊢;exact(hv i st h hi).1) i hi
  rwa[Nat.zero_add] at this
 have hRp:∀l:List Fd,∀x∈bR l,af 0 x:=gL
 have hRl:∀l:List Fd,(bR l).length=l.length:=fun l=>by simp[bR]
 have hRa:∀(l:List Fd) (y:Fd),bR (l++[y])=bR l++[y.cs.map .p]:=fun l y=>by simp[bR]
 have key:AC Tryz.prog G aZ [.p (fdL l),.fn (.func V.F) V.caps] (V.I st) fun x h=>x= .ret (slE V.n 3 (bR (bf g st l).1))∧h=V.I (bf g st l).2++[dY 3 (bR (bf g st l).1)]:=by
  refine AC.go my ?_
  simp-implicitDefEqProofs[gE,hxl]
  refine aF (fun i:Nat=>aj 22 [(5,slE V.n 3 (bR (bf g st (l.take i)).1)),(0,.p (fdL l)),(1,.fn (.func V.F) V.caps),(8,.p (fdL l)),(9,.p (.int .i64 l.length)),(10,.p (.int .i64 i))])
   (fun i=>V.I (bf g st (l.take i)).2++[dY 3 (bR (bf g st (l.take i)).1)]) (fun i=>i≤l.length) (fun i=>l.length-i) 0 (by simp) ?_ ?_
  ·have e:dY 3 (bR (bf g st (l.take 0)).1)= .dead:=rfl
   rw[e]
   exact iw (by rw[hlen];exact Nat.le_refl _) (by rw[hlen];exact hn) (by rw[hlen];exact V.ok st) (by simp[below,hxl,hcb,hlen,bf,bR,oc])
  intro i hi
  have hT:=fun h=>nO (g:=g) (l:=l) (st:=st) (i:=i) h
  have hi2:=hinv i hi
  have hml:=nG g (l.take i) st
  rw[List.length_take,Nat.min_eq_left hi] at hml
  generalize hcur:bf g st (l.take i)=cur at hT hi2 hml⊢
  obtain⟨out,s⟩:=cur
  simp only at hT hi2 hml⊢
  simp-implicitDefEqProofs[hxl]
  refine bh (fun hc=>?_) (fun hc=>?_)
  ·simp at hc
   have hg:=List.getElem?_eq_getElem hc
   have hT:=hT hc
   obtain⟨_,hA⟩:=hv i s hc hi2
   generalize l[i]=x at hg hT hA
   have hkc:=x.cs_eq'
   have hyc:=(g s x).1.cs_eq'
   rw[hkc] at hA
   simp-implicitDefEqProofs[hg,hkc,hlen]
   refine(V.pre G hA _ ⟨by simp[below],hcb⟩).mono ?_
   rintro r h ⟨rfl,rfl⟩
   rw[hyc]
   simp-implicitDefEqProofs[ab,hlen]
   have hol:=hRl out
   refine⟨⟨by omega,by omega⟩,i+1,hc,by omega,?_⟩
   rw[hT]
   simp only[hRa]
   rw[qu _ (by simp),nF _ (by simp),hyc]
   refine xG (mid:=[_,_,_]) (s:=[]) (hlen _) rfl (Nat.le_refl _) (V.ok _) ?_ ?_ ?_
   ·intro x hx
    rcases List.mem_append.1 hx with h|h
    ·exact hRp _ x h
    ·rw[List.mem_singleton.1 h];simp
   ·simp[below,hxl,hcb,w1 (i:=i) (by omega)]
   ·simp
  ·simp at hc
   have hie:i=l.length:=by omega
   subst hie
   rw[List.take_length] at hcur
   rw[hcur]
   simp-implicitDefEqProofs[]
 refine key.frz V.n (by rw[hlen];exact Nat.le_refl _) (fun t v h ⟨e,_⟩=>by cases e) ?_
 rintro v h ⟨e,rfl⟩
 cases e
 refine⟨_,V.I (bf g st l).2,by rw[List.length_append,hlen];omega,hlen _,.one ?_ .nil,qq (V.ok _),rfl,rfl⟩
 have ht:=tJ (r:=[]) (o:=dY 3 (bR (bf g st l).1)) (hlen (bf g st l).2)
 have hh:bR (bf g st l).1=((bf g st l).1.map Fd.cs).map (·.map .p):=by simp[bR]
 rw[hh] at ht⊢
 exact uk ht (fun x hx=>by obtain⟨b,_,rfl⟩:=List.mem_map.1 hx;simp)
end Go.Proofs.YtaopbokndkdieaaGreatDoor
namespace Go.Proofs.YtaopbokndkdieaaGreatDoor
open Go Go.Aw
set_option maxRecDepth 100000
set_option maxHeartbeats 4000000
variable (G:aI)
theorem GN{σ:Type}(V:Vis σ)(step:σ→Ex→σ)(inv:σ→Prop)(P:Ex→Prop)(hP:∀e,P e→∀a∈e.kids,P a)(B:Nat)(hB:B≤1073741824)
 (hv:∀st e,inv st→P e→e.sz≤B→inv (step st e)∧AC Tryz.prog G V.F (.agg (e.cs.map .p)::V.caps) (V.I st) fun x h=>x= .ret (.tup [])∧h=V.I (step st e)):
 ∀(N:Nat) (e:Ex),P e→e.sz<N→e.sz≤B→∀st,inv st→inv (e.pre.foldl step st)∧AC Tryz.prog G eL [.agg (e.cs.map .p),.fn (.func V.F) V.caps] (V.I st) fun x h=>x= .ret (.tup [])∧h=V.I (e.pre.foldl step st):=by
 intro N
 induction N with
 |zero=>intro e _ h;omega
 |succ N ih=>
  intro e hpe he hz st hi
  have hec:=e.cs_eq
  have hsz:=e.sz_eq
  have hkl:=aM e.kids
  have hxl:exL e.kids= .lst 4 (e.kids.map Ex.cs):=rfl
  have hlen:=V.len
  obtain⟨i1,h1⟩:=hv st e hi hpe hz
  have hinv:∀i,i≤e.kids.length→inv ((dX (e.kids.take i)).foldl step (step st e)):=by
   intro i
   induction i with
   |zero=>intro _;exact i1
   |succ i ihi=>
    intro hl
    have hg:i<e.kids.length:=by omega
    have hks:=az (List.getElem_mem hg)
    rw[ah hg,kQ,List.foldl_append,dX,dX,List.append_nil]
    exact(ih e.kids[i] (hP e hpe _ (List.getElem_mem hg)) (by omega) (by omega) _ (ihi (by omega))).1
  refine⟨?_,?_⟩
  ·rw[Ex.pre_eq,List.foldl_cons]
   have:=hinv e.kids.length (Nat.le_refl _)
   rwa[List.take_length] at this
  refine V.trim G (AC.go qD ?_) (by simp[below])
  have hcb:=V.capsOk
  have hcb1:af (V.n+1) V.caps:=aT (by omega) _ hcb
  rw[hec] at h1
  simp-implicitDefEqProofs[lW,hec,hlen]
  refine(V.pre G h1 _ ⟨by simp[below],hcb⟩).mono ?_
  rintro r h ⟨rfl,rfl⟩
  simp-implicitDefEqProofs[ab,hlen,hxl]
  refine aF (fun i:Nat=>aj 20 [(1,.fn (.func V.F) V.caps),(2,.ptr V.n 4 0 0),(10,.p (exL e.kids)),(11,.p (.int .i64 e.kids.length)),(12,.p (.int .i64 i))])
   (fun i=>V.I ((dX (e.kids.take i)).foldl step (step st e))++[.row 4 [[.p (.int .i64 e.op),.p (.int .i64 e.n),.p (.str e.name),.p (exL e.kids)]]]) (fun i=>i≤e.kids.length) (fun i=>e.kids.length-i) 0 (by simp) ?_ ?_
  ·refine V.same (r:=[_]) (s:=[]) _ (Nat.le_refl _) (by simp[okO,below]) ?_
   simp[below,hxl,hcb1]
  intro i hil
  simp-implicitDefEqProofs[hxl]
  refine bh (fun hc=>?_) (fun hc=>?_)
  ·simp at hc
   have hg:=List.getElem?_eq_getElem hc
   have hks:=az (List.getElem_mem hc)
   have hkc:=e.kids[i].cs_eq
   have hI:=(ih e.kids[i] (hP e hpe _ (List.getElem_mem hc)) (by omega) (by omega) _ (hinv i hil)).2
   rw[hkc] at hI
   simp-implicitDefEqProofs[hg,hkc,hlen]
   refine(V.pre G hI _ ⟨by simp[below],by simp[below,hcb],trivial⟩).mono ?_
   rintro r h ⟨rfl,rfl⟩
   simp-implicitDefEqProofs[ab]
   refine⟨i+1,hc,by omega,?_⟩
   have hf:(dX (e.kids.take (i+1))).foldl step (step st e)=e.kids[i].pre.foldl step ((dX (e.kids.take i)).foldl step (step st e)):=by
    rw[ah hc,kQ,List.foldl_append,dX,dX,List.append_nil]
   rw[hf]
   refine V.same (r:=[_]) (s:=[_]) _ (Nat.le_refl _) (by simp[okO,below]) ?_
   simp[below,hxl,hcb1,w1 (i:=i) (by omega)]
  ·simp at hc
   have hie:i=e.kids.length:=by omega
   subst hie
   rw[List.take_length,Ex.pre_eq,List.foldl_cons]
   simp-implicitDefEqProofs[]
theorem jh(n:Int):VF Tryz.prog G bJ [.p (.int .i64 n)] (.agg ((lp n).cs.map .p)):=by
 have key:AC Tryz.prog G bJ [.p (.int .i64 n)] [] fun x h=>x= .ret (.agg [.p (.int .i64 1),.p (.int .i64 n),.p (.str []),.nils]):=by
  refine AC.go vJ ?_
  simp-implicitDefEqProofs[mT]
 refine key.freezeR (fun t v h e=>by cases e) fun v h e=>?_
 cases e
 exact .agg (.one (.p _) (.one (.p _) (.one (.p _) (.one (.nils 4) .nil)))) .nil
theorem qL(e:Ex)(n:Int):VF Tryz.prog G aC [.agg (e.cs.map .p),.p (.int .i64 n)] (.p (.bool (isN e n))):=by
 refine AC.go xP ?_
 by_cases h1:e.op=1
 ·simp-implicitDefEqProofs[lY,Ex.cs_eq,isN,h1]
 ·simp-implicitDefEqProofs[lY,Ex.cs_eq,isN,h1]
theorem lg(b:Bool):VF Tryz.prog G jB [.p (.bool b)] (.p (.int .i64 (tr5 b))):=by
 refine AC.go vv ?_
 cases b<;>simp-implicitDefEqProofs[na,tr5]
def vY:Option Int→AV
 |some q=> .tup [.p (.int .i64 q),.p (.bool true)]
 |none=> .tup [.p (.int .i64 0),.p (.bool false)]
theorem FS(a b:Int):VF Tryz.prog G gi [.p (.int .i64 11),.p (.int .i64 a),.p (.int .i64 b)] (.tup [.p (.int .i64 (tr5 (decide (a=0)))),.p (.bool true)]):=by
 refine AC.go rm ?_
 simp-implicitDefEqProofs[lU]
 refine(lg G _).use ?_
 simp-implicitDefEqProofs[]
theorem IJ(o a b:Int)(ho:3≤o)(h9:o≤10)(ha:V5 a)(hb:V5 b):VF Tryz.prog G gi [.p (.int .i64 o),.p (.int .i64 a),.p (.int .i64 b)] (vY (ar5 o a b)):=by
 obtain⟨a0,a1⟩:=ha
 obtain⟨b0,b1⟩:=hb
 refine AC.go rm ?_
 have hm:a*b≤65025:=by
  have h1:=Int.mul_le_mul_of_nonneg_right a1 b0
  omega
 have hm0:0≤a*b:=Int.mul_nonneg a0 b0
 have ho':o=3∨o=4∨o=5∨o=6∨o=7∨o=8∨o=9∨o=10:=by omega
 rcases ho' with rfl|rfl|rfl|rfl|rfl|rfl|rfl|rfl
 all_goals simp-implicitDefEqProofs[lU,ar5,Cb]
 ·rw[al (by omega) (by omega),Int.tmod_eq_emod_of_nonneg (by omega)];rfl
 ·have hw:IntKind.i64.wrap (a-b)=a-b:=al (by omega) (by omega)
  rw[hw,al (by omega) (by omega),Int.tmod_eq_emod_of_nonneg (by omega)]
  have:(a-b+256)%256=(a-b)%256:=by omega
  rw[this];rfl
 ·rw[al (by omega) (by omega),Int.tmod_eq_emod_of_nonneg (by omega)];rfl
 ·refine bh (fun h=>?_) (fun h=>?_)
  ·simp at h
   simp-implicitDefEqProofs[h,vY]
  ·simp at h
   simp-implicitDefEqProofs[h,vY]
   rw[Int.tdiv_eq_ediv_of_nonneg (by omega)]
   have h1:a/b≤a:=Int.ediv_le_self b a0
   have h2:0≤a/b:=Int.ediv_nonneg a0 b0
   exact al (by omega) (by omega)
 ·refine bh (fun h=>?_) (fun h=>?_)
  ·simp at h
   simp-implicitDefEqProofs[h,vY]
  ·simp at h
   simp-implicitDefEqProofs[h,vY]
   rw[Int.tmod_eq_emod_of_nonneg (by omega)]
 ·refine(lg G _).use ?_
  simp-implicitDefEqProofs[vY]
 ·refine(lg G _).use ?_
  simp-implicitDefEqProofs[vY]
 ·by_cases h:a=0
  ·simp-implicitDefEqProofs[h]
   refine(lg G _).use ?_
   simp-implicitDefEqProofs[vY]
  ·simp-implicitDefEqProofs[h]
   refine(lg G _).use ?_
   simp-implicitDefEqProofs[vY]
def okP(e:Ex):Bool:= !decide (e.op=12)&& !decide (e.op=13)&& !dvE e
mutual
theorem zd:∀e:Ex,e.pre.all okP=dA e
 | .mk o n s ks=>by
   rw[Ap,Ex.pre_eq,List.all_cons,okP]
   show(_&&(dX ks).all okP)=_
   rw[wX ks]
   rfl
theorem wX:∀l:List Ex,(dX l).all okP=l.all dA
 |[]=>rfl
 |e::r=>by rw[dX,List.all_append,List.all_cons,zd e,wX r]
end
def qa(p:List PV):Vis Bool where
 I:=fun st=>[.row 4 [p.map .p],.row 1 [[.p (.bool st)]]]
 n:=2
 F:=dq
 caps:=[.ptr 1 1 0 0]
 len:=fun _=>rfl
 ok:=fun st=>by simp[okO,below]
 capsOk:=by simp[below]
theorem yt(p:List PV)(st:Bool){d:Nat}{e:Ex}(hf:aW d e=true):AC Tryz.prog G dq [.agg (e.cs.map .p),.ptr 1 1 0 0] ((qa p).I st) fun x h=>x= .ret (.tup [])∧h=(qa p).I (st&&okP e):=by
 refine(qa p).trim G (AC.go qv ?_) (by simp[below])
 have hec:=e.cs_eq
 have hxl:∀l,exL l= .lst 4 (l.map Ex.cs):=fun _=>rfl
 cases st with
 |false=>simp-implicitDefEqProofs[bm,hec,qa]
 |true=>
  by_cases o12:e.op=12
  ·simp-implicitDefEqProofs[bm,hec,qa,o12,okP]
  by_cases o13:e.op=13
  ·simp-implicitDefEqProofs[bm,hec,qa,o13,okP]
  by_cases o67:e.op=6∨e.op=7
  ·have hk:∃a b,e.kids=[a,b]:=by
    obtain⟨l1,l2,_⟩:=dF hf
    have e1:loK e.op=2∧hiK e.op=2:=by rcases o67 with h|h<;>rw[h]<;>exact⟨rfl,rfl⟩
    rw[e1.1] at l1
    rw[e1.2] at l2
    match hx:e.kids,l1,l2 with
    |[a,b],_,_=>exact⟨a,b,rfl⟩
   obtain⟨a,b,hk⟩:=hk
   have hbc:=b.cs_eq
   have hd:okP e=(decide (b.op=1)&& !decide (b.n=0)):=by
    rw[okP,dvE,hk]
    rcases o67 with h|h<;>simp[h]
   rw[hd]
   rcases o67 with o6|o7
   ·by_cases b1:b.op=1
    ·simp-implicitDefEqProofs[bm,hec,qa,o6,hxl,hk,hbc,b1]
    ·simp-implicitDefEqProofs[bm,hec,qa,o6,hxl,hk,hbc,b1]
   ·by_cases b1:b.op=1
    ·simp-implicitDefEqProofs[bm,hec,qa,o7,hxl,hk,hbc,b1]
    ·simp-implicitDefEqProofs[bm,hec,qa,o7,hxl,hk,hbc,b1]
  ·have o6:¬e.op=6:=fun h=>o67 (.inl h)
   have o7:¬e.op=7:=fun h=>o67 (.inr h)
   have hd:okP e=true:=by simp[okP,dvE,o6,o7,o12,o13]
   rw[hd]
   simp-implicitDefEqProofs[bm,hec,qa,o6,o7,o12,o13]
theorem Ez(l:List Ex)(b:Bool):l.foldl (fun st e=>st&&okP e) b=(b&&l.all okP):=by
 induction l generalizing b with
 |nil=>simp
 |cons e r ih=>rw[List.foldl_cons,ih,List.all_cons,Bool.and_assoc]
theorem tW(hK:G dH=some dy)(hS:G bM=some [PV.tbl opK opV]){e:Ex}(hx:fI e=true)(hz:e.sz≤1073741824):VF Tryz.prog G di [.agg (e.cs.map .p)] (.p (.bool (dA e))):=by
 refine AC.go tg ?_
 have hec:=e.cs_eq
 have HV:=sN G hK hS e hz
 have HP:=(GN G (qa e.cs) (fun st e=>st&&okP e) (fun _=>True) (fun e=>∃d,aW d e=true) (fun e ⟨d,h⟩ a ha=>by
  obtain⟨d,rfl⟩:=oe h
  exact⟨d,eM h ha⟩) 1073741824 (by omega) (fun st x _ ⟨d,h⟩ _=>⟨trivial,yt G e.cs st h⟩) (e.sz+1) e ⟨6,xz hx⟩ (by omega) hz true trivial).2
 rw[Ez,Bool.true_and,zd] at HP
 rw[hec] at HV HP
 have hI:∀st,(qa [.int .i64 e.op,.int .i64 e.n,.str e.name,exL e.kids]).I st=[.row 4 [[.p (.int .i64 e.op),.p (.int .i64 e.n),.p (.str e.name),.p (exL e.kids)]],.row 1 [[.p (.bool st)]]]:=fun _=>rfl
 have hF:(qa [.int .i64 e.op,.int .i64 e.n,.str e.name,exL e.kids]).F=dq:=rfl
 have hc:(qa [.int .i64 e.op,.int .i64 e.n,.str e.name,exL e.kids]).caps=[.ptr 1 1 0 0]:=rfl
 rw[hI,hI,hF,hc] at HP
 simp-implicitDefEqProofs[mh,hec]
 refine HV.use ?_
 simp-implicitDefEqProofs[hx]
 refine HP.mono ?_
 rintro r h ⟨rfl,rfl⟩
 simp-implicitDefEqProofs[ab]
end Go.Proofs.YtaopbokndkdieaaGreatDoor
namespace Go.Proofs.YtaopbokndkdieaaGreatDoor
open Go Go.Aw
set_option maxRecDepth 100000
set_option maxHeartbeats 4000000
def K_impl_foldPart:AK:= .seq (.reg [oJ 1 (.box 4 (.t 0)),oJ 2 (.alloc [(.p (.int .i64 0)),(.p (.int .i64 0)),(.p (.str [])),.nils])]) (.seq (.seq (.reg [oF 7 3 1,oL 8 7,oJ 9 (.len false (.t 8)),oJ 10 (.bin .eql (.t 9) (.c (.p (.int .i64 0)))),oM 11 10,⟨(some 12),some (11,false),.fldA 0 (.t 1)⟩,⟨(some 13),some (11,false),.ld none (.t 12)⟩,⟨(some 14),some (11,false),.bin .eql (.t 13) (.c (.p (.int .i64 13)))⟩,oJ 15 (.pick (.t 11) (.c (.p (.bool true))) (.t 14)),oM 16 15,⟨(some 17),some (16,false),.fldA 0 (.t 1)⟩,⟨(some 18),some (16,false),.ld none (.t 17)⟩,⟨(some 19),some (16,false),.bin .eql (.t 18) (.c (.p (.int .i64 12)))⟩,oJ 20 (.pick (.t 16) (.c (.p (.bool true))) (.t 19))]) (.cond (.t 20) (.seq (.reg [oJ 21 (.ld (some 4) (.t 1)),⟨none,none,.st 4 (.t 2) (.t 21)⟩]) (.ret)) (.skip))) (.cut (.ot (.one [] (.one [oF 22 3 1] (.one [oF 26 3 1] (.one [oF 28 3 1] (.one [oL 23 22] (.one [oJ 24 (.idxS 4 (.t 23) (.c (.p (.int .i64 0))))] (.one [oJ 25 (.ld (some 4) (.t 24))] (.one [oL 27 26] (.one [oL 29 28] (.one [oJ 30 (.len false (.t 29))] (.one [oJ 31 (.bin .sub (.t 30) (.c (.p (.int .i64 1))))] (.one [oJ 32 (.idxS 4 (.t 27) (.t 31))] (.one [oJ 33 (.ld (some 4) (.t 32))] (.alt (.one [oJ 3 (.alloc [(.p (.int .i64 0)),(.p (.int .i64 0)),(.p (.str [])),.nils]),⟨none,none,.chk none 22 23⟩,⟨none,none,.chk (some 4) 24 25⟩,⟨none,none,.chk none 26 27⟩,⟨none,none,.chk none 28 29⟩,⟨none,none,.chk (some 4) 32 33⟩] (.alt (.one [oJ 4 (.alloc [(.p (.int .i64 0)),(.p (.int .i64 0)),(.p (.str [])),.nils]),⟨none,none,.chk none 22 23⟩,⟨none,none,.chk (some 4) 24 25⟩,⟨none,none,.chk none 26 27⟩,⟨none,none,.chk none 28 29⟩,⟨none,none,.chk (some 4) 32 33⟩] (.alt (.one [⟨none,none,.st 4 (.t 3) (.t 25)⟩,⟨none,none,.chk none 26 27⟩,⟨none,none,.chk none 28 29⟩,⟨none,none,.chk (some 4) 32 33⟩] (.alt (.one [⟨none,none,.st 4 (.t 4) (.t 33)⟩] (.done)) (.tru))) (.tru))) (.tru))) (.alt (.one [oJ 4 (.alloc [(.p (.int .i64 0)),(.p (.int .i64 0)),(.p (.str [])),.nils]),⟨none,none,.chk none 22 23⟩,⟨none,none,.chk (some 4) 24 25⟩,⟨none,none,.chk none 26 27⟩,⟨none,none,.chk none 28 29⟩,⟨none,none,.chk (some 4) 32 33⟩] (.alt (.one [oJ 3 (.alloc [(.p (.int .i64 0)),(.p (.int .i64 0)),(.p (.str [])),.nils]),⟨none,none,.chk none 22 23⟩,⟨none,none,.chk (some 4) 24 25⟩,⟨none,none,.chk none 26 27⟩,⟨none,none,.chk none 28 29⟩,⟨none,none,.chk (some 4) 32 33⟩] (.alt (.one [⟨none,none,.st 4 (.t 3) (.t 25)⟩,⟨none,none,.chk none 26 27⟩,⟨none,none,.chk none 28 29⟩,⟨none,none,.chk (some 4) 32 33⟩] (.alt (.one [⟨none,none,.st 4 (.t 4) (.t 33)⟩] (.done)) (.tru))) (.tru))) (.tru))) (.tru))))))))))))))))) (.cut (.seq (.reg [oF 34 0 3,oL 35 34,oJ 36 (.bin .eql (.t 35) (.c (.p (.int .i64 1)))),oM 37 36,⟨(some 38),some (37,true),.fldA 0 (.t 4)⟩,⟨(some 39),some (37,true),.ld none (.t 38)⟩,⟨(some 40),some (37,true),.bin .eql (.t 39) (.c (.p (.int .i64 1)))⟩,oJ 41 (.pick (.t 37) (.t 40) (.c (.p (.bool false))))]) (.cond (.t 41) (.seq (.reg [oF 43 0 1,oL 44 43,oF 45 1 3,oL 46 45,oF 47 1 4,oL 48 47,oJ 49 (.call gi [(.t 44),(.t 46),(.t 48)]),oM 42 49,oJ 50 (.ext 0 (.t 42)),oJ 51 (.ext 1 (.t 42)),oM 5 50,oM 6 51]) (.seq (.reg [oM 52 6]) (.cond (.t 52) (.seq (.reg [oM 53 5,oJ 54 (.call bJ [(.t 53)]),⟨none,none,.st 4 (.t 2) (.t 54)⟩]) (.ret)) (.skip)))) (.skip))) (.seq (.seq (.reg [oF 55 0 1,oL 56 55]) (.blk 0 (.seq (.reg [oJ 58 (.bin .eql (.t 56) (.c (.p (.int .i64 11)))),oM 57 58]) (.cond (.t 57) (.seq (.reg [oF 59 0 3,oL 60 59,oJ 61 (.bin .eql (.t 60) (.c (.p (.int .i64 11)))),oM 62 61,⟨(some 63),some (62,true),.fldA 3 (.t 3)⟩,⟨(some 64),some (62,true),.ld none (.t 63)⟩,⟨(some 65),some (62,true),.idxS 4 (.t 64) (.c (.p (.int .i64 0)))⟩,⟨(some 66),some (62,true),.fldA 0 (.t 65)⟩,⟨(some 67),some (62,true),.ld none (.t 66)⟩,⟨(some 68),some (62,true),.bin .eql (.t 67) (.c (.p (.int .i64 11)))⟩,oJ 69 (.pick (.t 62) (.t 68) (.c (.p (.bool false))))]) (.cond (.t 69) (.seq (.reg [oF 70 3 3,oL 71 70,oJ 72 (.idxS 4 (.t 71) (.c (.p (.int .i64 0)))),oJ 73 (.ld (some 4) (.t 72)),⟨none,none,.st 4 (.t 2) (.t 73)⟩]) (.ret)) (.skip))) (.seq (.reg [oJ 75 (.bin .eql (.t 56) (.c (.p (.int .i64 10)))),oM 74 75]) (.cond (.t 74) (.seq (.reg [oJ 76 (.ld (some 4) (.t 3)),oJ 77 (.call aC [(.t 76),(.c (.p (.int .i64 0)))])]) (.cond (.t 77) (.seq (.reg [oJ 78 (.call bJ [(.c (.p (.int .i64 0)))]),⟨none,none,.st 4 (.t 2) (.t 78)⟩]) (.ret)) (.skip))) (.seq (.reg [oJ 80 (.bin .eql (.t 56) (.c (.p (.int .i64 3)))),oM 79 80]) (.cond (.t 79) (.seq (.seq (.reg [oJ 81 (.ld (some 4) (.t 4)),oJ 82 (.call aC [(.t 81),(.c (.p (.int .i64 0)))])]) (.cond (.t 82) (.seq (.reg [oJ 83 (.ld (some 4) (.t 3)),⟨none,none,.st 4 (.t 2) (.t 83)⟩]) (.ret)) (.skip))) (.seq (.reg [oJ 84 (.ld (some 4) (.t 3)),oJ 85 (.call aC [(.t 84),(.c (.p (.int .i64 0)))])]) (.cond (.t 85) (.seq (.reg [oJ 86 (.ld (some 4) (.t 4)),⟨none,none,.st 4 (.t 2) (.t 86)⟩]) (.ret)) (.skip)))) (.seq (.reg [oJ 88 (.bin .eql (.t 56) (.c (.p (.int .i64 4)))),oM 87 88]) (.cond (.t 87) (.seq (.reg [oJ 89 (.ld (some 4) (.t 4)),oJ 90 (.call aC [(.t 89),(.c (.p (.int .i64 0)))])]) (.cond (.t 90) (.seq (.reg [oJ 91 (.ld (some 4) (.t 3)),⟨none,none,.st 4 (.t 2) (.t 91)⟩]) (.ret)) (.skip))) (.seq (.reg [oJ 93 (.bin .eql (.t 56) (.c (.p (.int .i64 5)))),oM 92 93]) (.cond (.t 92) (.blk 1 (.seq (.reg [oJ 95 (.ld (some 4) (.t 4)),oJ 96 (.call aC [(.t 95),(.c (.p (.int .i64 1)))]),oM 94 96]) (.cond (.t 94) (.seq (.reg [oJ 97 (.ld (some 4) (.t 3)),⟨none,none,.st 4 (.t 2) (.t 97)⟩]) (.ret)) (.seq (.reg [oJ 99 (.ld (some 4) (.t 3)),oJ 100 (.call aC [(.t 99),(.c (.p (.int .i64 1)))]),oM 98 100]) (.cond (.t 98) (.seq (.reg [oJ 101 (.ld (some 4) (.t 4)),⟨none,none,.st 4 (.t 2) (.t 101)⟩]) (.ret)) (.seq (.seq (.reg [oJ 103 (.ld (some 4) (.t 4)),oJ 104 (.call aC [(.t 103),(.c (.p (.int .i64 0)))]),oM 105 104,⟨(some 106),some (105,true),.ld (some 4) (.t 3)⟩,⟨(some 107),some (105,true),.call di [(.t 106)]⟩,oJ 108 (.pick (.t 105) (.t 107) (.c (.p (.bool false)))),oM 102 108]) (.cond (.t 102) (.skip) (.reg [oJ 109 (.ld (some 4) (.t 3)),oJ 110 (.call aC [(.t 109),(.c (.p (.int .i64 0)))]),oM 111 110,⟨(some 112),some (111,true),.ld (some 4) (.t 4)⟩,⟨(some 113),some (111,true),.call di [(.t 112)]⟩,oJ 114 (.pick (.t 111) (.t 113) (.c (.p (.bool false)))),oM 102 114]))) (.cond (.t 102) (.seq (.reg [oJ 115 (.call bJ [(.c (.p (.int .i64 0)))]),⟨none,none,.st 4 (.t 2) (.t 115)⟩]) (.ret)) (.skip)))))))) (.seq (.reg [oJ 117 (.bin .eql (.t 56) (.c (.p (.int .i64 6)))),oM 116 117]) (.cond (.t 116) (.seq (.reg [oJ 118 (.ld (some 4) (.t 4)),oJ 119 (.call aC [(.t 118),(.c (.p (.int .i64 1)))])]) (.cond (.t 119) (.seq (.reg [oJ 120 (.ld (some 4) (.t 3)),⟨none,none,.st 4 (.t 2) (.t 120)⟩]) (.ret)) (.skip))) (.skip))))))))))))))) (.seq (.reg [oJ 121 (.ld (some 4) (.t 1)),⟨none,none,.st 4 (.t 2) (.t 121)⟩]) (.ret))))))
theorem tw:K_impl_foldPart.whole=F_impl_foldPart.ak:=rfl
theorem Gb{c d:Nat}{e:Ex}(h:aW c e=true)(hd:c≤d):aW d e=true:=by
 obtain⟨k,rfl⟩:=Nat.le.dest hd
 clear hd
 induction k with
 |zero=>exact h
 |succ k ih=>exact nI ih
variable (G:aI)
theorem Bs(hK:G dH=some dy)(hS:G bM=some [PV.tbl opK opV]){d:Nat}{e:Ex}(hf:aW d e=true)(hd:d≤6)(hp30:e.parts≤30)(hz:e.sz≤1073741824):VF Tryz.prog G fy [.agg (e.cs.map .p)] (.agg ((dJ e.op e.n e.name e.kids).cs.map .p)):=by
 have hc:=e.cs_eq
 have hxl:∀l,exL l= .lst 4 (l.map Ex.cs):=fun _=>rfl
 have hem:e= .mk e.op e.n e.name e.kids:=by cases e;rfl
 have hzz:=e.sz_eq
 have hpp:=e.parts_eq
 obtain⟨d,rfl⟩:=oe hf
 have hkf:∀a∈e.kids,aW d a=true:=fun a ha=>eM hf ha
 have hks:∀a∈e.kids,a.sz≤1073741824:=fun a ha=>by have:=az ha;omega
 have hkx:∀a∈e.kids,fI a=true:=fun a ha=>by
  rw[fI,Bool.and_eq_true,decide_eq_true_eq]
  refine⟨Gb (hkf a ha) (by omega),?_⟩
  have:=fj ha;omega
 have hnc:∀q,(lp q).cs=[.int .i64 1,.int .i64 q,.str [],.lst 4 []]:=fun q=>rfl
 refine AC.goK tD tw ?_
 have w0:IntKind.i64.wrap 0=0:=al (by omega) (by omega)
 have w1':IntKind.i64.wrap 1=1:=al (by omega) (by omega)
 by_cases he:e.kids=[]∨e.op=13∨e.op=12
 ·have hp:dJ e.op e.n e.name e.kids=e:=by
   unfold dJ
   split
   ·exact hem.symm
   ·rcases he with h|h|h
    ·rw[h]
     conv=>rhs;rw[hem,h]
    ·rename_i hn;exact(hn (.inr h)).elim
    ·rename_i hn;exact(hn (.inl h)).elim
  rw[hp,hc]
  rcases he with h|h|h
  ·simp-implicitDefEqProofs[K_impl_foldPart,F_impl_foldPart,hc,hxl,h]
  ·by_cases hk:e.kids=[]
   ·simp-implicitDefEqProofs[K_impl_foldPart,F_impl_foldPart,hc,hxl,h,hk]
   ·have hk':¬(e.kids.length:Int)=0:=by
     intro h0;exact hk (List.length_eq_zero_iff.1 (by omega))
    simp-implicitDefEqProofs[K_impl_foldPart,F_impl_foldPart,hc,hxl,h,hk',hk]
  ·by_cases hk:e.kids=[]
   ·simp-implicitDefEqProofs[K_impl_foldPart,F_impl_foldPart,hc,hxl,h,hk]
   ·simp-implicitDefEqProofs[K_impl_foldPart,F_impl_foldPart,hc,hxl,h,hk]
 have hne:e.kids≠[]:=fun h=>he (.inl h)
 have o13:¬e.op=13:=fun h=>he (.inr (.inl h))
 have o12:¬e.op=12:=fun h=>he (.inr (.inr h))
 by_cases o11:e.op=11
 ·obtain⟨l1,l2,_⟩:=dF hf
  rw[o11] at l1 l2
  have e1:loK 11=1:=rfl
  have e2:hiK 11=1:=rfl
  rw[e1] at l1
  rw[e2] at l2
  obtain⟨a,hk⟩:∃a,e.kids=[a]:=by
   match hx:e.kids,l1,l2 with
   |[x],_,_=>exact⟨x,rfl⟩
  have hac:=a.cs_eq
  have hp:dJ e.op e.n e.name e.kids=iS e.op e.n e.name a:=by
   unfold dJ
   rw[if_neg (by omega),hk]
  rw[hp]
  generalize hres:iS e.op e.n e.name a=res
  simp-implicitDefEqProofs[K_impl_foldPart,F_impl_foldPart,hc,hxl,o11,hk]
  refine kL (aj 122 [(1,.ptr 0 4 0 0),(2,.ptr 1 4 0 0),(3,.ptr 2 4 0 0),(4,.ptr 3 4 0 0)])
   [.row 4 [[.p (.int .i64 11),.p (.int .i64 e.n),.p (.str e.name),.p (.lst 4 [a.cs])]],.row 4 [[.p (.int .i64 0),.p (.int .i64 0),.p (.str []),.nils]],.row 4 [[.p (.int .i64 a.op),.p (.int .i64 a.n),.p (.str a.name),.p (exL a.kids)]],.row 4 [[.p (.int .i64 a.op),.p (.int .i64 a.n),.p (.str a.name),.p (exL a.kids)]]] ?_ ?_
  ·simp-implicitDefEqProofs[hac,w0]
   exact⟨aa (by simp) (by simp[okO,below]) (by simp[below]),cr [0,1,3,2] (by simp) (by decide) (by decide) (aE rfl (by simp[below]) (aE rfl (by simp[below]) (aE rfl (by simp[below]) (aE rfl (by simp[below]) bj)))) (by simp[below,ren])⟩
  refine pQ (fun _:Unit=>aj 122 [(1,.ptr 0 4 0 0),(2,.ptr 1 4 0 0),(3,.ptr 2 4 0 0),(4,.ptr 3 4 0 0)]) (fun _=>[.row 4 [[.p (.int .i64 11),.p (.int .i64 e.n),.p (.str e.name),.p (.lst 4 [a.cs])]],.row 4 [[.p (.int .i64 0),.p (.int .i64 0),.p (.str []),.nils]],.row 4 [[.p (.int .i64 a.op),.p (.int .i64 a.n),.p (.str a.name),.p (exL a.kids)]],.row 4 [[.p (.int .i64 a.op),.p (.int .i64 a.n),.p (.str a.name),.p (exL a.kids)]]]) (fun _=>¬a.op=1) ?_ ?_
  ·by_cases a1:a.op=1
   ·rw[←hres,iS,if_pos a1]
    simp-implicitDefEqProofs[hac,a1]
    refine(FS G _ _).use ?_
    simp-implicitDefEqProofs[]
    refine(jh G _).use ?_
    simp-implicitDefEqProofs[hnc]
   ·simp-implicitDefEqProofs[hac,a1]
    exact aa (by simp) (by simp[okO,below]) (by simp[below])
  intro _ a1
  have same:(∀c,a.kids=[c]→¬(e.op=11∧a.op=11∧c.op=11))→iS e.op e.n e.name a=e:=by
   intro h
   have h0:Ex.mk e.op e.n e.name [a]=e:=by rw[←hk];exact hem.symm
   unfold iS
   rw[if_neg a1]
   split
   ·rename_i c hc'
    split
    ·rename_i h3
     exact(h c hc' ⟨o11,h3⟩).elim
    ·exact h0
   ·exact h0
  by_cases a11:a.op=11
  ·have haf:=hkf a (by rw[hk];simp)
   obtain⟨l1,l2,_⟩:=dF haf
   rw[a11,e1] at l1
   rw[a11,e2] at l2
   obtain⟨c,hkc⟩:∃c,a.kids=[c]:=by
    match hx:a.kids,l1,l2 with
    |[x],_,_=>exact⟨x,rfl⟩
   have hcc:=c.cs_eq
   by_cases c11:c.op=11
   ·have hq:iS e.op e.n e.name a=c:=by
     unfold iS
     rw[if_neg a1,hkc]
     exact if_pos ⟨a11,c11⟩
    rw[←hres,hq]
    simp-implicitDefEqProofs[hac,a11,hxl,hkc,hcc,c11]
   ·rw[←hres,same (fun x hx h=>by rw[hkc] at hx;cases hx;exact c11 h.2.2)]
    simp-implicitDefEqProofs[hc,hk,o11,hac,a11,hxl,hkc,hcc,c11]
  ·rw[←hres,same (fun x hx h=>a11 h.2.1)]
   simp-implicitDefEqProofs[hc,hk,o11,hac,a11,hxl]
 obtain⟨a,b,hk⟩:∃a b,e.kids=[a,b]:=by
  obtain⟨l1,l2,l3,l4⟩:=dF hf
  have hln:0<e.kids.length:=List.length_pos_iff.2 hne
  have o1:¬(e.op=1∨e.op=2):=by
   intro h
   rw[hiK,if_pos h] at l2;omega
  have e1:loK e.op=2:=by rw[loK,if_neg o1,if_neg (by omega),if_neg (by omega)]
  have e2:hiK e.op=2:=by rw[hiK,if_neg o1,if_neg (by omega),if_neg (by omega)]
  rw[e1] at l1
  rw[e2] at l2
  match hx:e.kids,l1,l2 with
  |[a,b],_,_=>exact⟨a,b,rfl⟩
 obtain⟨h3,h10⟩:=zp hf hk (by omega)
 have hac:=a.cs_eq
 have hbc:=b.cs_eq
 have haf:=hkf a (by rw[hk];simp)
 have hbf:=hkf b (by rw[hk];simp)
 have hp:dJ e.op e.n e.name e.kids=ll e.op e.n e.name a b:=by
  unfold dJ
  rw[if_neg (by omega),hk]
 rw[hp]
 simp-implicitDefEqProofs[K_impl_foldPart,F_impl_foldPart,hc,hxl,o12,o13,hk]
 refine kL (aj 122 [(1,.ptr 0 4 0 0),(2,.ptr 1 4 0 0),(3,.ptr 2 4 0 0),(4,.ptr 3 4 0 0)])
  [.row 4 [[.p (.int .i64 e.op),.p (.int .i64 e.n),.p (.str e.name),.p (.lst 4 [a.cs,b.cs])]],.row 4 [[.p (.int .i64 0),.p (.int .i64 0),.p (.str []),.nils]],.row 4 [[.p (.int .i64 a.op),.p (.int .i64 a.n),.p (.str a.name),.p (exL a.kids)]],.row 4 [[.p (.int .i64 b.op),.p (.int .i64 b.n),.p (.str b.name),.p (exL b.kids)]]] ?_ ?_
 ·simp-implicitDefEqProofs[hac,hbc,w1']
  exact⟨aa (by simp) (by simp[okO,below]) (by simp[below]),cr [0,1,3,2] (by simp) (by decide) (by decide) (aE rfl (by simp[below]) (aE rfl (by simp[below]) (aE rfl (by simp[below]) (aE rfl (by simp[below]) bj)))) (by simp[below,ren])⟩
 refine pQ (fun _:Unit=>aj 122 [(1,.ptr 0 4 0 0),(2,.ptr 1 4 0 0),(3,.ptr 2 4 0 0),(4,.ptr 3 4 0 0)]) (fun _=>[.row 4 [[.p (.int .i64 e.op),.p (.int .i64 e.n),.p (.str e.name),.p (.lst 4 [a.cs,b.cs])]],.row 4 [[.p (.int .i64 0),.p (.int .i64 0),.p (.str []),.nils]],.row 4 [[.p (.int .i64 a.op),.p (.int .i64 a.n),.p (.str a.name),.p (exL a.kids)]],.row 4 [[.p (.int .i64 b.op),.p (.int .i64 b.n),.p (.str b.name),.p (exL b.kids)]]]) (fun _=>(if a.op=1∧b.op=1 then ar5 e.op a.n b.n else none)=none) ?_ ?_
 ·by_cases a1:a.op=1
  ·by_cases b1:b.op=1
   ·have H:=IJ G e.op a.n b.n h3 h10 (rc (gW haf)) (rc (gW hbf))
    have hp2:∀q,ar5 e.op a.n b.n=some q→ll e.op e.n e.name a b=lp q:=by
     intro q hq
     unfold ll
     rw[if_pos ⟨a1,b1⟩,hq]
    cases hq:ar5 e.op a.n b.n with
    |none=>
     rw[hq] at H
     simp only[vY] at H
     simp-implicitDefEqProofs[a1,b1,hac,hbc]
     refine H.use ?_
     simp-implicitDefEqProofs[hq]
     exact aa (by simp) (by simp[okO,below]) (by simp[below])
    |some q=>
     rw[hq] at H
     simp only[vY] at H
     rw[hp2 q hq]
     simp-implicitDefEqProofs[a1,b1,hac,hbc]
     refine H.use ?_
     simp-implicitDefEqProofs[]
     refine(jh G _).use ?_
     simp-implicitDefEqProofs[hnc]
   ·simp-implicitDefEqProofs[a1,b1,hac,hbc]
    exact aa (by simp) (by simp[okO,below]) (by simp[below])
  ·simp-implicitDefEqProofs[a1,hac,hbc]
   exact aa (by simp) (by simp[okO,below]) (by simp[below])
 intro _ hn
 have hp2:ll e.op e.n e.name a b=if e.op=10∧isN a 0=true then lp 0 else if(e.op=3∨e.op=4)∧isN b 0=true∨(e.op=5∨e.op=6)∧isN b 1=true then a else if e.op=3∧isN a 0=true∨e.op=5∧isN a 1=true then b
  else if e.op=5∧(isN b 0=true∧dA a=true∨isN a 0=true∧dA b=true) then lp 0 else e:=by
  unfold ll
  rw[hn]
  simp only
  rw[←hk,←hem]
 rw[hp2]
 have HA0:=qL G a 0
 have HA1:=qL G a 1
 have HB0:=qL G b 0
 have HB1:=qL G b 1
 have HSA:=tW G hK hS (hkx a (by rw[hk];simp)) (hks a (by rw[hk];simp))
 have HSB:=tW G hK hS (hkx b (by rw[hk];simp)) (hks b (by rw[hk];simp))
 rw[hac] at HA0 HA1 HSA
 rw[hbc] at HB0 HB1 HSB
 simp only[List.map_cons,List.map_nil,hxl] at HA0 HA1 HB0 HB1 HSA HSB
 simp only[hac,hbc,hxl]
 have ho:e.op=3∨e.op=4∨e.op=5∨e.op=6∨e.op=7∨e.op=8∨e.op=9∨e.op=10:=by omega
 rcases ho with ho|ho|ho|ho|ho|ho|ho|ho
 ·simp-implicitDefEqProofs[ho]
  refine HB0.use ?_
  by_cases hhb0:isN b 0=true
  ·simp-implicitDefEqProofs[hhb0,ho,hc,hxl,hk,hac,hbc]
  ·simp-implicitDefEqProofs[hhb0,ho,hc,hxl,hk,hac,hbc]
   refine HA0.use ?_
   by_cases hha0:isN a 0=true
   ·simp-implicitDefEqProofs[hha0,ho,hc,hxl,hk,hac,hbc]
   ·simp-implicitDefEqProofs[hha0,ho,hc,hxl,hk,hac,hbc]
 ·simp-implicitDefEqProofs[ho]
  refine HB0.use ?_
  by_cases hhb0:isN b 0=true
  ·simp-implicitDefEqProofs[hhb0,ho,hc,hxl,hk,hac,hbc]
  ·simp-implicitDefEqProofs[hhb0,ho,hc,hxl,hk,hac,hbc]
 ·simp-implicitDefEqProofs[ho]
  refine HB1.use ?_
  by_cases hhb1:isN b 1=true
  ·simp-implicitDefEqProofs[hhb1,ho,hc,hxl,hk,hac,hbc]
  ·simp-implicitDefEqProofs[hhb1,ho,hc,hxl,hk,hac,hbc]
   refine HA1.use ?_
   by_cases hha1:isN a 1=true
   ·simp-implicitDefEqProofs[hha1,ho,hc,hxl,hk,hac,hbc]
   ·simp-implicitDefEqProofs[hha1,ho,hc,hxl,hk,hac,hbc]
    refine HB0.use ?_
    by_cases hhb0:isN b 0=true
    ·simp-implicitDefEqProofs[hhb0,ho,hc,hxl,hk,hac,hbc]
     refine HSA.use ?_
     by_cases hhsa:dA a=true
     ·simp-implicitDefEqProofs[hhsa,ho,hc,hxl,hk,hac,hbc]
      refine(jh G _).use ?_
      simp-implicitDefEqProofs[hnc]
     ·simp-implicitDefEqProofs[hhsa,ho,hc,hxl,hk,hac,hbc]
      refine HA0.use ?_
      by_cases hha0:isN a 0=true
      ·simp-implicitDefEqProofs[hha0,ho,hc,hxl,hk,hac,hbc]
       refine HSB.use ?_
       by_cases hhsb:dA b=true
       ·simp-implicitDefEqProofs[hhsb,ho,hc,hxl,hk,hac,hbc]
        refine(jh G _).use ?_
        simp-implicitDefEqProofs[hnc]
       ·simp-implicitDefEqProofs[hhsb,ho,hc,hxl,hk,hac,hbc]
      ·simp-implicitDefEqProofs[hha0,ho,hc,hxl,hk,hac,hbc]
    ·simp-implicitDefEqProofs[hhb0,ho,hc,hxl,hk,hac,hbc]
     refine HA0.use ?_
     by_cases hha0:isN a 0=true
     ·simp-implicitDefEqProofs[hha0,ho,hc,hxl,hk,hac,hbc]
      refine HSB.use ?_
      by_cases hhsb:dA b=true
      ·simp-implicitDefEqProofs[hhsb,ho,hc,hxl,hk,hac,hbc]
       refine(jh G _).use ?_
       simp-implicitDefEqProofs[hnc]
      ·simp-implicitDefEqProofs[hhsb,ho,hc,hxl,hk,hac,hbc]
     ·simp-implicitDefEqProofs[hha0,ho,hc,hxl,hk,hac,hbc]
 ·simp-implicitDefEqProofs[ho]
  refine HB1.use ?_
  by_cases hhb1:isN b 1=true
  ·simp-implicitDefEqProofs[hhb1,ho,hc,hxl,hk,hac,hbc]
  ·simp-implicitDefEqProofs[hhb1,ho,hc,hxl,hk,hac,hbc]
 ·simp-implicitDefEqProofs[ho,hc,hxl,hk,hac,hbc]
 ·simp-implicitDefEqProofs[ho,hc,hxl,hk,hac,hbc]
 ·simp-implicitDefEqProofs[ho,hc,hxl,hk,hac,hbc]
 ·simp-implicitDefEqProofs[ho]
  refine HA0.use ?_
  by_cases hha0:isN a 0=true
  ·simp-implicitDefEqProofs[hha0,ho,hc,hxl,hk,hac,hbc]
   refine(jh G _).use ?_
   simp-implicitDefEqProofs[hnc]
  ·simp-implicitDefEqProofs[hha0,ho,hc,hxl,hk,hac,hbc]
end Go.Proofs.YtaopbokndkdieaaGreatDoor
namespace Go.Proofs.YtaopbokndkdieaaGreatDoor
open Go Go.Aw
set_option maxRecDepth 100000
set_option maxHeartbeats 4000000
theorem cT{α β:Type}(f:α→β):∀(l:List α) (u:Unit),bf (fun(st:Unit) x=>(f x,st)) u l=(l.map f,u)
 |[],u=>rfl
 |x::r,u=>by rw[bf,cT f r];rfl
def vq(f:FuncId)(h:List AO)(hh:∀o∈h,okO h.length o):Vis Unit where
 I:=fun _=>h
 n:=h.length
 F:=f
 caps:=[]
 len:=fun _=>rfl
 ok:=fun _=>hh
 capsOk:=trivial
variable (G:aI)
theorem Kj(hK:G dH=some dy)(hS:G bM=some [PV.tbl opK opV]):∀(d:Nat) (e:Ex),aW d e=true→d≤6→e.parts≤30→e.sz≤1073741824→VF Tryz.prog G fL [.agg (e.cs.map .p)] (.agg ((cm e).cs.map .p)):=by
 intro d
 induction d with
 |zero=>intro e h;cases h
 |succ d ih=>
  intro e hf hd hp hz
  have hc:=e.cs_eq
  have hpp:=e.parts_eq
  have hzz:=e.sz_eq
  have hlen:=aM e.kids
  rw[Ae]
  refine AC.go Ax ?_
  simp-implicitDefEqProofs[sH,hc]
  have HM:=lz G (vq fL [.row 4 [[.p (.int .i64 e.op),.p (.int .i64 e.n),.p (.str e.name),.p (exL e.kids)]],.row 4 [[.p (.int .i64 0),.p (.int .i64 0),.p (.str []),.nils]]] (by simp[okO,below])) (fun(st:Unit) x=>(cm x,st)) (fun _ _=>True) e.kids (by omega) (by show 0<2;omega)
   (fun i st hi _=>⟨trivial,by
     have hk:=List.getElem_mem hi
     have h1:=fj hk
     have h2:=az hk
     exact(ih e.kids[i] (eM hf hk) (by omega) (by omega) (by omega)).ac (by simp[below]) (by simp[below]) _⟩) () trivial
  rw[cT,←cu] at HM
  refine HM.mono ?_
  rintro r h ⟨rfl,rfl⟩
  have H:VF Tryz.prog G fy [.agg [.p (.int .i64 e.op),.p (.int .i64 e.n),.p (.str e.name),.p (exL (aK e.kids))]] (.agg ((dJ e.op e.n e.name (aK e.kids)).cs.map .p)):=by
   have h2:=kS e.kids
   have h3:=lu e.kids
   have H0:=Bs G hK hS (uN hf) hd (by rw[Ex.parts_eq];show 1+de (aK e.kids)≤30;omega) (by
    rw[Ex.sz_eq]
    show 1+e.name.length+cS (aK e.kids)≤_
    omega)
   rw[Ex.cs_eq (.mk e.op e.n e.name (aK e.kids))] at H0
   exact H0
  simp-implicitDefEqProofs[ab,vq]
  refine H.use ?_
  have hq:=(dJ e.op e.n e.name (aK e.kids)).cs_eq
  rw[hq]
  simp-implicitDefEqProofs[]
end Go.Proofs.YtaopbokndkdieaaGreatDoor
namespace Go.Proofs.YtaopbokndkdieaaGreatDoor
open Go Go.Aw
set_option maxRecDepth 100000
set_option maxHeartbeats 4000000
def K_spec_l6Fold:AK:= .seq (.reg [oJ 1 (.box 4 (.t 0)),oJ 2 (.alloc [(.p (.int .i64 0)),(.p (.int .i64 0)),(.p (.str [])),.nils])]) (.seq (.reg [oJ 5 (.bsl 4 [(.p (.int .i64 0)),(.p (.int .i64 0)),(.p (.str [])),.nils] 0 []),oM 3 5]) (.seq (.seq (.reg [oK 4 0]) (.blk 0 (.loop (.seq (.seq (.reg [oM 6 4,oF 7 3 1,oL 8 7,oJ 9 (.len false (.t 8)),oJ 10 (.bin .lss (.t 6) (.t 9))]) (.cond (.t 10) (.skip) (.exit 0))) (.seq (.blk 1 (.reg [oM 13 3,oF 14 3 1,oL 15 14,oM 16 4,oJ 17 (.idxS 4 (.t 15) (.t 16)),oJ 18 (.ld (some 4) (.t 17)),oJ 19 (.call dZ [(.t 18)]),oJ 20 (.bsl 4 [(.p (.int .i64 0)),(.p (.int .i64 0)),(.p (.str [])),.nils] 1 [(0,4,(.t 19))]),oJ 21 (.app 4 56 (.t 13) (.t 20)),oM 3 21])) (.reg [oM 11 4,oJ 12 (.bin .add (.t 11) (.c (.p (.int .i64 1)))),oM 4 12])))))) (.cut (.reg [oM 22 3,oF 23 3 1,oS 23 22]) (.seq (.reg [oJ 24 (.ld (some 4) (.t 1)),oJ 25 (.call fp [(.t 24)]),⟨none,none,.st 4 (.t 2) (.t 25)⟩]) (.ret)))))
theorem wl:K_spec_l6Fold.whole=F_spec_l6Fold.ak:=rfl
def K_spec_l6Folds:AK:= .seq (.reg [oJ 2 (.mov (.c .nils))]) (.seq (.reg [oJ 8 (.bsl 5 [(.p (.int .i64 0)),(.p (.str [])),.nils,.nils,.nils] 0 []),oM 3 8]) (.seq (.seq (.reg [oK 4 0]) (.blk 0 (.loop (.seq (.seq (.reg [oM 9 4,oM 10 0,oJ 11 (.len false (.t 10)),oJ 12 (.bin .lss (.t 9) (.t 11))]) (.cond (.t 12) (.skip) (.exit 0))) (.seq (.blk 1 (.seq (.reg [oM 15 0,oM 16 4,oJ 17 (.idxS 5 (.t 15) (.t 16)),oJ 18 (.ld (some 5) (.t 17)),oJ 5 (.alloc [(.p (.int .i64 0)),(.p (.str [])),.nils,.nils,.nils]),⟨none,none,.st 5 (.t 5) (.t 18)⟩]) (.seq (.reg [oJ 19 (.bsl 4 [(.p (.int .i64 0)),(.p (.int .i64 0)),(.p (.str [])),.nils] 0 []),oM 6 19]) (.seq (.seq (.reg [oK 7 0]) (.blk 2 (.loop (.seq (.seq (.reg [oM 20 7,oF 21 2 5,oL 22 21,oJ 23 (.len false (.t 22)),oJ 24 (.bin .lss (.t 20) (.t 23))]) (.cond (.t 24) (.skip) (.exit 2))) (.seq (.blk 3 (.reg [oM 27 6,oF 28 2 5,oL 29 28,oM 30 7,oJ 31 (.idxS 4 (.t 29) (.t 30)),oJ 32 (.ld (some 4) (.t 31)),oJ 33 (.call dZ [(.t 32)]),oJ 34 (.bsl 4 [(.p (.int .i64 0)),(.p (.int .i64 0)),(.p (.str [])),.nils] 1 [(0,4,(.t 33))]),oJ 35 (.app 4 56 (.t 27) (.t 34)),oM 6 35])) (.reg [oM 25 7,oJ 26 (.bin .add (.t 25) (.c (.p (.int .i64 1)))),oM 7 26])))))) (.cut (.reg [oM 36 6,oF 37 2 5,oS 37 36]) (.seq (.reg [oF 38 3 5,oL 39 38,oJ 40 (.call bp [(.t 39)]),oF 41 3 5,oS 41 40]) (.seq (.reg [oF 42 4 5,oL 43 42,oJ 44 (.call bp [(.t 43)]),oF 45 4 5,oS 45 44]) (.reg [oM 46 3,oJ 47 (.ld (some 5) (.t 5)),oJ 48 (.bsl 5 [(.p (.int .i64 0)),(.p (.str [])),.nils,.nils,.nils] 1 [(0,5,(.t 47))]),oJ 49 (.app 5 96 (.t 46) (.t 48)),oM 3 49])))))))) (.reg [oM 13 4,oJ 14 (.bin .add (.t 13) (.c (.p (.int .i64 1)))),oM 4 14])))))) (.seq (.reg [oM 50 3,oM 2 50]) (.ret))))
theorem vW:K_spec_l6Folds.whole=F_spec_l6Folds.ak:=rfl
variable (G:aI)
theorem sU{l:List Ex}{j:Nat}(h:j<l.length):aK (l.take (j+1))=aK (l.take j)++[cm l[j]]:=by
 rw[ah h,cu,cu,List.map_append];rfl
theorem lG(l:List Ex):(aK l).length=l.length:=by rw[cu,List.length_map]
theorem FA:∀(d:Nat) (e:Ex),aW d e=true→e.sz≤1099511627776→VF Tryz.prog G dZ [.agg (e.cs.map .p)] (.agg ((cm e).cs.map .p)):=by
 intro d
 induction d with
 |zero=>intro e h;cases h
 |succ d ih=>
  intro e hf hz
  have hzz:=e.sz_eq
  have hlen:=aM e.kids
  have hc:=e.cs_eq
  have hxl:∀l,exL l= .lst 4 (l.map Ex.cs):=fun _=>rfl
  refine AC.goK wG wl ?_
  rw[Ae]
  simp-implicitDefEqProofs[K_spec_l6Fold,F_spec_l6Fold,hc]
  refine aF (fun j:Nat=>aj 26 [(1,.ptr 0 4 0 0),(2,.ptr 1 4 0 0),(3,.sl 2 4 0 j),(4,.p (.int .i64 j))])
   (fun j=>[.row 4 [[.p (.int .i64 e.op),.p (.int .i64 e.n),.p (.str e.name),.p (exL e.kids)]],.row 4 [[.p (.int .i64 0),.p (.int .i64 0),.p (.str []),.nils]],.row 4 (exR (aK (e.kids.take j)))])
   (fun j=>j≤e.kids.length) (fun j=>e.kids.length-j) 0 (by simp) ?_ ?_
  ·refine aa (h:=[_,_,.row 4 []]) (by simp) (by simp[okO,below]) (by simp[below])
  intro j hj
  have hrl:(exR (aK (e.kids.take j))).length=j:=by rw[tP,lG];simp;omega
  simp-implicitDefEqProofs[hxl]
  refine bh (fun h=>?_) (fun h=>?_)
  ·simp at h
   have hg:=List.getElem?_eq_getElem h
   have hks:=az (List.getElem_mem h)
   have hkc:=(cm e.kids[j]).cs_eq
   simp-implicitDefEqProofs[hg]
   refine(ih e.kids[j] (eM hf (List.getElem_mem h)) (by omega)).use ?_
   simp-implicitDefEqProofs[hkc,hrl]
   refine⟨⟨by omega,by omega⟩,j+1,by omega,by omega,?_⟩
   have htk:List.take j (exR (aK (e.kids.take j)))=exR (aK (e.kids.take j)):=List.take_of_length_le (by omega)
   rw[sU h,tL,htk]
   have h1:exR [cm e.kids[j]]=[[.p (.int .i64 (cm e.kids[j]).op),.p (.int .i64 (cm e.kids[j]).n),.p (.str (cm e.kids[j]).name),.p (exL (cm e.kids[j]).kids)]]:=by rw[exR,List.map_singleton,hkc];rfl
   rw[h1]
   refine cr [0,1,4] (by simp) (by decide) (by decide) (aE rfl (by simp[below]) (aE rfl (by simp[below]) (aE rfl (fun x hx=>?_) bj))) (by simp[below,ren,hxl,w1 (i:=j) (by omega)])
   rcases List.mem_append.1 hx with h|h
   ·exact jG _ x h
   ·rw[List.mem_singleton.1 h];simp
  ·simp at h
   have hje:j=e.kids.length:=by omega
   subst hje
   rw[List.take_length] at hrl⊢
   simp-implicitDefEqProofs[]
   refine kL (aj 26 [(1,.ptr 0 4 0 0),(2,.ptr 1 4 0 0)]) [.row 4 [[.p (.int .i64 e.op),.p (.int .i64 e.n),.p (.str e.name),.p (exL (aK e.kids))]],.row 4 [[.p (.int .i64 0),.p (.int .i64 0),.p (.str []),.nils]]] ?_ ?_
   ·simp-implicitDefEqProofs[]
    refine ja 2 (by omega) (by simp) rfl (.one (.keep (by simp[below]) (.keep (by simp[below]) (.keep (by simp[below]) (.one ?_ .nil)))) (.same (by simp[okO,below]) (.nil _))) ?_
    ·have hl2:=lG e.kids
     rw[←hl2]
     exact qZ rfl
    ·exact⟨.keep (by simp[below]) .nil,.keep (by simp[below]) .nil,trivial⟩
   have H:VF Tryz.prog G fp [.agg [.p (.int .i64 e.op),.p (.int .i64 e.n),.p (.str e.name),.p (exL (aK e.kids))]] (.agg ((dJ e.op e.n e.name (aK e.kids)).cs.map .p)):=by
    have H0:=GB G (uN hf) (by
     have h2:=kS e.kids
     rw[Ex.sz_eq]
     show 1+e.name.length+cS (aK e.kids)≤_
     omega)
    rw[Ex.cs_eq (.mk e.op e.n e.name (aK e.kids))] at H0
    exact H0
   simp-implicitDefEqProofs[]
   refine H.use ?_
   have hq:=(dJ e.op e.n e.name (aK e.kids)).cs_eq
   rw[hq]
   simp-implicitDefEqProofs[]
theorem Ab{l:List Sm}{j:Nat}(h:j<l.length):ay (l.take (j+1))=ay (l.take j)++[fU l[j]]:=by
 rw[ah h,fR,fR,List.map_append];rfl
theorem pP(l:List Sm):(ay l).length=l.length:=by rw[fR,List.length_map]
theorem sV(l:List Sm)(hf:∀x∈l,∀a∈x.args,aW 6 a=true)(hz:aD l≤1099511627776)
 (ih:∀x∈l,VF Tryz.prog G bp [.p (smL x.body)] (.p (smL (ay x.body)))∧VF Tryz.prog G bp [.p (smL x.els)] (.p (smL (ay x.els)))):VF Tryz.prog G bp [.p (smL l)] (.p (smL (ay l))):=by
 have hll:=aR l
 have hsl:∀l,smL l= .lst 5 (l.map Sm.cs):=fun _=>rfl
 have hxl:∀l,exL l= .lst 4 (l.map Ex.cs):=fun _=>rfl
 have key:AC Tryz.prog G bp [.p (smL l)] [] fun x h=>∃v,x= .ret v∧View h v (smL (ay l)):=by
  refine AC.goK uJ vW ?_
  simp-implicitDefEqProofs[K_spec_l6Folds,F_spec_l6Folds]
  refine aF (fun i:Nat=>aj 51 [(0,.p (smL l)),(3,.sl 0 5 0 i),(4,.p (.int .i64 i))]) (fun i=>[.row 5 (smR (ay (l.take i)))])
   (fun i=>i≤l.length) (fun i=>l.length-i) 0 (by simp) ?_ ?_
  ·refine aa (h:=[.row 5 []]) (by simp) (by simp[okO,below]) (by simp[below])
  intro i hi
  have hol:(smR (ay (l.take i))).length=i:=by rw[iX,pP];simp;omega
  simp-implicitDefEqProofs[hsl]
  refine bh (fun h=>?_) (fun h=>?_)
  ·simp at h
   have hg:=List.getElem?_eq_getElem h
   have hat:=xI h
   have hse:=l[i].cs_eq
   have hsz:=l[i].sz_eq
   have hfx:=hf l[i] (List.getElem_mem h)
   have hix:=ih l[i] (List.getElem_mem h)
   have eR:=Ab h
   have hfc:=(fU l[i]).cs_eq
   rw[uc] at hfc
   simp only[Sm.op,Sm.name,Sm.args,Sm.body,Sm.els] at hfc
   generalize hgs:l[i]=s at hg hat hse hsz hfx hix eR hfc
   generalize ay (l.take i)=out at hol eR⊢
   simp-implicitDefEqProofs[hg,hse]
   refine aF (fun j:Nat=>aj 51 [(0,.p (smL l)),(3,.sl 0 5 0 i),(4,.p (.int .i64 i)),(5,.ptr 1 5 0 0),(6,.sl 2 4 0 j),(7,.p (.int .i64 j))])
    (fun j=>[.row 5 (smR out),.row 5 [[.p (.int .i64 s.op),.p (.str s.name),.p (exL s.args),.p (smL s.body),.p (smL s.els)]],.row 4 (exR (aK (s.args.take j)))])
    (fun j=>j≤s.args.length) (fun j=>s.args.length-j) 0 (by simp) ?_ ?_
   ·refine aa (h:=[_,_,.row 4 []]) (by simp) (ag (bK (aO out)) (ag (by simp[okO,below]) (by simp[okO,below]))) (by simp[below,hsl])
   intro j hj
   have hrl:(exR (aK (s.args.take j))).length=j:=by rw[tP,lG];simp;omega
   have hal:=aM s.args
   simp-implicitDefEqProofs[hxl]
   refine bh (fun hcc=>?_) (fun hcc=>?_)
   ·simp at hcc
    have hga:=List.getElem?_eq_getElem hcc
    have hks:=az (List.getElem_mem hcc)
    have hkc:=(cm s.args[j]).cs_eq
    simp-implicitDefEqProofs[hga]
    refine(FA G 6 s.args[j] (hfx _ (List.getElem_mem hcc)) (by omega)).use ?_
    simp-implicitDefEqProofs[hkc,hrl]
    refine⟨⟨by omega,by omega⟩,j+1,by omega,by omega,?_⟩
    have htk:List.take j (exR (aK (s.args.take j)))=exR (aK (s.args.take j)):=List.take_of_length_le (by omega)
    rw[sU hcc,tL,htk]
    have h1:exR [cm s.args[j]]=[[.p (.int .i64 (cm s.args[j]).op),.p (.int .i64 (cm s.args[j]).n),.p (.str (cm s.args[j]).name),.p (exL (cm s.args[j]).kids)]]:=by rw[exR,List.map_singleton,hkc];rfl
    rw[h1]
    refine cr [0,1,4] (by simp) (by decide) (by decide) (aE rfl (aO out) (aE rfl (by simp[below]) (aE rfl (fun x hx=>?_) bj))) (by simp[below,ren,hxl,hsl,w1 (i:=j) (by omega)])
    rcases List.mem_append.1 hx with h|h
    ·exact jG _ x h
    ·rw[List.mem_singleton.1 h];simp
   simp at hcc
   have hje:j=s.args.length:=by omega
   subst hje
   rw[List.take_length] at hrl⊢
   simp-implicitDefEqProofs[]
   refine kL (aj 51 [(0,.p (smL l)),(3,.sl 0 5 0 i),(4,.p (.int .i64 i)),(5,.ptr 1 5 0 0)])
    [.row 5 (smR out),.row 5 [[.p (.int .i64 s.op),.p (.str s.name),.p (exL (aK s.args)),.p (smL s.body),.p (smL s.els)]]] ?_ ?_
   ·simp-implicitDefEqProofs[]
    refine ja 2 (by omega) (by simp) rfl (.same (bK (aO out)) (.one (.keep (by simp[below]) (.keep (by simp[below]) (.one ?_ (.keep (by simp[below]) (.keep (by simp[below]) .nil))))) (.nil _))) ?_
    ·have hl2:=lG s.args
     rw[←hl2]
     exact qZ rfl
    ·exact⟨.keep (by simp[below]) .nil,.keep (by simp[below]) .nil,.keep (by simp[below]) .nil,.keep (by simp[below]) .nil,trivial⟩
   simp-implicitDefEqProofs[]
   refine hix.1.use ?_
   simp-implicitDefEqProofs[]
   refine hix.2.use ?_
   simp-implicitDefEqProofs[hol]
   refine⟨⟨by omega,by omega⟩,i+1,by omega,by omega,?_⟩
   have htk:List.take i (smR out)=smR out:=List.take_of_length_le (by omega)
   rw[eR,qN,htk]
   have h1:smR [fU s]=[[.p (.int .i64 s.op),.p (.str s.name),.p (exL (aK s.args)),.p (smL (ay s.body)),.p (smL (ay s.els))]]:=by rw[smR,List.map_singleton,uc,Sm.cs_eq];rfl
   rw[h1]
   refine cr [3] (by simp) (by decide) (by decide) (aE rfl (fun x hx=>?_) bj) (by simp[below,ren,hsl,w1 (i:=i) (by omega)])
   rcases List.mem_append.1 hx with h|h
   ·exact aO out x h
   ·rw[List.mem_singleton.1 h];simp
  ·simp at h
   have hie:i=l.length:=by omega
   subst hie
   rw[List.take_length] at hol⊢
   simp-implicitDefEqProofs[]
   have hl2:=pP l
   rw[←hl2]
   exact kP rfl
 refine key.freezeR (fun t v h ⟨_,e,_⟩=>by cases e) fun v h ⟨u,e1,e2⟩=>?_
 cases e1
 exact .one e2 .nil
theorem DH:∀(d:Nat) (l:List Sm),(∀x∈l,aq d x=true)→aD l≤1099511627776→VF Tryz.prog G bp [.p (smL l)] (.p (smL (ay l))):=by
 intro d
 induction d with
 |zero=>
  intro l hf hz
  exact sV G l (fun x hx=>by have:=hf x hx;cases this) hz (fun x hx=>by have:=hf x hx;cases this)
 |succ d ih=>
  intro l hf hz
  refine sV G l (fun x hx=>AP (hf x hx)) hz (fun x hx=>?_)
  have h1:=aL hx
  have h2:=x.sz_eq
  exact⟨ih x.body (lO (hf x hx)) (by omega),ih x.els (ou (hf x hx)) (by omega)⟩
end Go.Proofs.YtaopbokndkdieaaGreatDoor
namespace Go.Proofs.YtaopbokndkdieaaGreatDoor
open Go Go.Aw
set_option maxRecDepth 100000
set_option maxHeartbeats 4000000
def K_spec_l6Cuts:AK:= .seq (.reg [oJ 2 (.mov (.c .nils))]) (.seq (.reg [oJ 7 (.bsl 5 [(.p (.int .i64 0)),(.p (.str [])),.nils,.nils,.nils] 0 []),oM 3 7]) (.seq (.seq (.reg [oK 4 0]) (.blk 0 (.loop (.seq (.seq (.reg [oM 8 4,oM 9 0,oJ 10 (.len false (.t 9)),oJ 11 (.bin .lss (.t 8) (.t 10))]) (.cond (.t 11) (.skip) (.exit 0))) (.seq (.blk 1 (.seq (.reg [oM 14 0,oM 15 4,oJ 16 (.idxS 5 (.t 14) (.t 15)),oJ 17 (.ld (some 5) (.t 16)),oJ 5 (.alloc [(.p (.int .i64 0)),(.p (.str [])),.nils,.nils,.nils]),⟨none,none,.st 5 (.t 5) (.t 17)⟩]) (.seq (.reg [oF 18 2 5,oL 19 18,oJ 20 (.idxS 4 (.t 19) (.c (.p (.int .i64 0)))),oJ 21 (.ld (some 4) (.t 20)),oJ 6 (.alloc [(.p (.int .i64 0)),(.p (.int .i64 0)),(.p (.str [])),.nils]),⟨none,none,.st 4 (.t 6) (.t 21)⟩]) (.seq (.reg [oF 22 3 5,oL 23 22,oJ 24 (.call bw [(.t 23)]),oF 25 3 5,oS 25 24]) (.seq (.reg [oF 26 4 5,oL 27 26,oJ 28 (.call bw [(.t 27)]),oF 29 4 5,oS 29 28]) (.cut (.seq (.reg [oF 30 0 5,oL 31 30,oJ 32 (.bin .eql (.t 31) (.c (.p (.int .i64 6)))),oM 33 32,⟨(some 34),some (33,true),.ld (some 4) (.t 6)⟩,⟨(some 35),some (33,true),.call aY [(.t 34),(.c (.p (.int .i64 0)))]⟩,oJ 36 (.pick (.t 33) (.t 35) (.c (.p (.bool false))))]) (.cond (.t 36) (.exit 1) (.skip))) (.cut (.seq (.reg [oF 37 0 5,oL 38 37,oJ 39 (.bin .eql (.t 38) (.c (.p (.int .i64 5)))),oM 40 39,⟨(some 41),some (40,true),.fldA 0 (.t 6)⟩,⟨(some 42),some (40,true),.ld none (.t 41)⟩,⟨(some 43),some (40,true),.bin .eql (.t 42) (.c (.p (.int .i64 1)))⟩,oJ 44 (.pick (.t 40) (.t 43) (.c (.p (.bool false))))]) (.cond (.t 44) (.seq (.reg [oF 45 1 6,oL 46 45,oJ 47 (.bin .neq (.t 46) (.c (.p (.int .i64 0))))]) (.cond (.t 47) (.reg [oJ 48 (.bsl 5 [(.p (.int .i64 0)),(.p (.str [])),.nils,.nils,.nils] 0 []),oF 49 4 5,oS 49 48]) (.reg [oJ 50 (.bsl 5 [(.p (.int .i64 0)),(.p (.str [])),.nils,.nils,.nils] 0 []),oF 51 3 5,oS 51 50]))) (.skip))) (.seq (.reg [oM 52 3,oJ 53 (.ld (some 5) (.t 5)),oJ 54 (.bsl 5 [(.p (.int .i64 0)),(.p (.str [])),.nils,.nils,.nils] 1 [(0,5,(.t 53))]),oJ 55 (.app 5 96 (.t 52) (.t 54)),oM 3 55]) (.seq (.reg [oF 56 0 5,oL 57 56,oJ 58 (.bin .eql (.t 57) (.c (.p (.int .i64 7))))]) (.cond (.t 58) (.exit 0) (.skip))))))))))) (.reg [oM 12 4,oJ 13 (.bin .add (.t 12) (.c (.p (.int .i64 1)))),oM 4 13])))))) (.seq (.reg [oM 59 3,oM 2 59]) (.ret))))
theorem wa:K_spec_l6Cuts.whole=F_spec_l6Cuts.ak:=rfl
def nb7(l:List Sm):Prop:=∀x∈l,x.op≠7
theorem sr:∀{a b:List Sm},nb7 a→aA (a++b)=aA a++aA b
 |[],b,_=>by rw[aA];rfl
 |x::r,b,h=>by
  have h2:=sr (a:=r) (b:=b) (fun y hy=>h y (by simp[hy]))
  rw[List.cons_append,dv,dv,if_neg (h x (by simp)),if_neg (h x (by simp)),h2]
  split<;>rfl
theorem rT{x:Sm}{r:List Sm}:aA (x::r)=if iu x=true then aA r else if x.op=7 then[cQ x] else cQ x::aA r:=by
 rw[dv]
 split
 ·rfl
 ·split<;>rfl
theorem xt:∀l:List Sm,(aA l).length≤l.length
 |[]=>by rw[aA];exact Nat.le_refl _
 |x::r=>by
  have h:=xt r
  rw[dv]
  split
  ·simp;omega
  ·split
   ·simp
   ·simp;exact h
theorem HY(x:Sm):(cQ x).cs=[.int .i64 x.op,.str x.name,exL x.args,smL (cQ x).body,smL (cQ x).els]:=by rw[Sm.cs_eq,HU,DU,Dn]
variable (G:aI)
theorem tY(l:List Sm)(hf:∀x∈l,x.args≠[])(hz:aD l≤1099511627776)
 (ih:∀x∈l,VF Tryz.prog G bw [.p (smL x.body)] (.p (smL (aA x.body)))∧VF Tryz.prog G bw [.p (smL x.els)] (.p (smL (aA x.els)))):VF Tryz.prog G bw [.p (smL l)] (.p (smL (aA l))):=by
 have hll:=aR l
 have hsl:∀l,smL l= .lst 5 (l.map Sm.cs):=fun _=>rfl
 have hxl:∀l,exL l= .lst 4 (l.map Ex.cs):=fun _=>rfl
 have key:AC Tryz.prog G bw [.p (smL l)] [] fun x h=>∃v,x= .ret v∧View h v (smL (aA l)):=by
  refine AC.goK wj wa ?_
  simp-implicitDefEqProofs[K_spec_l6Cuts,F_spec_l6Cuts]
  refine aF (fun i:Nat=>aj 60 [(0,.p (smL l)),(3,.sl 0 5 0 (aA (l.take i)).length),(4,.p (.int .i64 i))]) (fun i=>[.row 5 (smR (aA (l.take i)))])
   (fun i=>i≤l.length∧nb7 (l.take i)) (fun i=>l.length-i) 0 ⟨by simp,fun x hx=>by simp at hx⟩ ?_ ?_
  ·have e0:aA (l.take 0)=[]:=by rw[List.take_zero,aA]
   rw[e0]
   refine aa (h:=[.row 5 []]) (by simp) (by simp[okO,below]) (by simp[below])
  rintro i ⟨hi,hnb⟩
  have hol:(smR (aA (l.take i))).length=(aA (l.take i)).length:=by rw[iX]
  have hle:(aA (l.take i)).length≤i:=by have:=xt (l.take i);rw[List.length_take] at this;omega
  simp-implicitDefEqProofs[hsl]
  refine bh (fun h=>?_) (fun h=>?_)
  ·simp at h
   have hg:=List.getElem?_eq_getElem h
   have hat:=xI h
   have hse:=l[i].cs_eq
   have hsz:=l[i].sz_eq
   have hfx:=hf l[i] (List.getElem_mem h)
   have hix:=ih l[i] (List.getElem_mem h)
   have htk:=ah h
   have hdr:=List.drop_eq_getElem_cons h
   have hsplit:=List.take_append_drop i l
   generalize hgs:l[i]=s at hg hat hse hsz hfx hix htk hdr
   have hcs:=HY s
   obtain⟨a,r,ha⟩:∃a r,s.args=a::r:=by
    match hx:s.args,hfx with
    |a::r,_=>exact⟨a,r,rfl⟩
   have hac:=a.cs_eq
   have HI:=uY G a 0
   rw[hac] at HI
   simp only[List.map_cons,List.map_nil] at HI
   have hNa:∀n,kI s n=isN a n:=fun n=>by rw[kI,ha]
   have hCa:uf s=decide (a.op=1):=by rw[uf,ha]
   have hzl:iu s=(decide (s.op=6)&&isN a 0):=by rw[iu,hNa]
   have eall:aA l=aA (l.take i)++aA (s::l.drop (i+1)):=by
    conv=>lhs;rw[←hsplit,hdr]
    exact sr hnb
   have enxt:aA (l.take (i+1))=aA (l.take i)++aA [s]:=by rw[htk];exact sr hnb
   generalize aA (l.take i)=out at hol hle eall enxt⊢
   simp-implicitDefEqProofs[hg,hse,hxl,ha,hac]
   refine hix.1.use ?_
   simp-implicitDefEqProofs[]
   refine hix.2.use ?_
   simp-implicitDefEqProofs[]
   refine pQ (fun _:Unit=>aj 60 [(0,.p (smL l)),(3,.sl 0 5 0 out.length),(4,.p (.int .i64 i)),(5,.ptr 1 5 0 0),(6,.ptr 2 4 0 0)])
    (fun _=>[AO.row 5 (smR out),.row 5 [[.p (.int .i64 s.op),.p (.str s.name),.p (.lst 4 ([.int .i64 a.op,.int .i64 a.n,.str a.name,.lst 4 (a.kids.map Ex.cs)]::r.map Ex.cs)),.p (smL (aA s.body)),.p (smL (aA s.els))]],.row 4 [[.p (.int .i64 a.op),.p (.int .i64 a.n),.p (.str a.name),.p (.lst 4 (a.kids.map Ex.cs))]]])
    (fun _=>iu s=false) ?_ ?_
   ·by_cases o6:s.op=6
    ·simp-implicitDefEqProofs[o6]
     refine HI.use ?_
     by_cases h0:isN a 0=true
     ·have ez:iu s=true:=by rw[hzl,h0,o6];rfl
      have e1:aA [s]=[]:=by rw[rT,if_pos ez,aA]
      rw[e1,List.append_nil] at enxt
      simp-implicitDefEqProofs[h0]
      refine⟨i+1,⟨by omega,?_⟩,by omega,?_⟩
      ·rw[htk]
       intro x hx
       rcases List.mem_append.1 hx with hx|hx
       ·exact hnb x hx
       ·rw[List.mem_singleton.1 hx,o6];omega
      ·rw[enxt]
       refine dm [0] rfl (by decide) (aE rfl (aO out) bj) (by simp[below,ren,hsl,w1 (i:=i) (by omega)])
     ·have h0:isN a 0=false:=by simpa using h0
      simp-implicitDefEqProofs[h0,hzl]
      exact aa (by simp) (ag (bK (aO out)) (ag (by simp[okO,below]) (ag (by simp[okO,below]) dR))) (by simp[below,hsl])
    ·simp-implicitDefEqProofs[o6,hzl]
     exact aa (by simp) (ag (bK (aO out)) (ag (by simp[okO,below]) (ag (by simp[okO,below]) dR))) (by simp[below,hsl])
   intro _ hzf
   refine kL (aj 60 [(0,.p (smL l)),(3,.sl 0 5 0 out.length),(4,.p (.int .i64 i)),(5,.ptr 1 5 0 0)])
    [AO.row 5 (smR out),.row 5 [[.p (.int .i64 s.op),.p (.str s.name),.p (.lst 4 ([.int .i64 a.op,.int .i64 a.n,.str a.name,.lst 4 (a.kids.map Ex.cs)]::r.map Ex.cs)),.p (smL (cQ s).body),.p (smL (cQ s).els)]]] ?_ ?_
   ·rw[HL,GZ,hNa,hCa]
    by_cases o5:s.op=5
    ·by_cases a1:a.op=1
     ·by_cases a0:a.n=0
      ·have hn:isN a 0=true:=isN_iff.2 ⟨a1,a0⟩
       simp-implicitDefEqProofs[o5,a1,a0,hn]
       refine ja 2 (by omega) (by simp) rfl (.same (bK (aO out)) (.one (.keep (by simp[below]) (.keep (by simp[below]) (.keep (by simp[below]) (.one ?_ (.keep (by simp[below]) .nil))))) (.nil _))) ?_
       ·exact kP (l:=[]) rfl
       ·exact⟨.keep (by simp[below,hsl]) .nil,.keep (by simp[below]) .nil,.keep (by simp[below]) .nil,.keep (by simp[below]) .nil,trivial⟩
      ·have hn:isN a 0=false:=by
        rw[isN];simp[a1,a0]
       simp-implicitDefEqProofs[o5,a1,a0,hn]
       refine ja 2 (by omega) (by simp) rfl (.same (bK (aO out)) (.one (.keep (by simp[below]) (.keep (by simp[below]) (.keep (by simp[below]) (.keep (by simp[below]) (.one ?_ .nil))))) (.nil _))) ?_
       ·exact kP (l:=[]) rfl
       ·exact⟨.keep (by simp[below,hsl]) .nil,.keep (by simp[below]) .nil,.keep (by simp[below]) .nil,.keep (by simp[below]) .nil,trivial⟩
     ·have hn:isN a 0=false:=by
       rw[isN];simp[a1]
      simp-implicitDefEqProofs[o5,a1,hn]
      exact dm [0,1] rfl (by decide) (aE rfl (aO out) (aE rfl (by simp[below]) bj)) (by simp[below,ren,hsl])
    ·simp-implicitDefEqProofs[o5]
     exact dm [0,1] rfl (by decide) (aE rfl (aO out) (aE rfl (by simp[below]) bj)) (by simp[below,ren,hsl])
   simp-implicitDefEqProofs[hol]
   refine⟨⟨by omega,by omega⟩,?_⟩
   have htk2:List.take out.length (smR out)=smR out:=List.take_of_length_le (by omega)
   have h1:smR [cQ s]=[[.p (.int .i64 s.op),.p (.str s.name),.p (.lst 4 ([.int .i64 a.op,.int .i64 a.n,.str a.name,.lst 4 (a.kids.map Ex.cs)]::r.map Ex.cs)),.p (smL (cQ s).body),.p (smL (cQ s).els)]]:=by
    have e3:exL s.args= .lst 4 ([.int .i64 a.op,.int .i64 a.n,.str a.name,.lst 4 (a.kids.map Ex.cs)]::r.map Ex.cs):=by rw[ha,hxl,List.map_cons,hac,hxl]
    rw[smR,List.map_singleton,hcs,e3];rfl
   have h2:smR out++[[.p (.int .i64 s.op),.p (.str s.name),.p (.lst 4 ([.int .i64 a.op,.int .i64 a.n,.str a.name,.lst 4 (a.kids.map Ex.cs)]::r.map Ex.cs)),.p (smL (cQ s).body),.p (smL (cQ s).els)]]=smR (out++[cQ s]):=by rw[qN,h1]
   rw[htk2,h2]
   refine bh (fun h7=>?_) (fun h7=>?_)
   ·simp at h7
    have e1:aA l=out++[cQ s]:=by rw[eall,rT,if_neg (by rw[hzf];simp),if_pos h7]
    have e2:out.length+1=(aA l).length:=by rw[e1];simp
    simp-implicitDefEqProofs[]
    rw[←e1,e2]
    exact kP rfl
   ·simp at h7
    have e1:aA [s]=[cQ s]:=by rw[rT,if_neg (by rw[hzf];simp),if_neg h7,aA]
    rw[e1] at enxt
    have e2:out.length+1=(out++[cQ s]).length:=by simp
    simp-implicitDefEqProofs[]
    refine⟨i+1,⟨by omega,?_⟩,by omega,?_⟩
    ·rw[htk]
     intro x hx
     rcases List.mem_append.1 hx with hx|hx
     ·exact hnb x hx
     ·rw[List.mem_singleton.1 hx];exact h7
    ·rw[enxt]
     refine cr [3] (by simp) (by decide) (by decide) (aE rfl (aO _) bj) (by simp[below,ren,hsl,w1 (i:=i) (by omega)])
  ·simp at h
   have hie:i=l.length:=by omega
   subst hie
   rw[List.take_length] at hol⊢
   simp-implicitDefEqProofs[]
   exact kP rfl
 refine key.freezeR (fun t v h ⟨_,e,_⟩=>by cases e) fun v h ⟨u,e1,e2⟩=>?_
 cases e1
 exact .one e2 .nil
theorem Az{d:Nat}{x:Sm}(h:aq d x=true):x.args≠[]:=by
 obtain⟨d,rfl⟩:=pY h
 rw[aq,Bool.and_eq_true,Bool.and_eq_true] at h
 have h1:=h.1.1
 simp only[er,Bool.and_eq_true,decide_eq_true_eq] at h1
 have h2:=h1.1.1.1.1.1.1.2
 intro e
 rw[e] at h2
 simp only[List.length_nil,jL] at h2
 split at h2<;>omega
theorem Fe:∀(d:Nat) (l:List Sm),(∀x∈l,aq d x=true)→aD l≤1099511627776→VF Tryz.prog G bw [.p (smL l)] (.p (smL (aA l))):=by
 intro d
 induction d with
 |zero=>
  intro l hf hz
  exact tY G l (fun x hx=>by have:=hf x hx;cases this) hz (fun x hx=>by have:=hf x hx;cases this)
 |succ d ih=>
  intro l hf hz
  refine tY G l (fun x hx=>Az (hf x hx)) hz (fun x hx=>?_)
  have h1:=aL hx
  have h2:=x.sz_eq
  exact⟨ih x.body (lO (hf x hx)) (by omega),ih x.els (ou (hf x hx)) (by omega)⟩
end Go.Proofs.YtaopbokndkdieaaGreatDoor
namespace Go.Proofs.YtaopbokndkdieaaGreatDoor
open Go Go.Aw
set_option maxRecDepth 100000
set_option maxHeartbeats 4000000
def K_impl_cutBlock:AK:= .seq (.reg [oJ 2 (.mov (.c .nils))]) (.seq (.reg [oJ 3 (.mov (.c .nils))]) (.seq (.seq (.reg [oM 6 0,oJ 7 (.len false (.t 6)),oK 8 0]) (.blk 0 (.loop (.seq (.reg [oJ 9 (.bin .lss (.t 8) (.t 7))]) (.seq (.cond (.t 9) (.skip) (.exit 0)) (.seq (.blk 1 (.seq (.reg [oJ 10 (.idxS 5 (.t 6) (.t 8)),oJ 11 (.ld (some 5) (.t 10)),oJ 5 (.alloc [(.p (.int .i64 0)),(.p (.str [])),.nils,.nils,.nils]),⟨none,none,.st 5 (.t 5) (.t 11)⟩]) (.cut (.blk 2 (.seq (.reg [oF 13 0 5,oL 14 13,oJ 15 (.bin .eql (.t 14) (.c (.p (.int .i64 6)))),oM 16 15,⟨(some 17),some (16,true),.fldA 2 (.t 5)⟩,⟨(some 18),some (16,true),.ld none (.t 17)⟩,⟨(some 19),some (16,true),.idxS 4 (.t 18) (.c (.p (.int .i64 0)))⟩,⟨(some 20),some (16,true),.ld (some 4) (.t 19)⟩,⟨(some 21),some (16,true),.call aC [(.t 20),(.c (.p (.int .i64 0)))]⟩,oJ 22 (.pick (.t 16) (.t 21) (.c (.p (.bool false)))),oM 12 22]) (.cond (.t 12) (.exit 1) (.seq (.reg [oF 24 0 5,oL 25 24,oJ 26 (.bin .eql (.t 25) (.c (.p (.int .i64 5)))),oM 27 26,⟨(some 28),some (27,true),.fldA 2 (.t 5)⟩,⟨(some 29),some (27,true),.ld none (.t 28)⟩,⟨(some 30),some (27,true),.idxS 4 (.t 29) (.c (.p (.int .i64 0)))⟩,⟨(some 31),some (27,true),.ld (some 4) (.t 30)⟩,⟨(some 32),some (27,true),.call aC [(.t 31),(.c (.p (.int .i64 0)))]⟩,oJ 33 (.pick (.t 27) (.t 32) (.c (.p (.bool false)))),oM 23 33]) (.cond (.t 23) (.reg [oF 34 3 5,⟨none,none,.st 1 (.t 34) (.c .nils)⟩]) (.seq (.reg [oF 36 0 5,oL 37 36,oJ 38 (.bin .eql (.t 37) (.c (.p (.int .i64 5)))),oM 39 38,⟨(some 40),some (39,true),.fldA 2 (.t 5)⟩,⟨(some 41),some (39,true),.ld none (.t 40)⟩,⟨(some 42),some (39,true),.idxS 4 (.t 41) (.c (.p (.int .i64 0)))⟩,⟨(some 43),some (39,true),.fldA 0 (.t 42)⟩,⟨(some 44),some (39,true),.ld none (.t 43)⟩,⟨(some 45),some (39,true),.bin .eql (.t 44) (.c (.p (.int .i64 1)))⟩,oJ 46 (.pick (.t 39) (.t 45) (.c (.p (.bool false)))),oM 35 46]) (.cond (.t 35) (.reg [oF 47 4 5,⟨none,none,.st 1 (.t 47) (.c .nils)⟩]) (.skip)))))))) (.seq (.reg [oM 48 3,oJ 49 (.ld (some 5) (.t 5)),oJ 50 (.bsl 5 [(.p (.int .i64 0)),(.p (.str [])),.nils,.nils,.nils] 1 [(0,5,(.t 49))]),oJ 51 (.app 5 96 (.t 48) (.t 50)),oM 3 51]) (.seq (.reg [oF 52 0 5,oL 53 52,oJ 54 (.bin .eql (.t 53) (.c (.p (.int .i64 7))))]) (.cond (.t 54) (.exit 0) (.skip))))))) (.reg [oJ 55 (.bin .add (.t 8) (.c (.p (.int .i64 1)))),oM 8 55]))))))) (.seq (.reg [oM 56 3,oM 2 56]) (.ret))))
theorem tk:K_impl_cutBlock.whole=F_impl_cutBlock.ak:=rfl
def fu(x:Sm):Sm:= .mk x.op x.name x.args (if x.op=5∧kI x 0=true then[] else x.body) (if x.op=5∧kI x 0=false∧uf x=true then[] else x.els)
def dz:List Sm→List Sm
 |[]=>[]
 |x::r=>if iu x=true then dz r else fu x::(if x.op=7 then[] else dz r)
def inS(H:List Sm→List Sm)(x:Sm):Sm:= .mk x.op x.name x.args (H x.body) (H x.els)
theorem CK:∀l:List Sm,dz (l.map (inS aA))=aA l
 |[]=>by rw[aA];rfl
 |x::r=>by
  have hz:iu (inS aA x)=iu x:=rfl
  have ha:fu (inS aA x)=cQ x:=by
   obtain⟨o,s,a,bd,el⟩:=x
   rw[cQ];rfl
  rw[List.map_cons,dz,dv,CK r,hz,ha]
  rfl
theorem uh:∀{a b:List Sm},nb7 a→dz (a++b)=dz a++dz b
 |[],b,_=>rfl
 |x::r,b,h=>by
  have h2:=uh (a:=r) (b:=b) (fun y hy=>h y (by simp[hy]))
  rw[List.cons_append,dz,dz,if_neg (h x (by simp)),if_neg (h x (by simp)),h2]
  split<;>rfl
theorem zk:∀l:List Sm,(dz l).length≤l.length
 |[]=>Nat.le_refl _
 |x::r=>by
  have h:=zk r
  rw[dz]
  split
  ·simp;omega
  ·split
   ·simp
   ·simp;exact h
variable (G:aI)
theorem Ai{o0:AO}(ho0:okO 0 o0)(l:List Sm)(hf:∀x∈l,x.args≠[])(hz:l.length≤1073741824):AC Tryz.prog G be [.p (smL l)] [o0] fun x h=>∃id,1≤id∧x= .ret (slE id 5 (smR (dz l)))∧h[0]?=some o0∧h[id]?=some (dY 5 (smR (dz l))):=by
 have hsl:∀l,smL l= .lst 5 (l.map Sm.cs):=fun _=>rfl
 have hxl:∀l,exL l= .lst 4 (l.map Ex.cs):=fun _=>rfl
 ·show AC Tryz.prog G be [.p (smL l)] [o0] fun x h=>∃id,1≤id∧x= .ret (slE id 5 (smR (dz l)))∧h[0]?=some o0∧h[id]?=some (dY 5 (smR (dz l)))
  refine AC.goK tj tk ?_
  simp-implicitDefEqProofs[K_impl_cutBlock,F_impl_cutBlock,hsl]
  refine aF (fun i:Nat=>aj 57 [(3,slE 1 5 (smR (dz (l.take i)))),(6,.p (smL l)),(7,.p (.int .i64 l.length)),(8,.p (.int .i64 i))]) (fun i=>[o0,dY 5 (smR (dz (l.take i)))])
   (fun i=>i≤l.length∧nb7 (l.take i)) (fun i=>l.length-i) 0 ⟨by simp,fun x hx=>by simp at hx⟩ ?_ ?_
  ·have e1:slE 1 5 (smR (dz (l.take 0)))= .nils:=rfl
   have e2:dY 5 (smR (dz (l.take 0)))= .dead:=rfl
   rw[e1,e2]
   exact iw (h:=[o0]) (by simp) (by simp) (by simpa using bK ho0) (by simp[below,hsl])
  rintro i ⟨hi,hnb⟩
  have hle:(dz (l.take i)).length≤i:=by have:=zk (l.take i);rw[List.length_take] at this;omega
  have hol:(smR (dz (l.take i))).length=(dz (l.take i)).length:=by rw[iX]
  simp-implicitDefEqProofs[hsl]
  refine bh (fun h=>?_) (fun h=>?_)
  ·simp at h
   have hg:=List.getElem?_eq_getElem h
   have hse:=l[i].cs_eq
   have hfx:=hf l[i] (List.getElem_mem h)
   have htk:=ah h
   have hdr:=List.drop_eq_getElem_cons h
   have hsplit:=List.take_append_drop i l
   generalize hgs:l[i]=s at hg hse hfx htk hdr
   obtain⟨a,r,ha⟩:∃a r,s.args=a::r:=by
    match hx:s.args,hfx with
    |a::r,_=>exact⟨a,r,rfl⟩
   have hac:=a.cs_eq
   have HI:=qL G a 0
   rw[hac] at HI
   simp only[List.map_cons,List.map_nil,hxl] at HI
   have hNa:∀n,kI s n=isN a n:=fun n=>by rw[kI,ha]
   have hCa:uf s=decide (a.op=1):=by rw[uf,ha]
   have hzl:iu s=(decide (s.op=6)&&isN a 0):=by rw[iu,hNa]
   have eall:dz l=dz (l.take i)++dz (s::l.drop (i+1)):=by
    conv=>lhs;rw[←hsplit,hdr]
    exact uh hnb
   have enxt:dz (l.take (i+1))=dz (l.take i)++dz [s]:=by rw[htk];exact uh hnb
   generalize dz (l.take i)=out at hol hle eall enxt⊢
   simp-implicitDefEqProofs[hg,hse,hxl,ha,hac]
   have enil:smL []= .lst 5 []:=rfl
   refine pQ (fun _:Unit=>aj 57 [(3,slE 1 5 (smR out)),(5,.ptr 2 5 0 0),(6,.p (smL l)),(7,.p (.int .i64 l.length)),(8,.p (.int .i64 i))])
    (fun _=>[o0,dY 5 (smR out),.row 5 [[.p (.int .i64 s.op),.p (.str s.name),.p (.lst 4 ([.int .i64 a.op,.int .i64 a.n,.str a.name,.lst 4 (a.kids.map Ex.cs)]::r.map Ex.cs)),.p (smL (fu s).body),.p (smL (fu s).els)]]]) (fun _=>iu s=false) ?_ ?_
   ·have hb:(fu s).body=if s.op=5∧isN a 0=true then[] else s.body:=by rw[fu,←hNa];rfl
    have hee:(fu s).els=if s.op=5∧isN a 0=false∧decide (a.op=1)=true then[] else s.els:=by rw[fu,←hNa,←hCa];rfl
    by_cases o6:s.op=6
    ·have o5:¬s.op=5:=by omega
     rw[hb,hee,if_neg (by omega),if_neg (by omega)]
     simp-implicitDefEqProofs[o6]
     refine HI.use ?_
     by_cases h0:isN a 0=true
     ·have ez:iu s=true:=by rw[hzl,h0,o6];rfl
      have e1:dz [s]=[]:=by rw[dz,if_pos ez];rfl
      rw[e1,List.append_nil] at enxt
      simp-implicitDefEqProofs[h0]
      refine⟨i+1,⟨by omega,?_⟩,by omega,?_⟩
      ·rw[htk]
       intro x hx
       rcases List.mem_append.1 hx with hx|hx
       ·exact hnb x hx
       ·rw[List.mem_singleton.1 hx,o6];omega
      ·rw[enxt]
       exact cr [0,1] (by simp) (by decide) (by decide) (ke rfl ho0 (tI rfl (aO out) bj)) (by simp[below,ren,hsl,w1 (i:=i) (by omega)])
     ·have h0:isN a 0=false:=by simpa using h0
      simp-implicitDefEqProofs[h0,hzl]
      exact cr [0,1,2] (by simp) (by decide) (by decide) (ke rfl ho0 (tI rfl (aO out) (aE rfl (by simp[below]) bj))) (by simp[below,ren,hsl])
    ·have hz0:iu s=false:=by rw[hzl];simp[o6]
     by_cases o5:s.op=5
     ·rw[hb,hee]
      by_cases h0:isN a 0=true
      ·simp-implicitDefEqProofs[o5,hz0]
       refine HI.use ?_
       simp-implicitDefEqProofs[h0]
       refine ja 3 (by omega) (by simp) rfl (.same (bK ho0) (.same (bK (FN (aO out))) (.one (.keep (by simp[below]) (.keep (by simp[below]) (.keep (by simp[below]) (.one (.nils 5) (.keep (by simp[below]) .nil))))) (.nil _)))) ?_
       exact⟨.keep (by simp[below]) .nil,.keep (by simp[below]) .nil,.keep (by simp[below,hsl]) .nil,.keep (by simp[below]) .nil,.keep (by simp[below]) .nil,trivial⟩
      ·have h0:isN a 0=false:=by simpa using h0
       simp-implicitDefEqProofs[o5,hz0]
       refine HI.use ?_
       by_cases a1:a.op=1
       ·simp-implicitDefEqProofs[h0,a1]
        refine ja 3 (by omega) (by simp) rfl (.same (bK ho0) (.same (bK (FN (aO out))) (.one (.keep (by simp[below]) (.keep (by simp[below]) (.keep (by simp[below]) (.keep (by simp[below]) (.one (.nils 5) .nil))))) (.nil _)))) ?_
        exact⟨.keep (by simp[below]) .nil,.keep (by simp[below]) .nil,.keep (by simp[below,hsl]) .nil,.keep (by simp[below]) .nil,.keep (by simp[below]) .nil,trivial⟩
       ·simp-implicitDefEqProofs[h0,a1]
        exact cr [0,1,2] (by simp) (by decide) (by decide) (ke rfl ho0 (tI rfl (aO out) (aE rfl (by simp[below]) bj))) (by simp[below,ren,hsl])
     ·rw[hb,hee,if_neg (by omega),if_neg (by omega)]
      simp-implicitDefEqProofs[o6,o5,hz0]
      exact cr [0,1,2] (by simp) (by decide) (by decide) (ke rfl ho0 (tI rfl (aO out) (aE rfl (by simp[below]) bj))) (by simp[below,ren,hsl])
   intro _ hzf
   simp-implicitDefEqProofs[hol]
   refine⟨⟨by omega,by omega⟩,?_⟩
   have htk2:List.take out.length (smR out)=smR out:=List.take_of_length_le (by omega)
   have h1:smR [fu s]=[[.p (.int .i64 s.op),.p (.str s.name),.p (.lst 4 ([.int .i64 a.op,.int .i64 a.n,.str a.name,.lst 4 (a.kids.map Ex.cs)]::r.map Ex.cs)),.p (smL (fu s).body),.p (smL (fu s).els)]]:=by
    have e3:exL s.args= .lst 4 ([.int .i64 a.op,.int .i64 a.n,.str a.name,.lst 4 (a.kids.map Ex.cs)]::r.map Ex.cs):=by rw[ha,hxl,List.map_cons,hac,hxl]
    have e4:(fu s).cs=[.int .i64 s.op,.str s.name,exL s.args,smL (fu s).body,smL (fu s).els]:=by rw[Sm.cs_eq];rfl
    rw[smR,List.map_singleton,e4,e3];rfl
   have h2:smR out++[[.p (.int .i64 s.op),.p (.str s.name),.p (.lst 4 ([.int .i64 a.op,.int .i64 a.n,.str a.name,.lst 4 (a.kids.map Ex.cs)]::r.map Ex.cs)),.p (smL (fu s).body),.p (smL (fu s).els)]]=smR (out++[fu s]):=by rw[qN,h1]
   have hne:smR (out++[fu s])≠[]:=by rw[qN];simp[smR]
   have e2:(smR (out++[fu s])).length=out.length+1:=by rw[iX];simp
   try rw[htk2]
   rw[h2]
   refine bh (fun h7=>?_) (fun h7=>?_)
   ·simp at h7
    have e1:dz l=out++[fu s]:=by rw[eall,dz,if_neg (by rw[hzf];simp),if_pos h7]
    have e3:out.length+1=(dz l).length:=by rw[e1];simp
    simp-implicitDefEqProofs[]
    rw[←e1] at hne⊢
    refine⟨4,by omega,?_,by rw[ga hne];rfl⟩
    rw[eh hne,iX,e3]
   ·simp at h7
    have e1:dz [s]=[fu s]:=by rw[dz,if_neg (by rw[hzf];simp),if_neg h7];rfl
    rw[e1] at enxt
    simp-implicitDefEqProofs[]
    refine⟨i+1,⟨by omega,?_⟩,by omega,?_⟩
    ·rw[htk]
     intro x hx
     rcases List.mem_append.1 hx with hx|hx
     ·exact hnb x hx
     ·rw[List.mem_singleton.1 hx];exact h7
    ·rw[enxt,eh hne,ga hne,e2]
     exact cr [0,4] (by simp) (by decide) (by decide) (ke rfl ho0 (aE rfl (aO _) bj)) (by simp[below,ren,hsl,w1 (i:=i) (by omega)])
  ·simp at h
   have hie:i=l.length:=by omega
   subst hie
   rw[List.take_length]
   simp-implicitDefEqProofs[]
   exact⟨1,by omega,rfl,rfl⟩
theorem BS{o0:AO}(ho0:okO 0 o0)(l:List Sm)(hf:∀x∈l,x.args≠[])(hz:l.length≤1073741824):AC Tryz.prog G be [.p (smL l)] [o0] fun x h=>x= .ret (.p (smL (dz l)))∧h=[o0]:=by
 refine(Ai G ho0 l hf hz).frz 1 (by simp) (fun t v h ⟨_,_,e,_⟩=>by cases e) ?_
 rintro v h ⟨id,hid,e,h0,h1⟩
 cases e
 match h,h0 with
 |o::r,h0=>
  simp at h0
  subst h0
  have ht:(tail 1 (o::r))[id]?=some (dY 5 (((dz l).map Sm.cs).map (·.map .p))):=by
   have hh:smR (dz l)=((dz l).map Sm.cs).map (·.map .p):=by simp[smR]
   rw[←hh,←h1]
   obtain⟨k,rfl⟩:∃k,id=k+1:=⟨id-1,by omega⟩
   rfl
  have hv:=uk ht (fun x hx=>by obtain⟨b,_,rfl⟩:=List.mem_map.1 hx;simp)
  have hh:smR (dz l)=((dz l).map Sm.cs).map (·.map .p):=by simp[smR]
  refine⟨.p (smL (dz l)),[o],by simp,rfl,.one ?_ .nil,.same (bK ho0) (.nil _),rfl,rfl⟩
  rw[hh]
  exact hv
end Go.Proofs.YtaopbokndkdieaaGreatDoor
namespace Go.Proofs.YtaopbokndkdieaaGreatDoor
open Go Go.Aw
set_option maxRecDepth 100000
set_option maxHeartbeats 4000000
def me(x:Sm):Sm:= .mk x.op x.name (aK x.args) x.body x.els
theorem GI(x:Sm):(me x).cs=[.int .i64 x.op,.str x.name,exL (aK x.args),smL x.body,smL x.els]:=by rw[Sm.cs_eq];rfl
variable (G:aI)
theorem Ef(hK:G dH=some dy)(hS:G bM=some [PV.tbl opK opV])(l:List Sm)(hf:∀x∈l,∀a∈x.args,fI a=true)(hz:aD l≤1073741824):
 AC Tryz.prog G aP [.sl 0 5 0 l.length] [.row 5 (smR l)] fun x h=>x= .ret (.sl 0 5 0 l.length)∧h=[.row 5 (smR (l.map me))]:=by
 have hll:=aR l
 have hxl:∀l,exL l= .lst 4 (l.map Ex.cs):=fun _=>rfl
 let L:Nat→List Sm:=fun i=>(l.take i).map me++l.drop i
 have hLl:∀i,i≤l.length→(L i).length=l.length:=fun i hi=>by simp[L];omega
 have hLg:∀i,i<l.length→(L i)[i]?=l[i]?:=fun i hi=>by
  have:((l.take i).map me).length=i:=by simp;omega
  rw[List.getElem?_append_right (by omega),this,Nat.sub_self,List.getElem?_drop,Nat.add_zero]
 have hLs:∀i f,l[i]?=some f→(L i).set i (me f)=L (i+1):=fun i f hi=>by
  have hil:=(List.getElem?_eq_some_iff.1 hi).1
  have hlen:((l.take i).map me).length=i:=by simp;omega
  show((l.take i).map me++l.drop i).set i (me f)=(l.take (i+1)).map me++l.drop (i+1)
  rw[List.set_append_right _ _ (by omega),hlen,Nat.sub_self,List.drop_eq_getElem_cons hil,List.set_cons_zero,ah hil,List.map_append,List.append_assoc]
  have:l[i]=f:=by rw[List.getElem?_eq_getElem hil] at hi;exact Option.some.inj hi
  rw[this];rfl
 have hL0:L 0=l:=by simp[L]
 have hLe:L l.length=l.map me:=by
  show(l.take l.length).map me++l.drop l.length=_
  rw[List.take_length,List.drop_length,List.append_nil]
 generalize hLL:L=L2 at hLl hLg hLs hL0 hLe
 refine AC.go iA ?_
 simp-implicitDefEqProofs[eE]
 refine aF (fun i:Nat=>aj 21 [(0,.sl 0 5 0 l.length),(5,.p (.int .i64 l.length)),(6,.p (.int .i64 i))]) (fun i=>[.row 5 (smR (L2 i))]) (fun i=>i≤l.length) (fun i=>l.length-i) 0 (by simp) ?_ ?_
 ·rw[hL0]
  exact cr [0] (by simp) (by decide) (by decide) (aE rfl (aO l) bj) (by simp[below,ren])
 intro i hi
 have hfl2:=iX (L2 i)
 rw[hLl i hi] at hfl2
 simp-implicitDefEqProofs[]
 refine bh (fun h=>?_) (fun h=>?_)
 ·simp at h
  have hg:=List.getElem?_eq_getElem h
  have hm:=List.getElem_mem h
  have hse:=l[i].cs_eq
  have hgi:(smR (L2 i))[i]?=some [.p (.int .i64 l[i].op),.p (.str l[i].name),.p (exL l[i].args),.p (smL l[i].body),.p (smL l[i].els)]:=by
   rw[smR,List.getElem?_map,hLg i h,hg,Option.map_some,hse];rfl
  have hst:=hLs i l[i] hg
  have hfz:=aL hm
  have hfb:=hf l[i] hm
  generalize l[i]=s at hg hm hgi hst hfz hfb hse
  have hsz:=s.sz_eq
  have hal:=aM s.args
  have hok:∀o∈[AO.row 5 (smR (L2 i))],okO [AO.row 5 (smR (L2 i))].length o:=ag (bK (aO _)) dR
  have HM:=lz G (vq fL [.row 5 (smR (L2 i))] hok) (fun(st:Unit) x=>(cm x,st)) (fun _ _=>True) s.args (by omega) (by show 0<1;omega)
   (fun j st hj _=>⟨trivial,by
     have hk:=List.getElem_mem hj
     have h1:=hfb _ hk
     have h2:=az hk
     rw[fI,Bool.and_eq_true,decide_eq_true_eq] at h1
     exact(Kj G hK hS 6 s.args[j] h1.1 (by omega) h1.2 (by omega)).ac (by simp[below]) (by simp[below]) _⟩) () trivial
  rw[cT,←cu] at HM
  have hst2:(smR (L2 i)).set i [.p (.int .i64 s.op),.p (.str s.name),.p (exL (aK s.args)),.p (smL s.body),.p (smL s.els)]=smR (L2 (i+1)):=by
   rw[←hst,smR,smR,List.map_set,GI];rfl
  simp-implicitDefEqProofs[hfl2,hgi]
  refine⟨h,?_⟩
  refine HM.mono ?_
  rintro r h' ⟨rfl,rfl⟩
  simp-implicitDefEqProofs[ab,vq,hfl2,hgi,hst2]
  refine⟨h,i+1,by omega,by omega,cr [0] (by simp) (by decide) (by decide) (aE rfl (aO _) bj) (by simp[below,ren,w1 (i:=i) (by omega)])⟩
 ·simp at h
  have hie:i=l.length:=by omega
  subst hie
  rw[hLe]
  simp-implicitDefEqProofs[]
theorem BO:AC Tryz.prog G aP [.nils] [] fun x h=>x= .ret .nils:=by
 refine AC.go iA ?_
 simp-implicitDefEqProofs[eE]
 refine aF (fun _:Unit=>aj 21 [(0,.nils),(5,.p (.int .i64 0)),(6,.p (.int .i64 0))]) (fun _=>[]) (fun _=>True) (fun _=>0) () trivial ?_ ?_
 ·exact aa (by simp) (by simp) (by simp[below])
 intro _ _
 simp-implicitDefEqProofs[]
end Go.Proofs.YtaopbokndkdieaaGreatDoor
namespace Go.Proofs.YtaopbokndkdieaaGreatDoor
open Go Go.Aw
set_option maxRecDepth 100000
set_option maxHeartbeats 4000000
theorem DB{h:List AO}{id:Nat}{l:List Fd}(e:h[id]?=some (.row 3 (bR l))):View h (.sl id 3 0 l.length) (fdL l):=by
 have:=gk (h:=h) (id:=id) (sz:=3) (n:=l.length) (ls:=l.map Fd.cs) (by rw[e,bR];simp) (by simp) (fun x hx=>by obtain⟨b,_,rfl⟩:=List.mem_map.1 hx;exact b.cs_len)
 exact this
theorem FT(a b:List Fd):bR (a++b)=bR a++bR b:=by simp[bR]
theorem rh(a:List Fd):(bR a).length=a.length:=by simp[bR]
variable (G:aI)
end Go.Proofs.YtaopbokndkdieaaGreatDoor
namespace Go.Proofs.YtaopbokndkdieaaGreatDoor
open Go Go.Aw
set_option maxRecDepth 100000
theorem pV{s:Bool}{h:List AO}{vs:List AV}{q:PV}{I:List Nat}(H:OwnL s h vs [q] I):∃v,vs=[v]:=by
 have:=H.len
 match vs,this with
 |[v],_=>exact⟨v,rfl⟩
theorem GV{s:Bool}{h:List AO}{vs:List AV}{e:Ex}{I:List Nat}(H:OwnL s h vs e.cs I):∃K,vs=[.p (.int .i64 e.op),.p (.int .i64 e.n),.p (.str e.name),K]∧OwnL s h [K] [exL e.kids] I:=by
 rw[e.cs_eq] at H
 cases H with
 |p _ _ H=>
  cases H with
  |p _ _ H=>
   cases H with
   |p _ _ H=>
    obtain⟨v,rfl⟩:=pV H
    exact⟨v,rfl,H⟩
end Go.Proofs.YtaopbokndkdieaaGreatDoor
namespace Go.Proofs.YtaopbokndkdieaaGreatDoor
open Go Go.Aw
set_option maxRecDepth 100000
set_option maxHeartbeats 4000000
variable (G:aI)
def PshF(s:Bool)(sz:Nat)(D:List (List PV))(h0:List AO)(a:PshS):Prop:=a.i≤D.length∧h0.length≤a.id∧h0.length≤a.h.length∧(∀j,j<h0.length→a.h[j]?=h0[j]?)∧∃rows J,RowOwn s a.h a.id sz rows (D.take a.i) J∧∀j∈J,h0.length≤j
theorem Bq{h h2:List AO}(hl:h.length≤h2.length)(hf:∀j,j<h.length→h2[j]?=h[j]?):h2=h++h2.drop h.length:=by
 have e:h2.take h.length=h:=by
  apply List.ext_getElem?
  intro j
  by_cases hj:j<h.length
  ·rw[List.getElem?_take_of_lt hj];exact hf j hj
  ·rw[List.getElem?_eq_none (by rw[List.length_take];omega),List.getElem?_eq_none (by omega)]
 have e2:=List.take_append_drop h.length h2
 rw[e] at e2
 exact e2.symm
theorem PshF.init{s:Bool}{sz:Nat}{D:List (List PV)}(h0 os:List AO):PshF s sz D h0 ⟨0,h0.length,h0++ .row sz []::os⟩:=
 ⟨Nat.zero_le _,Nat.le_refl _,by simp,fun j hj=>List.getElem?_append_left hj,[],[],⟨by simp,rfl,fun _ h=>(by cases h),fun _ h=>(by cases h),.nil,by simp⟩,fun j hj=>by cases hj⟩
theorem PshF.step{s:Bool}{sz i id:Nat}{D:List (List PV)}{h0 h:List AO}(H:PshF s sz D h0 ⟨i,id,h⟩){e:List PV}(hi:D[i]?=some e){h2:List AO}(hl:h.length≤h2.length)(hf:∀j,j<h.length→h2[j]?=h[j]?){r':List AV}{I2:List Nat}(ho:OwnL s h2 r' e I2)(nd2:I2.Nodup)(hn:∀j∈I2,h.length≤j)(he:e.length=sz):
 ∃rows,(∀os,(h2++os)[id]?=some (.row sz rows))∧rows.length=i∧i<D.length∧id<h2.length∧∀os1 os2,PshF s sz D h0 ⟨i+1,(h2++os1).length,(h2++os1).set id .dead++ .row sz (rows++[r'])::os2⟩:=by
 obtain⟨h1,h3,h4,h5,rows,J,hr,hJ⟩:=H
 have hil:i<D.length:=(List.getElem?_eq_some_iff.1 hi).1
 have hlen:=hr.len
 simp only at h1 h3 h4 h5 hlen hr
 rw[List.length_take,Nat.min_eq_left h1] at hlen
 have e2:=Bq hl hf
 have hid:=hr.lt
 have h2e:h2[id]?=some (.row sz rows):=by rw[hf id hid];exact hr.here
 refine⟨rows,fun os=>by rw[List.getElem?_append_left (by omega)];exact h2e,hlen,hil,by omega,fun os1 os2=>⟨hil,by simp only[List.length_append];omega,by simp;omega,fun j hj=>?_,rows++[r'],J++I2,?_,fun j hj=>?_⟩⟩
 ·simp only
  rw[List.getElem?_append_left (by simp only[List.length_set,List.length_append,List.length_cons];omega),List.getElem?_set_ne (by omega),List.getElem?_append_left (by omega),hf j (by omega)]
  exact h5 j hj
 ·have hp:=(hr.push (h2:=h2++os1) (os:=h2.drop h.length++os1) (by rw[←List.append_assoc,←e2]) (ho.more os1) nd2 hn he).more os2
  have hd:D.take i++[e]=D.take (i+1):=by rw[List.take_add_one,hi];rfl
  rw[hd,List.append_assoc] at hp
  exact hp
 ·rcases List.mem_append.1 hj with hj|hj
  ·exact hJ j hj
  ·have:=hn j hj;omega
theorem PshF.done{s:Bool}{sz i id:Nat}{D:List (List PV)}{h0 h:List AO}(H:PshF s sz D h0 ⟨i,id,h⟩)(hi:D.length≤i):h0.length≤h.length∧(∀j,j<h0.length→h[j]?=h0[j]?)∧∃I,OwnL s h [.sl id sz 0 i] [.lst sz D] I∧I.Nodup∧∀j∈I,h0.length≤j:=by
 obtain⟨h1,h3,h4,h5,rows,J,hr,hJ⟩:=H
 simp only at h1 h3 h4 h5 hr
 rw[List.take_of_length_le hi] at hr
 exact⟨h4,h5,id::J,hr.tree (by omega),hr.nd,fun j hj=>by
  rcases List.mem_cons.1 hj with rfl|hj
  ·exact h3
  ·exact hJ j hj⟩
theorem Aq{s:Bool}{n:Nat}{h1 os:List AO}{a b:List AV}{c d:List PV}{I1 I2:List Nat}(H1:OwnL s h1 a c I1)(n1:I1.Nodup)(f1:∀i∈I1,n≤i)(H2:OwnL s (h1++os) b d I2)(n2:I2.Nodup)(f2:∀i∈I2,h1.length≤i)(hn:n≤h1.length):
 OwnL s (h1++os) (a++b) (c++d) (I1++I2)∧(I1++I2).Nodup∧∀i∈I1++I2,n≤i:=by
 refine⟨(H1.more os).app H2,?_,fun i hi=>?_⟩
 ·rw[List.nodup_append]
  refine⟨n1,n2,fun a ha b hb e=>?_⟩
  have:=H1.lt ha;have:=f2 b hb;omega
 ·rcases List.mem_append.1 hi with hi|hi
  ·exact f1 i hi
  ·have:=f2 i hi;omega
theorem Gi{α:Type}(l:List α)(a b:α):(l++[a]).set l.length b=l++[b]:=by
 rw[List.set_append_right _ _ (Nat.le_refl _),Nat.sub_self];rfl
theorem Jn{h:List AO}{s:Sm}{A B E:AV}{I:List Nat}(H:OwnL true h ([A]++[B]++[E]) ([exL s.args]++[smL s.body]++[smL s.els]) I):OwnL true h [.p (.int .i64 s.op),.p (.str s.name),A,B,E] s.cs I:=by
 rw[s.cs_eq]
 exact .p _ (fun _=>rfl) (.p _ (fun _=>rfl) H)
theorem nZ{s:Bool}{h:List AO}{v:AV}{q:PV}{I:List Nat}(H:OwnL s h [v] [q] I):(∃q',v= .p q')∨v= .nils∨∃a b n,v= .sl a b 0 n:=by
 cases H with
 |p q=>exact .inl ⟨_,rfl⟩
 |nils=>exact .inr (.inl rfl)
 |sl id sz n=>exact .inr (.inr ⟨_,_,_,rfl⟩)
theorem IS{s:Bool}{h:List AO}{e:Ex}{K:AV}{I:List Nat}(H:OwnL s h [K] [exL e.kids] I):OwnL s h [.p (.int .i64 e.op),.p (.int .i64 e.n),.p (.str e.name),K] e.cs I:=by
 rw[e.cs_eq]
 exact .p _ (fun _=>rfl) (.p _ (fun _=>rfl) (.p _ (fun _=>rfl) H))
theorem Hl:∀(N:Nat) (e:Ex),e.sz≤N→e.sz≤1073741824→AC Tryz.prog G im [.agg (e.cs.map .p)] [] (MkW .agg true e.cs):=by
 intro N
 induction N with
 |zero=>intro e he;have:=e.sz_eq;omega
 |succ N ih=>
  intro e he hb
  have hsz:=e.sz_eq
  have hkl:=aM e.kids
  refine AC.go wc ?_
  have hec:=e.cs_eq
  have hsl:exL e.kids= .lst 4 (e.kids.map Ex.cs):=rfl
  simp-implicitDefEqProofs[pm,hec,hsl]
  obtain⟨hb0,ehb⟩:∃hb0:List AO,hb0=[.row 4 [[.p (.int .i64 e.op),.p (.int .i64 e.n),.p (.str e.name),.p (.lst 4 (e.kids.map Ex.cs))]],.row 4 [[.p (.int .i64 0),.p (.int .i64 0),.p (.str []),.nils]]]:=⟨_,rfl⟩
  have hini:PshF true 4 (e.kids.map Ex.cs) hb0 ⟨0,2,[.row 4 [[.p (.int .i64 e.op),.p (.int .i64 e.n),.p (.str e.name),.p (.lst 4 (e.kids.map Ex.cs))]],.row 4 [[.p (.int .i64 0),.p (.int .i64 0),.p (.str []),.nils]],.row 4 []]⟩:=by
   rw[ehb];exact PshF.init _ []
  refine aF (fun a:PshS=>aj 25 [(4,.p (.int .i64 a.i)),(3,.sl a.id 4 0 a.i),(2,.ptr 1 4 0 0),(1,.ptr 0 4 0 0)]) (fun a=>a.h) (PshF true 4 (e.kids.map Ex.cs) hb0) (fun a=>e.kids.length-a.i) _ hini ?_ ?_
  ·exact ij (by simp) (by simp[below])
  rintro⟨i,id,h'⟩ hJ
  have hl0:hb0.length=2:=by rw[ehb];rfl
  have g0:h'[0]?=some (.row 4 [[.p (.int .i64 e.op),.p (.int .i64 e.n),.p (.str e.name),.p (.lst 4 (e.kids.map Ex.cs))]]):=by rw[hJ.2.2.2.1 0 (by omega),ehb];rfl
  have g1:h'[1]?=some (.row 4 [[.p (.int .i64 0),.p (.int .i64 0),.p (.str []),.nils]]):=by rw[hJ.2.2.2.1 1 (by omega),ehb];rfl
  have hl2:2≤h'.length:=by have:=hJ.2.2.1;simp only at this;omega
  simp-implicitDefEqProofs[g0]
  refine bh (fun h1=>?_) (fun h1=>?_)
  ·simp at h1
   have hg:=List.getElem?_eq_getElem h1
   have hm:=az (List.getElem_mem h1)
   have hH:=ih e.kids[i] (by omega) (by omega)
   have hcs:=e.kids[i].cs_eq
   have hDa:(e.kids.map Ex.cs)[i]?=some e.kids[i].cs:=by rw[List.getElem?_map,hg];rfl
   generalize e.kids[i]=k at hg hH hcs hDa
   have hA:=AC.mkLift CX hH (h:=h') (by rw[hcs];simp)
   rw[hcs] at hA
   simp-implicitDefEqProofs[g0,hg,hcs]
   refine hA.mono ?_
   rintro r h2 ⟨vs,I2,os,rfl,e2,ho,nd,hf⟩
   rw[←hcs] at ho
   obtain⟨rows,k1,k2,k3,k4,k5⟩:=hJ.step hDa (h2:=h2) (by rw[e2];simp) (fun x hx=>by rw[e2,List.getElem?_append_left hx]) ho nd hf k.cs_len
   obtain⟨K,rfl,hK⟩:=GV ho
   have hwi:=w1 (i:=i) (by omega)
   rcases nZ hK with⟨q1,rfl⟩|rfl|⟨x1,x2,x3,rfl⟩
   ·have k6:=k5 [.row 4 [[.p (.int .i64 k.op),.p (.int .i64 k.n),.p (.str k.name),.p q1]]] []
    simp-implicitDefEqProofs[ab,k1,k2]
    rw[List.take_of_length_le (l:=rows) (i:=i) (by omega)]
    refine⟨⟨by omega,by omega⟩,_,k6,by simp only;omega,ij (by simp) ?_⟩
    simp[below,hwi]
   ·have k6:=k5 [.row 4 [[.p (.int .i64 k.op),.p (.int .i64 k.n),.p (.str k.name),.nils]]] []
    simp-implicitDefEqProofs[ab,k1,k2]
    rw[List.take_of_length_le (l:=rows) (i:=i) (by omega)]
    refine⟨⟨by omega,by omega⟩,_,k6,by simp only;omega,ij (by simp) ?_⟩
    simp[below,hwi]
   ·have k6:=k5 [.row 4 [[.p (.int .i64 k.op),.p (.int .i64 k.n),.p (.str k.name),.sl x1 x2 0 x3]]] []
    simp-implicitDefEqProofs[ab,k1,k2]
    rw[List.take_of_length_le (l:=rows) (i:=i) (by omega)]
    refine⟨⟨by omega,by omega⟩,_,k6,by simp only;omega,ij (by simp) ?_⟩
    simp[below,hwi]
  ·simp at h1
   have hie:i=e.kids.length:=by have:=hJ.1;simp at this;omega
   obtain⟨d1,d2,I,ho,nd,hI⟩:=hJ.done (by simpa using h1)
   subst hie
   have hn0:0∉I:=fun hm=>by have:=hI 0 hm;omega
   have hn1:1∉I:=fun hm=>by have:=hI 1 hm;omega
   have s0:∀x,(h'.set 0 x)[0]?=some x:=fun x=>List.getElem?_set_self (by omega)
   have s1:∀x,(h'.set 0 x)[1]?=some (.row 4 [[.p (.int .i64 0),.p (.int .i64 0),.p (.str []),.nils]]):=fun x=>by rw[List.getElem?_set_ne (by omega)];exact g1
   have s2:∀x y,((h'.set 0 x).set 1 y)[1]?=some y:=fun x y=>List.getElem?_set_self (by rw[List.length_set];omega)
   simp-implicitDefEqProofs[g0,g1,s0,s1,s2]
   rw[←hsl,←hec]
   exact⟨_,I,rfl,IS ((ho.set_out hn0 _).set_out hn1 _),nd⟩
theorem Du:∀(N:Nat) (l:List Sm),aD l<N→aD l≤1073741824→AC Tryz.prog G dI [.p (smL l)] [] (MkW kz true [smL l]):=by
 intro N
 induction N with
 |zero=>intro l he;omega
 |succ N ih=>
  intro l hN hz
  have hsl:∀l,smL l= .lst 5 (l.map Sm.cs):=fun _=>rfl
  have hll:=aR l
  refine AC.go uq ?_
  simp-implicitDefEqProofs[nz,hsl]
  refine aF (fun a:PshS=>aj 52 [(4,.p (.int .i64 a.i)),(3,.sl a.id 5 0 a.i),(0,.p (smL l))]) (fun a=>a.h) (PshF true 5 (l.map Sm.cs) []) (fun a=>l.length-a.i) ⟨0,0,[.row 5 []]⟩ (PshF.init [] []) ?_ ?_
  ·exact ij (by simp) (by simp[below,hsl])
  rintro⟨i,id,hh⟩ hI
  simp-implicitDefEqProofs[hsl]
  refine bh (fun h1=>?_) (fun h1=>?_)
  ·simp at h1
   have hg:=List.getElem?_eq_getElem h1
   have hm:=aL (List.getElem_mem h1)
   have hcs:=l[i].cs_eq
   have hse:=l[i].sz_eq
   have hD:(l.map Sm.cs)[i]?=some l[i].cs:=by rw[List.getElem?_map,hg];rfl
   generalize l[i]=s at hg hm hcs hse hD
   simp-implicitDefEqProofs[hg,hcs,Gi]
   have hid:id<hh.length:=by obtain⟨_,_,_,_,_,_,hr,_⟩:=hI;exact hr.lt
   have hal:=aM s.args
   have hxl:exL s.args= .lst 4 (s.args.map Ex.cs):=rfl
   obtain⟨hb,ehb⟩:∃hb,hb=hh++[AO.row 5 [[.p (.int .i64 s.op),.p (.str s.name),.p (exL s.args),.p (smL s.body),.p (smL s.els)]]]:=⟨_,rfl⟩
   have hbl:hb.length=hh.length+1:=by rw[ehb];simp
   have hbx:hb[hh.length]?=some (.row 5 [[.p (.int .i64 s.op),.p (.str s.name),.p (exL s.args),.p (smL s.body),.p (smL s.els)]]):=by rw[ehb];simp
   have hini:PshF true 4 (s.args.map Ex.cs) hb ⟨0,hh.length+1,hh++[AO.row 5 [[.p (.int .i64 s.op),.p (.str s.name),.p (exL s.args),.p (smL s.body),.p (smL s.els)]],.row 4 []]⟩:=by
    have:=PshF.init (s:=true) (sz:=4) (D:=s.args.map Ex.cs) hb []
    rw[hbl,ehb,List.append_assoc] at this
    rw[ehb];exact this
   refine aF (fun a:PshS=>aj 52 [(7,.p (.int .i64 a.i)),(6,.sl a.id 4 0 a.i),(5,.ptr hh.length 5 0 0),(4,.p (.int .i64 i)),(3,.sl id 5 0 i),(0,.p (smL l))]) (fun a=>a.h) (PshF true 4 (s.args.map Ex.cs) hb) (fun a=>s.args.length-a.i) _ hini ?_ ?_
   ·refine ij (by simp) ?_
    simp[below,hsl]
    omega
   rintro⟨j,id2,h'⟩ hJ
   have hjb:h'[hh.length]?=some (.row 5 [[.p (.int .i64 s.op),.p (.str s.name),.p (exL s.args),.p (smL s.body),.p (smL s.els)]]):=by
    rw[hJ.2.2.2.1 _ (by omega)];exact hbx
   have hlb:hh.length+1≤h'.length:=by have:=hJ.2.2.1;simp only at this;omega
   simp-implicitDefEqProofs[hjb,hxl]
   refine bh (fun h2=>?_) (fun h2=>?_)
   ·simp at h2
    have hga:=List.getElem?_eq_getElem h2
    have hma:=az (List.getElem_mem h2)
    have hC:=Hl G _ s.args[j] (Nat.le_refl _) (by omega)
    have hka:=s.args[j].cs_eq
    have hDa:(s.args.map Ex.cs)[j]?=some s.args[j].cs:=by rw[List.getElem?_map,hga];rfl
    generalize s.args[j]=e at hga hma hC hka hDa
    have hA:=AC.mkLift CX hC (h:=h') (by rw[hka];simp)
    rw[hka] at hA
    simp-implicitDefEqProofs[hjb,hga,hka,hxl]
    refine hA.mono ?_
    rintro r h2 ⟨vs,I2,os,rfl,e2,ho,nd,hf⟩
    rw[←hka] at ho
    obtain⟨rows,k1,k2,k3,k4,k5⟩:=hJ.step hDa (h2:=h2) (by rw[e2];simp) (fun x hx=>by rw[e2,List.getElem?_append_left hx]) ho nd hf e.cs_len
    obtain⟨K,rfl,hK⟩:=GV ho
    have hwj:=w1 (i:=j) (by omega)
    have hl2:h'.length≤h2.length:=by rw[e2];simp
    rcases nZ hK with⟨q1,rfl⟩|rfl|⟨x1,x2,x3,rfl⟩
    ·have k6:=k5 [.row 4 [[.p (.int .i64 e.op),.p (.int .i64 e.n),.p (.str e.name),.p q1]]] []
     simp-implicitDefEqProofs[ab,k1,k2]
     rw[List.take_of_length_le (l:=rows) (i:=j) (by omega)]
     refine⟨⟨by omega,by omega⟩,_,k6,by simp only;omega,ij (by simp) ?_⟩
     simp[below,hsl,hwj]
     omega
    ·have k6:=k5 [.row 4 [[.p (.int .i64 e.op),.p (.int .i64 e.n),.p (.str e.name),.nils]]] []
     simp-implicitDefEqProofs[ab,k1,k2]
     rw[List.take_of_length_le (l:=rows) (i:=j) (by omega)]
     refine⟨⟨by omega,by omega⟩,_,k6,by simp only;omega,ij (by simp) ?_⟩
     simp[below,hsl,hwj]
     omega
    ·have k6:=k5 [.row 4 [[.p (.int .i64 e.op),.p (.int .i64 e.n),.p (.str e.name),.sl x1 x2 0 x3]]] []
     simp-implicitDefEqProofs[ab,k1,k2]
     rw[List.take_of_length_le (l:=rows) (i:=j) (by omega)]
     refine⟨⟨by omega,by omega⟩,_,k6,by simp only;omega,ij (by simp) ?_⟩
     simp[below,hsl,hwj]
     omega
   ·simp at h2
    have hjl:j=s.args.length:=by have:=hJ.1;simp at this;omega
    obtain⟨d1,d2,IA,oA,nA,fA⟩:=hJ.done (by simpa using h2)
    subst hjl
    have hB:=ih s.body (by omega) (by omega)
    have hE:=ih s.els (by omega) (by omega)
    simp-implicitDefEqProofs[hjb]
    refine(AC.mkLift yD hB (h:=h') (by simp)).mono ?_
    rintro r h3 ⟨vB,IB,o1,rfl,e3,oB,nB,fB⟩
    obtain⟨B,rfl⟩:=pV oB
    have hjb3:h3[hh.length]?=some (.row 5 [[.p (.int .i64 s.op),.p (.str s.name),.p (exL s.args),.p (smL s.body),.p (smL s.els)]]):=by
     rw[e3,List.getElem?_append_left (by omega)];exact hjb
    simp-implicitDefEqProofs[ab,kz,hjb3]
    refine(AC.mkLift yD hE (h:=h3) (by simp)).mono ?_
    rintro r h4 ⟨vE,IE,o2,rfl,e4,oE,nE,fE⟩
    obtain⟨E,rfl⟩:=pV oE
    have hjb4:h4[hh.length]?=some (.row 5 [[.p (.int .i64 s.op),.p (.str s.name),.p (exL s.args),.p (smL s.body),.p (smL s.els)]]):=by
     have:hh.length<h3.length:=(List.getElem?_eq_some_iff.1 hjb3).1
     rw[e4,List.getElem?_append_left this];exact hjb3
    have cB:=nZ oB
    have cE:=nZ oE
    obtain⟨a1,a2,a3⟩:=Aq oA nA fA (by rw[←e3];exact oB) nB fB d1
    rw[←e3] at a1
    obtain⟨b1,b2,b3⟩:=Aq a1 a2 a3 (by rw[←e4];exact oE) nE fE (by rw[e3];simp;omega)
    rw[←e4] at b1
    have hS:=Jn (s:=s) b1
    obtain⟨rows,k1,k2,k3,k4,k5⟩:=hI.step hD (h2:=h4) (by rw[e4,e3];simp;omega) (fun x hx=>by
     rw[e4,List.getElem?_append_left (by rw[e3];simp;omega),e3,List.getElem?_append_left (by omega),d2 x (by omega),ehb,List.getElem?_append_left hx]) hS b2 (fun x hx=>by have:=b3 x hx;omega) s.cs_len
    have k6:=k5 [.row 5 [[.p (.int .i64 s.op),.p (.str s.name),.sl id2 4 0 s.args.length,B,E]]] []
    have hwi:=w1 (i:=i) (by omega)
    rcases cB with⟨q1,rfl⟩|rfl|⟨x1,x2,x3,rfl⟩<;>rcases cE with⟨q2,rfl⟩|rfl|⟨y1,y2,y3,rfl⟩<;>
    ·simp-implicitDefEqProofs[ab,kz,hjb4,k1,k2]
     rw[List.take_of_length_le (l:=rows) (i:=i) (by omega)]
     refine⟨⟨by omega,by omega⟩,_,k6,by simp only;omega,ij (by simp) ?_⟩
     simp[below,hsl,hwi]
  ·simp at h1
   obtain⟨_,_,I,ho,nd,_⟩:=hI.done (by simpa using h1)
   have hie:i=l.length:=by have:=hI.1;simp at this;omega
   subst hie
   simp-implicitDefEqProofs[]
   exact⟨_,I,rfl,ho,nd⟩
end Go.Proofs.YtaopbokndkdieaaGreatDoor
namespace Go.Proofs.YtaopbokndkdieaaGreatDoor
open Go Go.Aw
set_option maxRecDepth 100000
set_option maxHeartbeats 4000000
variable (G:aI)
theorem Ew(l:List Fd)(hz:bn l≤1073741824)(hne:l≠[]):AC Tryz.prog G kJ [.agg [.p (fdL l)]] [] fun x h=>x= .ret (.agg [.sl 3 3 0 l.length])∧h=[.row 1 [[.p (fdL l)]],.row 1 [[.sl 3 3 0 l.length]],.row 1 [[.sl 3 3 0 l.length]],.row 3 (bR l)]:=by
 have hll:=bL l
 have hfl:∀l,fdL l= .lst 3 (l.map Fd.cs):=fun _=>rfl
 refine AC.go wg ?_
 simp-implicitDefEqProofs[pw]
 refine aF (fun i:Nat=>aj 35 [(1,.ptr 0 1 0 0),(2,.ptr 1 1 0 0),(3,.ptr 2 1 0 0),(4,.p (.int .i64 i))]) (fun i=>[.row 1 [[.p (fdL l)]],.row 1 [[.nils]],.row 1 [[slE 3 3 (bR (l.take i))]],dY 3 (bR (l.take i))]) (fun i=>i≤l.length) (fun i=>l.length-i) 0 (by simp) ?_ ?_
 ·have e1:slE 3 3 (bR (l.take 0))= .nils:=rfl
  have e2:dY 3 (bR (l.take 0))= .dead:=rfl
  rw[e1,e2]
  exact iw (h:=[AO.row 1 [[.p (fdL l)]],.row 1 [[.nils]],.row 1 [[.nils]]]) (by simp) (by simp) (by simp[okO,below]) (by simp[below])
 intro i hi
 simp-implicitDefEqProofs[hfl]
 refine bh (fun h=>?_) (fun h=>?_)
 ·simp at h
  have hg:=List.getElem?_eq_getElem h
  have hT:l.take (i+1)=l.take i++[l[i]]:=ah h
  have hmem:=bS (List.getElem_mem h)
  have hol:(l.take i).length=i:=by rw[List.length_take];omega
  generalize l[i]=f at hg hT hmem
  have hrl:(bR (l.take i)).length=i:=by rw[rh];exact hol
  have hcs:f.cs=[.str f.name,aN f.params,smL f.body]:=rfl
  have hsp:aN f.params= .lst 1 (f.params.map fun w=>[.str w]):=rfl
  have hfz:f.sz=1+f.name.length+(f.params.length+(f.params.map List.length).sum)+aD f.body:=rfl
  have hB:VF Tryz.prog G dI [.p (smL f.body)] (.p (smL f.body)):=AC.mkFreeze yD (Du G _ f.body (Nat.lt_succ_self _) (by omega))
  generalize l.take i=out at hT hol hrl⊢
  simp-implicitDefEqProofs[hg,hcs,hsp]
  have hpl:f.params.length≤1073741824:=by omega
  refine⟨⟨by omega,by omega⟩,?_⟩
  refine hB.use ?_
  simp-implicitDefEqProofs[hrl]
  refine⟨⟨by omega,by omega⟩,i+1,by omega,by omega,?_⟩
  have hR:bR (out++[f])=bR out++[[.p (.str f.name),.p (aN f.params),.p (smL f.body)]]:=by rw[FT];rfl
  have hR1:slE 3 3 (bR (out++[f]))= .sl 3 3 0 (i+1):=by rw[hR,qu _ (by simp),hrl];rfl
  have hR2:dY 3 (bR (out++[f]))= .row 3 (bR (out++[f])):=by rw[hR,nF _ (by simp)]
  rw[hT,hR1,hR2]
  refine Wk.trans (cr (l1:=[(1,.ptr 0 1 0 0),(2,.ptr 1 1 0 0),(3,.ptr 2 1 0 0),(4,.p (.int .i64 ((i+1:Nat):Int)))]) (h1:=[.row 1 [[.p (fdL l)]],.row 1 [[.nils]],.row 1 [[.sl 3 3 0 (i+1)]],.row 3 (bR out++[[.p (.str f.name),.sl 4 1 0 f.params.length,.p (smL f.body)]]),xQ f.params]) [0,1,2,8,6] (by simp) (by decide) (by decide)
   (aE rfl (by simp[below]) (aE rfl (by simp[below]) (lZ (es:=[[.sl 3 3 0 (i+1)]]) (by simp[below]) (by simp[ren,cd]) ?_))) (by simp[below,ren,hfl,w1 (i:=i) (by omega)])) (ja 4 (by omega) (by simp) rfl (.same (by simp[okO,below]) (.same (by simp[okO,below]) (.same (by simp[okO,below]) (.rows ?_ ?_ (.nil _))))) ?_)
  ·refine lZ (fun x hx=>?_) ?_ (aE rfl (fun x hx=>?_) bj)
   ·rcases List.mem_append.1 hx with hx|hx
    ·exact aT (Nat.zero_le _) _ (gL out x hx)
    ·rw[List.mem_singleton.1 hx];simp[below]
   ·rw[List.map_append,List.map_congr_left (g:=id) (fun x hx=>fN _ x (gL out x hx)),List.map_id]
    simp[ren,cd]
   ·obtain⟨w,_,rfl⟩:=List.mem_map.1 hx
    simp[below]
  ·rw[hR];simp
  ·rw[hR]
   intro j e e1 he he1
   by_cases hj:j<(bR out).length
   ·rw[List.getElem?_append_left hj] at he he1
    rw[he] at he1
    cases he1
    have:=gL out e (List.mem_of_getElem? he)
    exact uR (aT (Nat.zero_le _) _ this)
   ·have hj2:j=(bR out).length:=by
     have:=(List.getElem?_eq_some_iff.1 he).1
     simp at this;omega
    subst hj2
    simp at he he1
    subst he;subst he1
    refine .keep (by simp[below]) (.one ?_ (.keep (by simp[below]) .nil))
    exact kY rfl
  ·exact⟨.keep (by simp[below]) .nil,.keep (by simp[below]) .nil,.keep (by simp[below]) .nil,.keep (by simp[below]) .nil,trivial⟩
 ·simp at h
  have hie:i=l.length:=by omega
  subst hie
  rw[List.take_length]
  have h0:bR l≠[]:=by
   intro e;apply hne
   have:=congrArg List.length e
   rw[rh] at this
   exact List.length_eq_zero_iff.1 this
  rw[eh h0,ga h0,rh]
  simp-implicitDefEqProofs[hfl]
def eaF(h:List Sm→List Sm)(f:Fd):Fd:=⟨f.name,f.params,h f.body⟩
theorem zQ(cut:Bool)(l:List Fd)(hz:bn l≤1073741824)(hne:l≠[])(hf:∀f∈l,∀x∈f.body,aq 4 x=true):VF Tryz.prog G cb [.agg [.p (fdL l)],.p (.bool cut)] (.agg [.p (fdL (if cut then gu l else co l))]):=by
 have hll:=bL l
 have hfl:∀l,fdL l= .lst 3 (l.map Fd.cs):=fun _=>rfl
 have hln:0<l.length:=by
  cases l with
  |nil=>exact(hne rfl).elim
  |cons x r=>simp
 let g:Fd→Fd:=if cut then rN else mj
 have hg0:(if cut then gu l else co l)=l.map g:=by cases cut<;>rfl
 rw[hg0]
 have key:AC Tryz.prog G cb [.agg [.p (fdL l)],.p (.bool cut)] [] fun x h=>∃v,x= .ret (.agg [v])∧View h v (fdL (l.map g)):=by
  refine AC.go wR ?_
  simp-implicitDefEqProofs[pH]
  refine(AC.lift (Ew G l hz hne) (by simp[below]) (by simp[to,rf]) ?_).mono ?_
  ·simp[CZ,rf,to]
   intro x hx
   obtain⟨f,_,rfl⟩:=List.mem_map.1 hx
   rfl
  rintro r h ⟨rfl,rfl⟩
  simp-implicitDefEqProofs[mf,ab,fY,ey]
  let L:Nat→List Fd:=fun i=>(l.take i).map g++l.drop i
  have hLl:∀i,i≤l.length→(L i).length=l.length:=fun i hi=>by simp[L];omega
  have hLg:∀i,i<l.length→(L i)[i]?=l[i]?:=fun i hi=>by
   have:((l.take i).map g).length=i:=by simp;omega
   rw[List.getElem?_append_right (by omega),this,Nat.sub_self,List.getElem?_drop,Nat.add_zero]
  have hLs:∀i f,l[i]?=some f→(L i).set i (g f)=L (i+1):=fun i f hi=>by
   have hil:=(List.getElem?_eq_some_iff.1 hi).1
   have hlen:((l.take i).map g).length=i:=by simp;omega
   show((l.take i).map g++l.drop i).set i (g f)=(l.take (i+1)).map g++l.drop (i+1)
   rw[List.set_append_right _ _ (by omega),hlen,Nat.sub_self,List.drop_eq_getElem_cons hil,List.set_cons_zero,ah hil,List.map_append,List.append_assoc]
   have:l[i]=f:=by rw[List.getElem?_eq_getElem hil] at hi;exact Option.some.inj hi
   rw[this];rfl
  have hL0:L 0=l:=by simp[L]
  have hLe:L l.length=l.map g:=by
   show(l.take l.length).map g++l.drop l.length=_
   rw[List.take_length,List.drop_length,List.append_nil]
  generalize hLL:L=L2 at hLl hLg hLs hL0 hLe
  refine aF (fun i:Nat=>aj 42 [(1,.p (.bool cut)),(4,.ptr 0 1 0 0),(5,.ptr 2 1 0 0),(6,.p (.int .i64 i))]) (fun i=>[.row 1 [[.nils]],.row 3 (bR (L2 i)),.row 1 [[.sl 1 3 0 l.length]]]) (fun i=>i≤l.length) (fun i=>l.length-i) 0 (by simp) ?_ ?_
  ·rw[hL0]
   have e:lI 2 (AO.row 3 (bR l))= .row 3 (bR l):=by
    have e2:(bR l).map (ey 2)=bR l:=by
     conv=>rhs;rw[←List.map_id (bR l)]
     refine List.map_congr_left fun x hx=>?_
     obtain⟨f,_,rfl⟩:=List.mem_map.1 hx
     rfl
    show AO.row 3 ((bR l).map (ey 2))=_
    rw[e2]
   rw[e]
   exact dm [1,5,6] rfl (by decide) (aE rfl (by simp[below]) (aE rfl (gL l) (lZ (es:=[[.sl 1 3 0 l.length]]) (by simp[below]) (by simp[ren,cd]) bj))) (by simp[below,ren])
  intro i hi
  have hfl2:=rh (L2 i)
  rw[hLl i hi] at hfl2
  simp-implicitDefEqProofs[hfl2]
  refine bh (fun h=>?_) (fun h=>?_)
  ·simp at h
   have hg:=List.getElem?_eq_getElem h
   have hm:=List.getElem_mem h
   have hgi:(bR (L2 i))[i]?=some [.p (.str l[i].name),.p (aN l[i].params),.p (smL l[i].body)]:=by
    rw[bR,List.getElem?_map,hLg i h,hg];rfl
   have hst:=hLs i l[i] hg
   have hfz:=bS hm
   have hfb:=hf l[i] hm
   generalize l[i]=f at hg hm hgi hst hfz hfb
   have hfz2:f.sz=1+f.name.length+(f.params.length+(f.params.map List.length).sum)+aD f.body:=rfl
   cases cut with
   |true=>
    simp-implicitDefEqProofs[hfl2,hgi]
    refine⟨h,?_⟩
    refine(Fe G 4 f.body hfb (by omega)).use ?_
    have hst2:(bR (L2 i)).set i [.p (.str f.name),.p (aN f.params),.p (smL (aA f.body))]=bR (L2 (i+1)):=by
     rw[←hst,bR,bR,List.map_set];rfl
    simp-implicitDefEqProofs[hfl2,hgi,hst2]
    refine⟨h,i+1,by omega,by omega,aa (by simp) (ag (by simp[okO,below]) (ag (bK (gL _)) (ag (by simp[okO,below]) dR))) (by simp[below,w1 (i:=i) (by omega)])⟩
   |false=>
    simp-implicitDefEqProofs[hfl2,hgi]
    refine⟨h,?_⟩
    refine(DH G 4 f.body hfb (by omega)).use ?_
    have hst2:(bR (L2 i)).set i [.p (.str f.name),.p (aN f.params),.p (smL (ay f.body))]=bR (L2 (i+1)):=by
     rw[←hst,bR,bR,List.map_set];rfl
    simp-implicitDefEqProofs[hfl2,hgi,hst2]
    refine⟨h,i+1,by omega,by omega,aa (by simp) (ag (by simp[okO,below]) (ag (bK (gL _)) (ag (by simp[okO,below]) dR))) (by simp[below,w1 (i:=i) (by omega)])⟩
  ·simp at h
   have hie:i=l.length:=by omega
   subst hie
   simp-implicitDefEqProofs[]
   rw[hLe]
   have hl2:(l.map g).length=l.length:=List.length_map _
   rw[←hl2]
   exact DB rfl
 refine key.freezeR (fun t v h ⟨_,e,_⟩=>by cases e) fun v h ⟨u,e1,e2⟩=>?_
 cases e1
 exact .agg (.one e2 .nil) .nil
end Go.Proofs.YtaopbokndkdieaaGreatDoor
namespace Go.Proofs.YtaopbokndkdieaaGreatDoor
open Go Go.Aw
set_option maxRecDepth 100000
set_option maxHeartbeats 4000000
theorem gN{l:List Fd}(h:aX l=0):l≠[]∧∀f∈l,∀x∈f.body,aq 4 x=true:=by
 have hp:=((Il l).1 h).1
 obtain⟨h1,h2,h3⟩:=(jI l).1 hp
 refine⟨?_,fun f hf x hx=>?_⟩
 ·rintro rfl;simp at h1
 ·have:=h2 f hf
  simp only[gx,Bool.and_eq_true,List.all_eq_true] at this
  exact this.2 x hx
variable (G:aI)
theorem CC{l:List Fd}(hz:bn l≤1073741824)(h:aX l=0):VF Tryz.prog G cb [.agg [.p (fdL l)],.p (.bool false)] (.agg [.p (fdL (co l))]):=zQ G false l hz (gN h).1 (gN h).2
theorem CP{l:List Fd}(hz:bn l≤1073741824)(h:aX l=0):VF Tryz.prog G cb [.agg [.p (fdL l)],.p (.bool true)] (.agg [.p (fdL (gu l))]):=zQ G true l hz (gN h).1 (gN h).2
theorem sk(l y:List Fd)(hz:bn l≤1073741824)(h0:aX l=0)(hy:Smp l y):VF Tryz.prog G bW [.agg [.p (fdL l)]] (.tup [.agg [.p (fdL y)],.p (.bool true)]):=by
 refine AC.go gA ?_
 simp-implicitDefEqProofs[ep]
 refine(zI G l hz).use ?_
 simp-implicitDefEqProofs[h0]
 refine(CC G hz h0).use ?_
 simp-implicitDefEqProofs[]
 refine(CP G (l:=co l) (Nat.le_trans (ju l) hz) (jd h0)).use ?_
 simp-implicitDefEqProofs[]
 refine aF (fun _:List Fd=>aj 21 [(1,.ptr 0 1 0 0),(2,.ptr 1 1 0 0),(4,.ptr 2 1 0 0)]) (fun q=>[.row 1 [[.p (fdL q)]],.row 1 [[.nils]],.row 1 [[.p (fdL (gu (co q)))]]])
  (fun q=>Smp q y∧aX q=0∧bn q≤1073741824) wP l ⟨hy,h0,hz⟩ ?_ ?_
 ·exact aa (by simp) (by simp[okO,below]) (by simp[below])
 rintro q ⟨hs,hc,hq⟩
 have z1:=Nat.le_trans (ju q) hq
 have z2:=Nat.le_trans (rI (co q)) z1
 simp-implicitDefEqProofs[]
 refine(mY G (gu (co q)) q z2 hq).use ?_
 by_cases he:gu (co q)=q
 ·simp-implicitDefEqProofs[cP he]
  cases hs with
  |stop _=>rw[he]
  |go h _=>exact(h he).elim
 ·have hn:aX (gu (co q))=0:=qO hc
  simp-implicitDefEqProofs[aV he]
  refine(CC G z2 hn).use ?_
  simp-implicitDefEqProofs[]
  refine(CP G (Nat.le_trans (ju _) z2) (jd hn)).use ?_
  simp-implicitDefEqProofs[]
  refine⟨gu (co q),⟨?_,hn,z2⟩,?_,?_⟩
  ·cases hs with
   |stop h=>exact(he h).elim
   |go _ h=>exact h
  ·rcases mH q with h|h
   ·exact(he h).elim
   ·exact h
  ·exact aa (by simp) (by simp[okO,below]) (by simp[below])
theorem Gd{l y:List Fd}(h:Smp l y):bn y≤bn l:=by
 induction h with
 |stop _=>exact Nat.le_refl _
 |go _ _ ih=>exact Nat.le_trans ih (Nat.le_trans (rI _) (ju _))
theorem qz(l:List Fd)(hz:bn l≤1073741824)(h0:¬aX l=0):VF Tryz.prog G bW [.agg [.p (fdL l)]] (.tup [.agg [.p (fdL [])],.p (.bool false)]):=by
 have key:AC Tryz.prog G bW [.agg [.p (fdL l)]] [] fun x h=>x= .ret (.tup [.agg [.nils],.p (.bool false)]):=by
  refine AC.go gA ?_
  simp-implicitDefEqProofs[ep]
  refine(zI G l hz).use ?_
  simp-implicitDefEqProofs[h0]
 refine key.freezeR (fun t v h e=>by cases e) fun v h e=>?_
 cases e
 exact .tup (.agg (.one (.nils 3) .nil) (.keep (by simp) .nil)) .nil
theorem Cd(l:List Fd)(hz:bn l≤1073741824):VF Tryz.prog G iF [.agg [.p (fdL l)]] (.p (.bool (pg l))):=by
 refine AC.go tA ?_
 simp-implicitDefEqProofs[md]
 by_cases h0:aX l=0
 ·obtain⟨y,hy⟩:=Cm (wP l) l (Nat.le_refl _)
  have hyz:bn y≤1073741824:=Nat.le_trans (Gd hy) hz
  refine(sk G l y hz h0 hy).use ?_
  simp-implicitDefEqProofs[]
  refine(mY G y l hyz hz).use ?_
  have e:pg l=eqX y l:=by
   rw[pg,decide_eq_true h0,Bool.true_and]
   by_cases h:y=l
   ·rw[cP h,cP ((tM hy).1 h)]
   ·rw[aV h,aV (fun e=>h ((tM hy).2 e))]
  rw[e]
  simp-implicitDefEqProofs[]
 ·refine(qz G l hz h0).use ?_
  have e:pg l=false:=by rw[pg,decide_eq_false h0,Bool.false_and]
  rw[e]
  simp-implicitDefEqProofs[]
end Go.Proofs.YtaopbokndkdieaaGreatDoor
namespace Go.Proofs.YtaopbokndkdieaaGreatDoor
open Go Go.Aw
set_option maxRecDepth 100000
set_option maxHeartbeats 4000000
variable (G:aI)
theorem rp:∀(N:Nat) (e:Ex),e.sz≤N→e.sz≤1073741824→VF Tryz.prog G bk [.agg (e.cs.map .p)] (.agg (e.cs.map .p)):=by
 intro N
 induction N with
 |zero=>intro e h;have:=e.sz_eq;omega
 |succ N ih=>
  intro e he hz
  have hc:=e.cs_eq
  have hzz:=e.sz_eq
  have hlen:=aM e.kids
  refine AC.go sv ?_
  simp-implicitDefEqProofs[kN,hc]
  have HM:=lz G (vq bk [.row 4 [[.p (.int .i64 e.op),.p (.int .i64 e.n),.p (.str e.name),.p (exL e.kids)]],.row 4 [[.p (.int .i64 0),.p (.int .i64 0),.p (.str []),.nils]]] (by simp[okO,below])) (fun(st:Unit) x=>(x,st)) (fun _ _=>True) e.kids (by omega) (by show 0<2;omega)
   (fun i st hi _=>⟨trivial,by
     have h2:=az (List.getElem_mem hi)
     exact(ih e.kids[i] (by omega) (by omega)).ac (by simp[below]) (by simp[below]) _⟩) () trivial
  rw[show(fun(st:Unit) (x:Ex)=>(x,st))=(fun(st:Unit) x=>(id x,st)) from rfl,cT,List.map_id] at HM
  refine HM.mono ?_
  rintro r h ⟨rfl,rfl⟩
  simp-implicitDefEqProofs[ab,vq]
def cH(l:List Fd)(B:AV):List AO:=[.row 1 [[.p (fdL l)]],.row 1 [[B]],.row 1 [[.nils]],.row 1 [[.fn (.func aB) [.ptr 1 1 0 0,.ptr 3 1 0 0]]]]
theorem EY(l:List Fd){B:AV}(hB:below 0 B){m:Nat}(hm:4≤m):∀o∈cH l B,okO m o:=by
 have hb:=aT (Nat.zero_le m) [B] ⟨hB,trivial⟩
 refine ag (by simp[okO,below]) (ag (by intro e he;rw[List.mem_singleton.1 he];exact hb) (ag (by simp[okO,below]) (ag ?_ dR)))
 intro e he
 rw[List.mem_singleton.1 he]
 simp only[af,below]
 exact⟨⟨by omega,by omega,trivial⟩,trivial⟩
def Ed(l:List Fd)(B:AV)(hB:below 0 B)(F:FuncId)(caps:List AV)(hc:af 4 caps):Vis Unit where
 I:=fun _=>cH l B
 n:=4
 F:=F
 caps:=caps
 len:=fun _=>rfl
 ok:=fun _=>EY l hB (Nat.le_refl _)
 capsOk:=hc
def mm(l0:List Fd)(B:AV)(H:List Sm→List Sm)(l:List Sm):Prop:=AC Tryz.prog G aB [.p (smL l),.ptr 1 1 0 0,.ptr 3 1 0 0] (cH l0 B) fun x h=>x= .ret (.p (smL (H l)))∧h=cH l0 B
theorem sR(l0:List Fd){B:AV}(hB:below 0 B)(H:List Sm→List Sm)(s:Sm)(hz:s.sz≤1073741824)(hb:mm G l0 B H s.body)(he:mm G l0 B H s.els):
 AC Tryz.prog G bz [.agg (s.cs.map .p),.ptr 3 1 0 0] (cH l0 B) fun x h=>x= .ret (.agg ((inS H s).cs.map .p))∧h=cH l0 B:=by
 have hcs:=s.cs_eq
 have hzz:=s.sz_eq
 have hlen:=aM s.args
 have hic:(inS H s).cs=[.int .i64 s.op,.str s.name,exL s.args,smL (H s.body),smL (H s.els)]:=by rw[Sm.cs_eq];rfl
 let V:=Ed l0 B hB aB [] trivial
 refine V.trim G (st:=()) (st':=()) (AC.go qh ?_) (by rw[hic];simp[below])
 have hI:V.I ()=cH l0 B:=rfl
 have hl4:(cH l0 B).length=4:=rfl
 have hg3:∀r:List AO,(cH l0 B++r)[3]?=some (.row 1 [[.fn (.func aB) [.ptr 1 1 0 0,.ptr 3 1 0 0]]]):=fun r=>rfl
 have hg30:∀h:3<(cH l0 B).length,(cH l0 B)[3]= .row 1 [[.fn (.func aB) [.ptr 1 1 0 0,.ptr 3 1 0 0]]]:=fun _=>rfl
 have hVp:∀(l:List Sm),mm G l0 B H l→∀rest,AC Tryz.prog G aB [.p (smL l),.ptr 1 1 0 0,.ptr 3 1 0 0] (cH l0 B++rest) fun x h=>x= .ret (.p (smL (H l)))∧h=cH l0 B++rest:=fun l w rest=>
  V.pre G (st:=()) (st':=()) w rest ⟨by simp[below],by simp only[below];show 1<4;omega,by simp only[below];show 3<4;omega,trivial⟩
 have hCl:∀rest,(∀o∈rest,okO 0 o)→AC Tryz.prog G aG [.p (exL s.args),.fn (.func bk) []] (cH l0 B++rest) fun x h=>x= .ret (.p (exL s.args))∧h=cH l0 B++rest:=by
  intro rest hr
  have hok:∀o∈cH l0 B++rest,okO (cH l0 B++rest).length o:=by
   intro o ho
   rcases List.mem_append.1 ho with h|h
   ·exact EY l0 hB (by rw[List.length_append,hl4];omega) o h
   ·exact bK (hr o h)
  have HM:=lz G (vq bk (cH l0 B++rest) hok) (fun(st:Unit) x=>(id x,st)) (fun _ _=>True) s.args (by omega) (by show 0<(cH l0 B++rest).length;rw[List.length_append,hl4];omega)
   (fun i st hi _=>⟨trivial,by
     have h2:=az (List.getElem_mem hi)
     exact(rp G _ s.args[i] (Nat.le_refl _) (by omega)).ac (by simp[below]) (by simp[below]) _⟩) () trivial
  rw[cT,List.map_id] at HM
  exact HM
 rw[hI]
 generalize hh:cH l0 B=C at*
 rw[hic]
 simp-implicitDefEqProofs[jS,hcs,hl4,hg30]
 refine(hCl _ (by simp[okO])).mono ?_
 rintro r h ⟨rfl,rfl⟩
 simp-implicitDefEqProofs[ab,hl4,hg30]
 refine(hVp _ hb _).mono ?_
 rintro r h ⟨rfl,rfl⟩
 simp-implicitDefEqProofs[ab,hl4,hg30]
 refine(hVp _ he _).mono ?_
 rintro r h ⟨rfl,rfl⟩
 simp-implicitDefEqProofs[ab,hl4,hg30]
def CB:AV:= .fn (.func be) []
theorem sI(l0:List Fd)(l:List Sm)(hf:∀x∈l,x.args≠[])(hz:aD l≤1073741824)(ih:∀x∈l,mm G l0 CB aA x.body∧mm G l0 CB aA x.els):mm G l0 CB aA l:=by
 have hll:=aR l
 have hB:below 0 CB:=by simp[CB,below]
 let V:=Ed l0 CB hB bz [.ptr 3 1 0 0] (by simp[below])
 refine V.trim G (st:=()) (st':=()) (AC.go lB ?_) (by simp[below])
 have hI:V.I ()=cH l0 CB:=rfl
 have hl4:(cH l0 CB).length=4:=rfl
 have hg1:(cH l0 CB)[1]?=some (.row 1 [[CB]]):=rfl
 have HM:=rR G V (fun(st:Unit) x=>(inS aA x,st)) (fun _ _=>True) l (by omega) (by show 0<4;omega)
  (fun i st hi _=>⟨trivial,by
    have hm:=List.getElem_mem hi
    have h2:=aL hm
    exact sR G l0 hB aA l[i] (by omega) (ih _ hm).1 (ih _ hm).2⟩) () trivial
 rw[cT] at HM
 have HB:=BS G (o0:= .row 1 [[.p (fdL l0)]]) (by simp[okO,below]) (l.map (inS aA)) (fun x hx=>by
  obtain⟨y,hy,rfl⟩:=List.mem_map.1 hx
  exact hf y hy) (by rw[List.length_map];omega)
 rw[CK] at HB
 have HB2:=(AC.pre HB [.row 1 [[CB]],.row 1 [[.nils]],.row 1 [[.fn (.func aB) [.ptr 1 1 0 0,.ptr 3 1 0 0]]]] (by simp[below]) (by simp[okO,below]) (by rintro x h ⟨_,rfl⟩;rfl))
 rw[hI]
 have HM2:AC Tryz.prog G an [.p (smL l),.fn (.func bz) [.ptr 3 1 0 0]] (cH l0 CB) fun x h=>x= .ret (.p (smL (l.map (inS aA))))∧h=cH l0 CB:=HM
 have HB3:AC Tryz.prog G be [.p (smL (l.map (inS aA)))] (cH l0 CB) fun x h=>x= .ret (.p (smL (aA l)))∧h=cH l0 CB:=by
  refine HB2.mono ?_
  rintro x h ⟨h1,⟨rfl,rfl⟩,rfl⟩
  exact⟨rfl,rfl⟩
 have hg10:∀h:1<(cH l0 CB).length,(cH l0 CB)[1]= .row 1 [[.fn (.func be) []]]:=fun _=>rfl
 generalize hh:cH l0 CB=C at*
 simp-implicitDefEqProofs[gJ,hl4,hg10]
 refine HM2.mono ?_
 rintro r h ⟨rfl,rfl⟩
 simp-implicitDefEqProofs[ab,hl4,hg10]
 refine HB3.mono ?_
 rintro r h ⟨rfl,rfl⟩
 simp-implicitDefEqProofs[ab,hl4]
 trace_state
theorem Dk(l0:List Fd):∀(d:Nat) (l:List Sm),(∀x∈l,aq d x=true)→aD l≤1073741824→mm G l0 CB aA l:=by
 intro d
 induction d with
 |zero=>
  intro l hf hz
  exact sI G l0 l (fun x hx=>by have:=hf x hx;cases this) hz (fun x hx=>by have:=hf x hx;cases this)
 |succ d ih=>
  intro l hf hz
  refine sI G l0 l (fun x hx=>Az (hf x hx)) hz (fun x hx=>?_)
  have h1:=aL hx
  have h2:=x.sz_eq
  exact⟨ih x.body (lO (hf x hx)) (by omega),ih x.els (ou (hf x hx)) (by omega)⟩
theorem ze(l:List (List UInt8))(hl:l.length≤1073741824):VF Tryz.prog G bX [.p (aN l)] (.p (aN l)):=by
 have hsl:aN l= .lst 1 (l.map fun w=>[.str w]):=rfl
 have key:AC Tryz.prog G bX [.p (aN l)] [] fun x h=>∃v,x= .ret v∧View h v (aN l):=by
  refine AC.go mt ?_
  simp-implicitDefEqProofs[gF,hsl]
  cases l with
  |nil=>
   simp[Ce]
   exact⟨.nils 1,kY (l:=[]) rfl⟩
  |cons w r=>
   simp only[List.length_cons] at hl
   simp[Ce]
   exact⟨⟨by omega,by omega⟩,kY (l:=w::r) rfl⟩
 refine key.freezeR (fun t v h ⟨_,e,_⟩=>by cases e) fun v h ⟨u,e1,e2⟩=>?_
 cases e1
 exact .one e2 .nil
theorem tZ(l0:List Fd){B:AV}(hB:below 0 B)(H:List Sm→List Sm)(f:Fd)(hz:f.sz≤1073741824)(hb:mm G l0 B H f.body):
 AC Tryz.prog G bZ [.agg (f.cs.map .p),.ptr 3 1 0 0] (cH l0 B) fun x h=>x= .ret (.agg ((eaF H f).cs.map .p))∧h=cH l0 B:=by
 have hcs:f.cs=[.str f.name,aN f.params,smL f.body]:=rfl
 have hic:(eaF H f).cs=[.str f.name,aN f.params,smL (H f.body)]:=rfl
 have hfz:f.sz=1+f.name.length+(f.params.length+(f.params.map List.length).sum)+aD f.body:=rfl
 let V:=Ed l0 B hB aB [] trivial
 refine V.trim G (st:=()) (st':=()) (AC.go rZ ?_) (by rw[hic];simp[below])
 have hI:V.I ()=cH l0 B:=rfl
 have hl4:(cH l0 B).length=4:=rfl
 have hg30:∀h:3<(cH l0 B).length,(cH l0 B)[3]= .row 1 [[.fn (.func aB) [.ptr 1 1 0 0,.ptr 3 1 0 0]]]:=fun _=>rfl
 have hVp:∀rest,AC Tryz.prog G aB [.p (smL f.body),.ptr 1 1 0 0,.ptr 3 1 0 0] (cH l0 B++rest) fun x h=>x= .ret (.p (smL (H f.body)))∧h=cH l0 B++rest:=fun rest=>
  V.pre G (st:=()) (st':=()) hb rest ⟨by simp[below],by simp only[below];show 1<4;omega,by simp only[below];show 3<4;omega,trivial⟩
 rw[hI]
 generalize hh:cH l0 B=C at*
 rw[hic]
 simp-implicitDefEqProofs[lA,hcs,hl4,hg30]
 refine(ze G f.params (by omega)).use ?_
 simp-implicitDefEqProofs[hl4,hg30]
 refine(hVp _).mono ?_
 rintro r h ⟨rfl,rfl⟩
 simp-implicitDefEqProofs[ab,hl4,hg30]
theorem xC(l:List Fd)(hz:bn l≤1073741824)(hf:∀f∈l,∀x∈f.body,aq 4 x=true):VF Tryz.prog G bI [.agg [.p (fdL l)],CB] (.agg [.p (fdL (gu l))]):=by
 have hll:=bL l
 have hB:below 0 CB:=by simp[CB,below]
 let V:=Ed l CB hB bZ [.ptr 3 1 0 0] (by simp[below])
 have HM:=yC G V (fun(st:Unit) x=>(eaF aA x,st)) (fun _ _=>True) l (by omega) (by show 0<4;omega)
  (fun i st hi _=>⟨trivial,by
    have hm:=List.getElem_mem hi
    have h2:=bS hm
    have h3:l[i].sz=1+l[i].name.length+(l[i].params.length+(l[i].params.map List.length).sum)+aD l[i].body:=rfl
    exact tZ G l hB aA l[i] (by omega) (Dk G l 4 _ (hf _ hm) (by omega))⟩) () trivial
 rw[cT] at HM
 have HM2:AC Tryz.prog G aZ [.p (fdL l),.fn (.func bZ) [.ptr 3 1 0 0]] [.row 1 [[.p (fdL l)]],.row 1 [[.fn (.func be) []]],.row 1 [[.nils]],.row 1 [[.fn (.func aB) [.ptr 1 1 0 0,.ptr 3 1 0 0]]]] fun x h=>x= .ret (.p (fdL (gu l)))∧h=[.row 1 [[.p (fdL l)]],.row 1 [[.fn (.func be) []]],.row 1 [[.nils]],.row 1 [[.fn (.func aB) [.ptr 1 1 0 0,.ptr 3 1 0 0]]]]:=HM
 show VF Tryz.prog G bI [.agg [.p (fdL l)],.fn (.func be) []] (.agg [.p (fdL (gu l))])
 refine AC.go nw ?_
 simp-implicitDefEqProofs[jz]
 refine HM2.mono ?_
 rintro r h ⟨rfl,rfl⟩
 simp-implicitDefEqProofs[ab]
end Go.Proofs.YtaopbokndkdieaaGreatDoor
namespace Go.Proofs.YtaopbokndkdieaaGreatDoor
open Go Go.Aw
set_option maxRecDepth 100000
set_option maxHeartbeats 4000000
variable (G:aI)
theorem Ba{σ:Type}(V:Vis σ)(g:σ→Sm→Sm × σ)(inv:Nat→σ→Prop)(l:List Sm)(hb:l.length≤1073741824)(hn:0<V.n)
 (hv:∀(i:Nat) st (h:i<l.length),inv i st→inv (i+1) (g st l[i]).2∧AC Tryz.prog G V.F (.agg (l[i].cs.map .p)::V.caps) (V.I st) fun x h'=>x= .ret (.agg ((g st l[i]).1.cs.map .p))∧h'=V.I (g st l[i]).2)(st:σ)(h0:inv 0 st):
 AC Tryz.prog G an [.p (smL l),.fn (.func V.F) V.caps] (V.I st) fun x h=>x= .ret (slE V.n 5 (smR (bf g st l).1))∧h=V.I (bf g st l).2++[dY 5 (smR (bf g st l).1)]:=by
 have hxl:∀l,smL l= .lst 5 (l.map Sm.cs):=fun _=>rfl
 have hlen:=V.len
 have hcb:=V.capsOk
 have hinv:∀i,i≤l.length→inv i (bf g st (l.take i)).2:=fun i hi=>by
  have:=nc (g:=g) (inv:=inv) (l:=l) (st:=st) (k:=0) h0 (fun i st h hi=>by
   rw[Nat.zero_add] at hi⊢;exact(hv i st h hi).1) i hi
  rwa[Nat.zero_add] at this
 have hRp:∀l:List Sm,∀x∈smR l,af 0 x:=aO
 have hRl:∀l:List Sm,(smR l).length=l.length:=fun l=>by simp[smR]
 have hRa:∀(l:List Sm) (y:Sm),smR (l++[y])=smR l++[y.cs.map .p]:=fun l y=>by simp[smR]
 have key:AC Tryz.prog G an [.p (smL l),.fn (.func V.F) V.caps] (V.I st) fun x h=>x= .ret (slE V.n 5 (smR (bf g st l).1))∧h=V.I (bf g st l).2++[dY 5 (smR (bf g st l).1)]:=by
  refine AC.go fQ ?_
  simp-implicitDefEqProofs[dL,hxl]
  refine aF (fun i:Nat=>aj 22 [(5,slE V.n 5 (smR (bf g st (l.take i)).1)),(0,.p (smL l)),(1,.fn (.func V.F) V.caps),(8,.p (smL l)),(9,.p (.int .i64 l.length)),(10,.p (.int .i64 i))])
   (fun i=>V.I (bf g st (l.take i)).2++[dY 5 (smR (bf g st (l.take i)).1)]) (fun i=>i≤l.length) (fun i=>l.length-i) 0 (by simp) ?_ ?_
  ·have e:dY 5 (smR (bf g st (l.take 0)).1)= .dead:=rfl
   rw[e]
   exact iw (by rw[hlen];exact Nat.le_refl _) (by rw[hlen];exact hn) (by rw[hlen];exact V.ok st) (by simp[below,hxl,hcb,hlen,bf,smR,oc])
  intro i hi
  have hT:=fun h=>nO (g:=g) (l:=l) (st:=st) (i:=i) h
  have hi2:=hinv i hi
  have hml:=nG g (l.take i) st
  rw[List.length_take,Nat.min_eq_left hi] at hml
  generalize hcur:bf g st (l.take i)=cur at hT hi2 hml⊢
  obtain⟨out,s⟩:=cur
  simp only at hT hi2 hml⊢
  simp-implicitDefEqProofs[hxl]
  refine bh (fun hc=>?_) (fun hc=>?_)
  ·simp at hc
   have hg:=List.getElem?_eq_getElem hc
   have hT:=hT hc
   obtain⟨_,hA⟩:=hv i s hc hi2
   generalize l[i]=x at hg hT hA
   have hkc:=x.cs_eq
   have hyc:=(g s x).1.cs_eq
   rw[hkc] at hA
   simp-implicitDefEqProofs[hg,hkc,hlen]
   refine(V.pre G hA _ ⟨by simp[below],hcb⟩).mono ?_
   rintro r h ⟨rfl,rfl⟩
   rw[hyc]
   simp-implicitDefEqProofs[ab,hlen]
   have hol:=hRl out
   refine⟨⟨by omega,by omega⟩,i+1,hc,by omega,?_⟩
   rw[hT]
   simp only[hRa]
   rw[qu _ (by simp),nF _ (by simp),hyc]
   refine xG (mid:=[_,_,_]) (s:=[]) (hlen _) rfl (Nat.le_refl _) (V.ok _) ?_ ?_ ?_
   ·intro x hx
    rcases List.mem_append.1 hx with h|h
    ·exact hRp _ x h
    ·rw[List.mem_singleton.1 h];simp
   ·simp[below,hxl,hcb,w1 (i:=i) (by omega)]
   ·simp
  ·simp at hc
   have hie:i=l.length:=by omega
   subst hie
   rw[List.take_length] at hcur
   rw[hcur]
   simp-implicitDefEqProofs[]
 exact key
theorem Hu(l:List Sm):(l.map (inS ay)).map me=ay l:=by
 rw[fR,List.map_map]
 refine List.map_congr_left fun x _=>?_
 rw[uc];rfl
def FB:AV:= .fn (.func aP) []
theorem ra(hK:G dH=some dy)(hS:G bM=some [PV.tbl opK opV])(l0:List Fd)(l:List Sm)(hf:∀x∈l,∀a∈x.args,fI a=true)(hz:aD l≤1073741824)(hz2:aD (l.map (inS ay))≤1073741824)(ih:∀x∈l,mm G l0 FB ay x.body∧mm G l0 FB ay x.els):mm G l0 FB ay l:=by
 have hll:=aR l
 have hB:below 0 FB:=by simp[FB,below]
 let V:=Ed l0 FB hB bz [.ptr 3 1 0 0] (by simp[below])
 have hl4:(cH l0 FB).length=4:=rfl
 have HM:=Ba G V (fun(st:Unit) x=>(inS ay x,st)) (fun _ _=>True) l (by omega) (by show 0<4;omega)
  (fun i st hi _=>⟨trivial,by
    have hm:=List.getElem_mem hi
    have h2:=aL hm
    exact sR G l0 hB ay l[i] (by omega) (ih _ hm).1 (ih _ hm).2⟩) () trivial
 rw[cT] at HM
 have HM2:AC Tryz.prog G an [.p (smL l),.fn (.func bz) [.ptr 3 1 0 0]] (cH l0 FB) fun x h=>x= .ret (slE 4 5 (smR (l.map (inS ay))))∧h=cH l0 FB++[dY 5 (smR (l.map (inS ay)))]:=HM
 have key:AC Tryz.prog G aB [.p (smL l),.ptr 1 1 0 0,.ptr 3 1 0 0] (cH l0 FB) fun x h=>x= .ret (slE 4 5 (smR (ay l)))∧∃r,h=cH l0 FB++dY 5 (smR (ay l))::r:=by
  refine AC.go lB ?_
  have hg10:∀h:1<(cH l0 FB).length,(cH l0 FB)[1]= .row 1 [[.fn (.func aP) []]]:=fun _=>rfl
  generalize hh:cH l0 FB=C at*
  simp-implicitDefEqProofs[gJ,hl4,hg10]
  refine HM2.mono ?_
  rintro r h ⟨rfl,rfl⟩
  simp-implicitDefEqProofs[ab,hl4,hg10]
  cases l with
  |nil=>
   have e0:smR (([]:List Sm).map (inS ay))=[]:=rfl
   have e1:smR (ay [])=[]:=rfl
   rw[e1]
   simp-implicitDefEqProofs[oc,zO,smR]
   refine(VF.ac (r:= .nils) (BO G) (by simp[below]) (by simp[below]) _).mono ?_
   rintro r h ⟨rfl,rfl⟩
   simp-implicitDefEqProofs[ab]
  |cons x r=>
   have hf2:∀y∈(x::r).map (inS ay),∀a∈y.args,fI a=true:=fun y hy=>by
    obtain⟨q,hq,rfl⟩:=List.mem_map.1 hy
    exact hf q hq
   have HB:=Ef G hK hS ((x::r).map (inS ay)) hf2 hz2
   rw[Hu] at HB
   have hnl:((x::r).map (inS ay)).length=(x::r).length:=List.length_map _
   have hfl:=pP (x::r)
   have hne:smR ((x::r).map (inS ay))≠[]:=by simp[smR]
   have hne2:smR (ay (x::r))≠[]:=by simp[smR,ay]
   rw[eh hne,ga hne,eh hne2,ga hne2,iX,iX,hnl,hfl]
   rw[hnl] at HB
   generalize hq:smR ((x::r).map (inS ay))=q1 at HB
   have hp1:∀y∈q1,af 0 y:=by rw[←hq];exact aO _
   have hp2:∀y∈smR (ay (x::r)),af 0 y:=aO _
   generalize hq2:smR (ay (x::r))=q2 at HB hp2
   refine(AC.frame (args:=[.sl 4 5 0 (x::r).length]) (h:=C++[.row 5 q1]) HB [4] (by simp) (by simp[TW,ren,below]) (aE (by rw[List.getElem?_append_right (by omega),hl4];rfl) hp1 bj)).mono ?_
   rintro z h' ⟨x0,h0',⟨rfl,rfl⟩,_,rfl,rfl⟩
   have hm:mrg (C++[AO.row 5 q1]) [4] [AO.row 5 q2]=C++[.row 5 q2]:=by
    simp only[mrg]
    rw[List.set_append_right _ _ (by omega),hl4];rfl
   have hrq:∀ρ,kA ρ (AO.row 5 q2)= .row 5 q2:=fun ρ=>by
    simp only[kA]
    rw[List.map_congr_left (g:=id) (fun y hy=>fN ρ y (hp2 y hy)),List.map_id]
   simp-implicitDefEqProofs[ab,Bj,ren,hrq,hm]
 refine key.frz 4 (by rw[hl4];exact Nat.le_refl _) (fun t v h ⟨e,_⟩=>by cases e) ?_
 rintro v h ⟨e,r,rfl⟩
 cases e
 refine⟨.p (smL (ay l)),cH l0 FB,by rw[List.length_append,hl4];omega,hl4,.one ?_ .nil,qq (EY l0 hB (Nat.le_refl _)),rfl,rfl⟩
 have ht:=tJ (r:=r) (o:=dY 5 (smR (ay l))) hl4
 have hh:smR (ay l)=((ay l).map Sm.cs).map (·.map .p):=by simp[smR]
 rw[hh] at ht⊢
 exact uk ht (fun x hx=>by obtain⟨b,_,rfl⟩:=List.mem_map.1 hx;simp)
theorem Db(H:List Sm→List Sm):∀l:List Sm,(∀x∈l,aD (H x.body)≤aD x.body∧aD (H x.els)≤aD x.els)→aD (l.map (inS H))≤aD l
 |[],_=>Nat.le_refl _
 |x::r,h=>by
  have h1:=h x (by simp)
  have h2:=Db H r (fun y hy=>h y (by simp[hy]))
  have h3:=x.sz_eq
  have h4:(inS H x).sz=1+x.name.length+cS x.args+aD (H x.body)+aD (H x.els):=by rw[Sm.sz_eq];rfl
  rw[List.map_cons,aD,aD]
  omega
theorem zt{d:Nat}{x:Sm}(h:aq d x=true):∀a∈x.args,fI a=true:=by
 obtain⟨d,rfl⟩:=pY h
 rw[aq,Bool.and_eq_true,Bool.and_eq_true] at h
 have h1:=h.1.1
 simp only[er,Bool.and_eq_true,List.all_eq_true] at h1
 exact h1.1.1.1.2
theorem BI(hK:G dH=some dy)(hS:G bM=some [PV.tbl opK opV])(l0:List Fd):∀(d:Nat) (l:List Sm),(∀x∈l,aq d x=true)→aD l≤1073741824→mm G l0 FB ay l:=by
 intro d
 have hin:∀l:List Sm,aD l≤1073741824→aD (l.map (inS ay))≤1073741824:=fun l hz=>Nat.le_trans (Db ay l fun x _=>⟨je _,je _⟩) hz
 induction d with
 |zero=>
  intro l hf hz
  exact ra G hK hS l0 l (fun x hx=>by have:=hf x hx;cases this) hz (hin l hz) (fun x hx=>by have:=hf x hx;cases this)
 |succ d ih=>
  intro l hf hz
  refine ra G hK hS l0 l (fun x hx=>zt (hf x hx)) hz (hin l hz) (fun x hx=>?_)
  have h1:=aL hx
  have h2:=x.sz_eq
  exact⟨ih x.body (lO (hf x hx)) (by omega),ih x.els (ou (hf x hx)) (by omega)⟩
theorem wq(hK:G dH=some dy)(hS:G bM=some [PV.tbl opK opV])(l:List Fd)(hz:bn l≤1073741824)(hf:∀f∈l,∀x∈f.body,aq 4 x=true):VF Tryz.prog G bI [.agg [.p (fdL l)],FB] (.agg [.p (fdL (co l))]):=by
 have hll:=bL l
 have hB:below 0 FB:=by simp[FB,below]
 let V:=Ed l FB hB bZ [.ptr 3 1 0 0] (by simp[below])
 have HM:=yC G V (fun(st:Unit) x=>(eaF ay x,st)) (fun _ _=>True) l (by omega) (by show 0<4;omega)
  (fun i st hi _=>⟨trivial,by
    have hm:=List.getElem_mem hi
    have h2:=bS hm
    have h3:l[i].sz=1+l[i].name.length+(l[i].params.length+(l[i].params.map List.length).sum)+aD l[i].body:=rfl
    exact tZ G l hB ay l[i] (by omega) (BI G hK hS l 4 _ (hf _ hm) (by omega))⟩) () trivial
 rw[cT] at HM
 have HM2:AC Tryz.prog G aZ [.p (fdL l),.fn (.func bZ) [.ptr 3 1 0 0]] [.row 1 [[.p (fdL l)]],.row 1 [[.fn (.func aP) []]],.row 1 [[.nils]],.row 1 [[.fn (.func aB) [.ptr 1 1 0 0,.ptr 3 1 0 0]]]] fun x h=>x= .ret (.p (fdL (co l)))∧h=[.row 1 [[.p (fdL l)]],.row 1 [[.fn (.func aP) []]],.row 1 [[.nils]],.row 1 [[.fn (.func aB) [.ptr 1 1 0 0,.ptr 3 1 0 0]]]]:=HM
 show VF Tryz.prog G bI [.agg [.p (fdL l)],.fn (.func aP) []] (.agg [.p (fdL (co l))])
 refine AC.go nw ?_
 simp-implicitDefEqProofs[jz]
 refine HM2.mono ?_
 rintro r h ⟨rfl,rfl⟩
 simp-implicitDefEqProofs[ab]
end Go.Proofs.YtaopbokndkdieaaGreatDoor
namespace Go.Proofs.YtaopbokndkdieaaGreatDoor
open Go Go.Aw
set_option maxRecDepth 100000
set_option maxHeartbeats 4000000
variable (G:aI)
theorem yj:∀(N:Nat) (s:Sm),s.sz≤N→s.sz≤1073741824→VF Tryz.prog G bs [.agg (s.cs.map .p)] (.agg (s.cs.map .p)):=by
 intro N
 induction N with
 |zero=>intro e h;have:=e.sz_eq;omega
 |succ N ih=>
  intro s he hz
  have hc:=s.cs_eq
  have hzz:=s.sz_eq
  have hlen:=aM s.args
  have hlb:=aR s.body
  have hle:=aR s.els
  have hE:∀(h:List AO) (hok:∀o∈h,okO h.length o),0<h.length→AC Tryz.prog G aG [.p (exL s.args),.fn (.func bk) []] h fun x h'=>x= .ret (.p (exL s.args))∧h'=h:=by
   intro h hok h0
   have HM:=lz G (vq bk h hok) (fun(st:Unit) x=>(id x,st)) (fun _ _=>True) s.args (by omega) h0
    (fun i st hi _=>⟨trivial,by
      have h2:=az (List.getElem_mem hi)
      exact(rp G _ s.args[i] (Nat.le_refl _) (by omega)).ac (by simp[below]) (by simp[below]) _⟩) () trivial
   rw[cT,List.map_id] at HM
   exact HM
  have hS:∀(l:List Sm),aD l≤N→aD l≤1073741824→∀(h:List AO) (hok:∀o∈h,okO h.length o),0<h.length→AC Tryz.prog G an [.p (smL l),.fn (.func bs) []] h fun x h'=>x= .ret (.p (smL l))∧h'=h:=by
   intro l hl1 hl2 h hok h0
   have hll:=aR l
   have HM:=rR G (vq bs h hok) (fun(st:Unit) x=>(id x,st)) (fun _ _=>True) l (by omega) h0
    (fun i st hi _=>⟨trivial,by
      have h2:=aL (List.getElem_mem hi)
      exact(ih l[i] (by omega) (by omega)).ac (by simp[below]) (by simp[below]) _⟩) () trivial
   rw[cT,List.map_id] at HM
   exact HM
  refine AC.go rM ?_
  simp-implicitDefEqProofs[lh,hc]
  refine(hE _ (by simp[okO,below]) (by simp)).mono ?_
  rintro r h ⟨rfl,rfl⟩
  simp-implicitDefEqProofs[ab]
  refine(hS s.body (by omega) (by omega) _ (by simp[okO,below]) (by simp)).mono ?_
  rintro r h ⟨rfl,rfl⟩
  simp-implicitDefEqProofs[ab]
  refine(hS s.els (by omega) (by omega) _ (by simp[okO,below]) (by simp)).mono ?_
  rintro r h ⟨rfl,rfl⟩
  simp-implicitDefEqProofs[ab]
theorem AY(f:Fd)(hz:f.sz≤1073741824):VF Tryz.prog G eB [.agg (f.cs.map .p)] (.agg (f.cs.map .p)):=by
 have hcs:f.cs=[.str f.name,aN f.params,smL f.body]:=rfl
 have hfz:f.sz=1+f.name.length+(f.params.length+(f.params.map List.length).sum)+aD f.body:=rfl
 have hll:=aR f.body
 have hS:∀(h:List AO) (hok:∀o∈h,okO h.length o),0<h.length→AC Tryz.prog G an [.p (smL f.body),.fn (.func bs) []] h fun x h'=>x= .ret (.p (smL f.body))∧h'=h:=by
  intro h hok h0
  have HM:=rR G (vq bs h hok) (fun(st:Unit) x=>(id x,st)) (fun _ _=>True) f.body (by omega) h0
   (fun i st hi _=>⟨trivial,by
     have h2:=aL (List.getElem_mem hi)
     exact(yj G _ f.body[i] (Nat.le_refl _) (by omega)).ac (by simp[below]) (by simp[below]) _⟩) () trivial
  rw[cT,List.map_id] at HM
  exact HM
 refine AC.go vV ?_
 simp-implicitDefEqProofs[mW,hcs]
 refine(ze G f.params (by omega)).use ?_
 simp-implicitDefEqProofs[]
 refine(hS _ (by simp[okO,below]) (by simp)).mono ?_
 rintro r h ⟨rfl,rfl⟩
 simp-implicitDefEqProofs[ab]
theorem ty(l:List Fd)(hz:bn l≤1073741824):VF Tryz.prog G eY [.agg [.p (fdL l)]] (.agg [.p (fdL l)]):=by
 have hll:=bL l
 have hS:∀(h:List AO) (hok:∀o∈h,okO h.length o),0<h.length→AC Tryz.prog G aZ [.p (fdL l),.fn (.func eB) []] h fun x h'=>x= .ret (.p (fdL l))∧h'=h:=by
  intro h hok h0
  have HM:=yC G (vq eB h hok) (fun(st:Unit) x=>(id x,st)) (fun _ _=>True) l (by omega) h0
   (fun i st hi _=>⟨trivial,by
     have h2:=bS (List.getElem_mem hi)
     exact(AY G l[i] (by omega)).ac (by simp[below]) (by simp[below]) _⟩) () trivial
  rw[cT,List.map_id] at HM
  exact HM
 refine AC.go oZ ?_
 simp-implicitDefEqProofs[iM]
 refine(hS _ (by simp[okO,below]) (by simp)).mono ?_
 rintro r h ⟨rfl,rfl⟩
 simp-implicitDefEqProofs[ab]
variable (hK:G dH=some dy) (hS:G bM=some [PV.tbl opK opV])
include hK hS
theorem wJ(l:List Fd)(hz:bn l≤1073741824)(h0:aX l=0):VF Tryz.prog G fK [.agg [.p (fdL l)]] (.tup [.agg [.p (fdL (co l))],.p (.bool true)]):=by
 have HC:VF Tryz.prog G bI [.agg [.p (fdL l)],.fn (.func aP) []] (.agg [.p (fdL (co l))]):=wq G hK hS l hz (gN h0).2
 refine AC.go pX ?_
 simp-implicitDefEqProofs[jD]
 refine(yn G hK hS l hz).use ?_
 simp-implicitDefEqProofs[h0]
 refine HC.use ?_
 simp-implicitDefEqProofs[]
theorem yp(l:List Fd)(hz:bn l≤1073741824)(h0:aX l=0):VF Tryz.prog G gg [.agg [.p (fdL l)]] (.tup [.agg [.p (fdL (gu l))],.p (.bool true)]):=by
 have HC:VF Tryz.prog G bI [.agg [.p (fdL l)],.fn (.func be) []] (.agg [.p (fdL (gu l))]):=xC G l hz (gN h0).2
 refine AC.go qS ?_
 simp-implicitDefEqProofs[ku]
 refine(yn G hK hS l hz).use ?_
 simp-implicitDefEqProofs[h0]
 refine HC.use ?_
 simp-implicitDefEqProofs[]
end Go.Proofs.YtaopbokndkdieaaGreatDoor
namespace Go.Proofs.YtaopbokndkdieaaGreatDoor
open Go Go.Aw
set_option maxRecDepth 100000
set_option maxHeartbeats 4000000
variable (G:aI)
variable (hK:G dH=some dy) (hS:G bM=some [PV.tbl opK opV])
include hK hS
theorem rD(l y:List Fd)(hz:bn l≤1073741824)(h0:aX l=0)(hy:Smp l y):VF Tryz.prog G bY [.agg [.p (fdL l)]] (.tup [.agg [.p (fdL y)],.p (.bool true)]):=by
 refine AC.go gB ?_
 simp-implicitDefEqProofs[ef]
 refine(yn G hK hS l hz).use ?_
 simp-implicitDefEqProofs[h0]
 refine(ty G l hz).use ?_
 simp-implicitDefEqProofs[]
 refine aF (fun _:List Fd=>aj 35 [(1,.ptr 0 1 0 0),(2,.ptr 1 1 0 0),(4,.ptr 2 1 0 0)]) (fun q=>[.row 1 [[.p (fdL l)]],.row 1 [[.nils]],.row 1 [[.p (fdL q)]]])
  (fun q=>Smp q y∧aX q=0∧bn q≤1073741824) wP l ⟨hy,h0,hz⟩ ?_ ?_
 ·exact aa (by simp) (by simp[okO,below]) (by simp[below])
 rintro q ⟨hs,hc,hq⟩
 have z1:=Nat.le_trans (ju q) hq
 have z2:=Nat.le_trans (rI (co q)) z1
 simp-implicitDefEqProofs[]
 refine(wJ G hK hS q hq hc).use ?_
 simp-implicitDefEqProofs[]
 refine(yp G hK hS (co q) z1 (jd hc)).use ?_
 simp-implicitDefEqProofs[]
 refine(mS G (gu (co q)) q z2 hq).use ?_
 by_cases he:gu (co q)=q
 ·simp-implicitDefEqProofs[cP he]
  cases hs with
  |stop _=>rfl
  |go h _=>exact(h he).elim
 ·have hn:aX (gu (co q))=0:=qO hc
  simp-implicitDefEqProofs[aV he]
  refine⟨gu (co q),⟨?_,hn,z2⟩,?_,?_⟩
  ·cases hs with
   |stop h=>exact(he h).elim
   |go _ h=>exact h
  ·rcases mH q with h|h
   ·exact(he h).elim
   ·exact h
  ·exact dm [0,1,4] rfl (by decide) (aE rfl (by simp[below]) (aE rfl (by simp[below]) (aE rfl (by simp[below]) bj))) (by simp[below,ren])
theorem rx(l:List Fd)(hz:bn l≤1073741824)(h0:¬aX l=0):VF Tryz.prog G bY [.agg [.p (fdL l)]] (.tup [.agg [.p (fdL [])],.p (.bool false)]):=by
 have key:AC Tryz.prog G bY [.agg [.p (fdL l)]] [] fun x h=>x= .ret (.tup [.agg [.nils],.p (.bool false)]):=by
  refine AC.go gB ?_
  simp-implicitDefEqProofs[ef]
  refine(yn G hK hS l hz).use ?_
  simp-implicitDefEqProofs[h0]
 refine key.freezeR (fun t v h e=>by cases e) fun v h e=>?_
 cases e
 exact .tup (.agg (.one (.nils 3) .nil) (.keep (by simp) .nil)) .nil
theorem AS(l:List Fd)(hz:bn l≤1073741824):VF Tryz.prog G iJ [.agg [.p (fdL l)]] (.p (.bool (pg l))):=by
 refine AC.go tx ?_
 simp-implicitDefEqProofs[mg]
 by_cases h0:aX l=0
 ·obtain⟨y,hy⟩:=Cm (wP l) l (Nat.le_refl _)
  have hyz:bn y≤1073741824:=Nat.le_trans (Gd hy) hz
  refine(rD G hK hS l y hz h0 hy).use ?_
  simp-implicitDefEqProofs[]
  refine(mS G l y hz hyz).use ?_
  have e:pg l=eqX l y:=by
   rw[pg,decide_eq_true h0,Bool.true_and]
   by_cases h:y=l
   ·rw[cP h.symm,cP ((tM hy).1 h)]
   ·rw[aV (fun e=>h e.symm),aV (fun e=>h ((tM hy).2 e))]
  rw[e]
  simp-implicitDefEqProofs[]
 ·refine(rx G hK hS l hz h0).use ?_
  have e:pg l=false:=by rw[pg,decide_eq_false h0,Bool.false_and]
  rw[e]
  simp-implicitDefEqProofs[]
end Go.Proofs.YtaopbokndkdieaaGreatDoor
namespace Go.Proofs.YtaopbokndkdieaaGreatDoor
open Go Go.Aw
set_option maxRecDepth 100000
set_option maxHeartbeats 4000000
def Sml(ch:List Scp):Prop:=∀s n,fT ch s=some n→n<26
theorem Sml.getD{ch:List Scp}(h:Sml ch)(s:List UInt8):(fT ch s).getD 0<26:=by
 cases e:fT ch s with
 |none=>simp
 |some n=>exact h s n e
theorem Sml.set{m:Scp}{up:List Scp}(h:Sml (m::up))(s:List UInt8){n:Nat}(hn:n<26):Sml (iY m s n::up):=by
 intro t k e
 rw[fT,uT] at e
 by_cases hst:s=t
 ·rw[if_pos hst] at e;cases e;exact hn
 ·rw[if_neg hst] at e
  exact h t k (by rw[fT];exact e)
theorem Sml.open{ch:List Scp}(h:Sml ch):Sml ([]::ch):=fun s n e=>h s n (by rw[fT] at e;exact e)
theorem Sml.opS{m:Scp}{up:List Scp}(h:Sml (m::up))(o:Int)(s:List UInt8){n:Nat}(hn:o=1→n<26):Sml (opS o s m n::up):=by
 unfold Go.Proofs.YtaopbokndkdieaaGreatDoor.opS
 split
 ·rename_i e;exact h.set s (hn e)
 ·exact h
variable (G:aI)
end Go.Proofs.YtaopbokndkdieaaGreatDoor
namespace Go.Proofs.YtaopbokndkdieaaGreatDoor
open Go Go.Aw
set_option maxRecDepth 100000
set_option maxHeartbeats 4000000
variable (G:aI)
theorem Sml.base:Sml [[]]:=fun s n e=>by simp[fT,gQ] at e
variable (hK:G dH=some dy) (hS:G bM=some [.tbl opK opV])
include hK hS
end Go.Proofs.YtaopbokndkdieaaGreatDoor
namespace Go.Proofs.YtaopbokndkdieaaGreatDoor
open Go Go.Aw
set_option maxRecDepth 100000
set_option maxHeartbeats 4000000
variable (G:aI)
variable (hK:G dH=some dy) (hS:G bM=some [PV.tbl opK opV])
include hK hS
theorem yc(l:List Fd)(hf:JW l):VF Tryz.prog G gh [.agg [.p (fdL l)]] (.p (.bool true)):=by
 refine AC.go lK ?_
 have hsz':VF Tryz.prog G eJ [.agg [.p (fdL l)],.p (.int .i64 1048576)] (.p (.int .i64 (bV 1048576 (bn l)))):=zD G l hf 1048576 (Nat.le_refl _)
 simp-implicitDefEqProofs[gb]
 refine hsz'.use ?_
 by_cases hz:bn l≤1048576
 case neg=>
  rw[bO hz]
  simp-implicitDefEqProofs[]
 have hto:=Ad G l hz
 have hnn:¬((1048576-bn l:Nat):Int)<0:=by omega
 rw[ec hz]
 simp-implicitDefEqProofs[hnn]
 refine hto.use ?_
 simp-implicitDefEqProofs[]
 refine(Cd G l (by omega)).use ?_
 simp-implicitDefEqProofs[]
 refine hto.use ?_
 simp-implicitDefEqProofs[]
 refine(AS G hK hS l (by omega)).use ?_
 simp-implicitDefEqProofs[]
 refine hto.use ?_
 simp-implicitDefEqProofs[]
 refine(zh G l hz).use ?_
 simp-implicitDefEqProofs[]
end Go.Proofs.YtaopbokndkdieaaGreatDoor
namespace Go.Proofs.YtaopbokndkdieaaGreatDoor
open Go Go.Aw Go.ChangeShapes Go.WideShapes Go.ChangeAt Go.RowKit
set_option maxRecDepth 100000
abbrev Hs:TypeId:=24
abbrev JI:TypeId:=22
abbrev JA:TypeId:=70
abbrev BU:TypeId:=59
abbrev xB:TypeId:=9
abbrev qK:TypeId:=68
abbrev jm:TypeId:=119
abbrev tH:TypeId:=117
abbrev nK:TypeId:=168
abbrev yT:TypeId:=3
abbrev KD:TypeId:=4
abbrev BT:TypeId:=154
abbrev Fp:TypeId:=178
abbrev Js:TypeId:=179
theorem Mp:Kids Tryz.prog (· <Tryz.prog.types.size):=kids_rows (by kernel_rfl) (by kernel_rfl)
theorem LF:∀t e,t<Tryz.prog.types.size→Tryz.prog.underlying t=some (.slice e)→0<Tryz.prog.cellsOf e:=slices_full_of Tryz.prog (by kernel_rfl)
def FZ:List TypeId:=[Hs,JI,JA,BU,xB,qK,jm,tH,nK,yT,KD,BT,Fp]
theorem Bc:Plain Tryz.prog FZ=true:=by kernel_rfl
theorem Nt:ownKnob Tryz.prog.godebug=none:=by kernel_rfl
theorem uK{H:Type}:∀l:List (DataW H),Rows.uptoBulkAll l=(l.map Rows.uptoBulk).sum
 |[]=>by simp[Rows.uptoBulkAll]
 |d::r=>by simp[Rows.uptoBulkAll,uK r]
theorem IP{H:Type}:BulkOk (Rows.uptoBulk (H:=H)) where
 lit:=fun l=>by cases l<;>simp[Rows.uptoBulk]
 str:=fun s=>by simp[Rows.uptoBulk]
 nil:=by simp[Rows.uptoBulk]
 slice:=fun es sp=>by simp only[Rows.uptoBulk,uK];omega
 agg:=fun ps=>by simp only[Rows.uptoBulk,uK];omega
theorem jw{t e:TypeId}{vs:List PV}(h:Conf Tryz.prog t vs)(hu:Tryz.prog.underlying t=some (.slice e)):∃es,vs=[.lst (Tryz.prog.cellsOf e) es]∧es.length≤9223372036854775807∧∀x∈es,Conf Tryz.prog e x:=by
 cases h with
 |sl es e' hl hs=>rw[hu] at e';cases e';exact⟨es,rfl,hl,hs⟩
 |bool b e=>rw[e] at hu;cases hu
 |int n e=>rw[e] at hu;cases hu
 |str s e=>rw[e] at hu;cases hu
 |st vs e=>rw[e] at hu;cases hu
 |arr vs e=>rw[e] at hu;cases hu
theorem Ey{vs:List PV}(h:Conf Tryz.prog BU vs):∃l:List (List UInt8),vs=[aN l]∧l.length≤9223372036854775807∧∀x∈l,x.length≤9223372036854775807:=by
 obtain⟨es,rfl,hl,h4⟩:=jw h (e:=xB) (by kernel_rfl)
 have hk:∀x∈es,∃s:List UInt8,x=[PV.str s]∧s.length≤maxLen:=fun x hx=>qp (h4 x hx) (by kernel_rfl)
 obtain⟨l,rfl⟩:=Cj (fun s:List UInt8=>[PV.str s]) (fun x hx=>by obtain⟨n,e,_⟩:=hk x hx;exact⟨n,e⟩)
 rw[show Tryz.prog.cellsOf xB=1 by kernel_rfl]
 refine⟨l,rfl,by rwa[List.length_map] at hl,fun s hs=>?_⟩
 obtain⟨m,e,hw⟩:=hk [PV.str s] (List.mem_map.2 ⟨s,hs,rfl⟩)
 cases e
 exact hw
theorem jO{α β:Type}(g:β→α)(p:β→Prop):∀{es:List α},(∀x∈es,∃m,x=g m∧p m)→∃ms:List β,es=ms.map g∧∀m∈ms,p m
 |[],_=>⟨[],rfl,fun m hm=>by cases hm⟩
 |e::r,h=>by
  obtain⟨m,hm,hp⟩:=h e (by simp)
  obtain⟨ms,hms,hps⟩:=jO g p (es:=r) fun x hx=>h x (by simp[hx])
  exact⟨m::ms,by simp[hm,hms],fun x hx=>by
   rcases List.mem_cons.1 hx with rfl|hx
   ·exact hp
   ·exact hps x hx⟩
theorem ry:∀{l:List Ex},(∀e∈l,e.fit)→lS l
 |[],_=>trivial
 |e::r,h=>⟨h e (by simp),ry fun x hx=>h x (by simp[hx])⟩
theorem oh:∀{l:List Sm},(∀e∈l,e.fit)→jn l
 |[],_=>trivial
 |e::r,h=>⟨h e (by simp),oh fun x hx=>h x (by simp[hx])⟩
theorem um{x:List PV}{es:List (List PV)}(h:x∈es)(sz:Nat):SizeOf.sizeOf x<SizeOf.sizeOf [PV.lst sz es]:=by
 have:=List.sizeOf_lt_of_mem h
 simp
 omega
theorem IG:∀(n:Nat) (vs:List PV),SizeOf.sizeOf vs<n→Conf Tryz.prog nK vs→∃e:Ex,vs=e.cs∧e.fit:=by
 intro n
 induction n with
 |zero=>intro vs h;omega
 |succ n ih=>
  intro vs hn h
  have h:=tO (ts:=[yT,yT,xB,tH]) h (by kernel_rfl)
  obtain⟨a,r,rfl,h1,h⟩:=ca h
  obtain⟨b,r,rfl,h2,h⟩:=ca h
  obtain⟨c,r,rfl,h3,h⟩:=ca h
  obtain⟨d,r,rfl,h4,h⟩:=ca h
  cases nR h
  obtain⟨n1,rfl,_⟩:=tR h1 (k:= .i64) (by kernel_rfl)
  obtain⟨n2,rfl,_⟩:=tR h2 (k:= .i64) (by kernel_rfl)
  obtain⟨s,rfl,l3⟩:=qp h3 (by kernel_rfl)
  obtain⟨es,rfl,l4,h5⟩:=jw h4 (e:=nK) (by kernel_rfl)
  have hs1:SizeOf.sizeOf [PV.lst (Tryz.prog.cellsOf nK) es]<n+1:=by simp at hn⊢;omega
  obtain⟨l,rfl,hl⟩:=jO Ex.cs Ex.fit (fun x hx=>ih x (by have:=um hx (Tryz.prog.cellsOf nK);omega) (h5 x hx))
  refine⟨⟨n1,n2,s,l⟩,?_,?_⟩
  ·rw[show Tryz.prog.cellsOf nK=4 by kernel_rfl,Ex.cs_eq];rfl
  ·exact⟨l3,by rwa[List.length_map] at l4,ry hl⟩
theorem ES{vs:List PV}(h:Conf Tryz.prog tH vs):∃l:List Ex,vs=[exL l]∧l.length≤BL∧lS l:=by
 obtain⟨es,rfl,l4,h5⟩:=jw h (e:=nK) (by kernel_rfl)
 obtain⟨l,rfl,hl⟩:=jO Ex.cs Ex.fit (fun x hx=>IG _ x (Nat.lt_succ_self _) (h5 x hx))
 rw[show Tryz.prog.cellsOf nK=4 by kernel_rfl]
 exact⟨l,rfl,by rwa[List.length_map] at l4,ry hl⟩
theorem Jc:∀(n:Nat) (vs:List PV),SizeOf.sizeOf vs<n→Conf Tryz.prog jm vs→∃e:Sm,vs=e.cs∧e.fit:=by
 intro n
 induction n with
 |zero=>intro vs h;omega
 |succ n ih=>
  intro vs hn h
  have h:=tO (ts:=[yT,xB,tH,qK,qK]) h (by kernel_rfl)
  obtain⟨a,r,rfl,h1,h⟩:=ca h
  obtain⟨b,r,rfl,h2,h⟩:=ca h
  obtain⟨c,r,rfl,h3,h⟩:=ca h
  obtain⟨d,r,rfl,h4,h⟩:=ca h
  obtain⟨d',r,rfl,h4',h⟩:=ca h
  cases nR h
  obtain⟨n1,rfl,_⟩:=tR h1 (k:= .i64) (by kernel_rfl)
  obtain⟨s,rfl,l3⟩:=qp h2 (by kernel_rfl)
  obtain⟨ar,rfl,la,fa⟩:=ES h3
  obtain⟨es,rfl,l4,h5⟩:=jw h4 (e:=jm) (by kernel_rfl)
  obtain⟨es',rfl,l4',h5'⟩:=jw h4' (e:=jm) (by kernel_rfl)
  have hs1:SizeOf.sizeOf [PV.lst (Tryz.prog.cellsOf jm) es]<n+1:=by simp at hn⊢;omega
  have hs2:SizeOf.sizeOf [PV.lst (Tryz.prog.cellsOf jm) es']<n+1:=by simp at hn⊢;omega
  obtain⟨l,rfl,hl⟩:=jO Sm.cs Sm.fit (fun x hx=>ih x (by have:=um hx (Tryz.prog.cellsOf jm);omega) (h5 x hx))
  obtain⟨l',rfl,hl'⟩:=jO Sm.cs Sm.fit (fun x hx=>ih x (by have:=um hx (Tryz.prog.cellsOf jm);omega) (h5' x hx))
  refine⟨⟨n1,s,ar,l,l'⟩,?_,?_⟩
  ·rw[show Tryz.prog.cellsOf jm=5 by kernel_rfl,Sm.cs_eq];rfl
  ·exact⟨l3,⟨la,fa⟩,⟨by rwa[List.length_map] at l4,oh hl⟩,⟨by rwa[List.length_map] at l4',oh hl'⟩⟩
theorem GA{vs:List PV}(h:Conf Tryz.prog qK vs):∃l:List Sm,vs=[smL l]∧l.length≤BL∧jn l:=by
 obtain⟨es,rfl,l4,h5⟩:=jw h (e:=jm) (by kernel_rfl)
 obtain⟨l,rfl,hl⟩:=jO Sm.cs Sm.fit (fun x hx=>Jc _ x (Nat.lt_succ_self _) (h5 x hx))
 rw[show Tryz.prog.cellsOf jm=5 by kernel_rfl]
 exact⟨l,rfl,by rwa[List.length_map] at l4,oh hl⟩
theorem Jt{vs:List PV}(h:Conf Tryz.prog JA vs):∃f:Fd,vs=f.cs∧f.fit:=by
 have h:=tO (ts:=[xB,BU,qK]) h (by kernel_rfl)
 obtain⟨a,r,rfl,h1,h⟩:=ca h
 obtain⟨b,r,rfl,h2,h⟩:=ca h
 obtain⟨c,r,rfl,h3,h⟩:=ca h
 cases nR h
 obtain⟨s,rfl,l1⟩:=qp h1 (by kernel_rfl)
 obtain⟨ws,rfl,l2,w2⟩:=Ey h2
 obtain⟨bd,rfl,l3,f3⟩:=GA h3
 exact⟨⟨s,ws,bd⟩,rfl,l1,⟨l2,w2⟩,l3,f3⟩
theorem DD{vs:List PV}(h:Conf Tryz.prog Hs vs):∃l:List Fd,vs=[fdL l]∧JW l:=by
 have h:=tO (ts:=[JI]) h (by kernel_rfl)
 obtain⟨a,r,rfl,h1,h⟩:=ca h
 cases nR h
 obtain⟨es,rfl,l4,h5⟩:=jw h1 (e:=JA) (by kernel_rfl)
 obtain⟨l,rfl,hl⟩:=jO Fd.cs Fd.fit (fun x hx=>Jt (h5 x hx))
 rw[show Tryz.prog.cellsOf JA=3 by kernel_rfl]
 exact⟨l,rfl,by rwa[List.length_map] at l4,hl⟩
def G0:aI:=fun g=>if g=dH then some dy else if g=bM then some [.tbl opK opV] else none
theorem Kh:∀k,gX Tryz.prog (k+10) BT (Rows.laid_loop_example_wholeway_impl_keys (H:=Unit))=dy:=fun k=>by kernel_rfl
theorem NT{W:World}{laid:List (String × DataW Unit)}(hL:laidMet Tryz.prog laid W)(h1:("loop.example/wholeway/impl.keys",Rows.laid_loop_example_wholeway_impl_keys)∈laid)(h2:("loop.example/wholeway/impl.opSign",Rows.laid_loop_example_wholeway_impl_opSign)∈laid):
 ∀g cs,G0 g=some cs→g<W.heap.size∧∀(j:Nat) (c:PV),cs[j]?=some c→∃v,W.cell? ⟨g,j,none⟩=some v∧PRel W (· <W.heap.size) c v:=by
 intro g cs h
 unfold G0 at h
 split at h
 ·rename_i e;subst e;cases h
  exact Dy Bc hL (n:= "loop.example/wholeway/impl.keys") (d:=Rows.laid_loop_example_wholeway_impl_keys) (t:=BT) h1 (by kernel_rfl) (by kernel_rfl) (by decide) Kh
 ·split at h
  ·rename_i e;subst e;cases h
   exact GX Bc hL (n:= "loop.example/wholeway/impl.opSign") h2 (t:=Js) (k:=yT) (e:=Fp) (by kernel_rfl) (by kernel_rfl) (by kernel_rfl) (.inl ⟨.i64,by kernel_rfl⟩) (by decide) (by kernel_rfl) (by kernel_rfl) (fun m=>by kernel_rfl)
  ·cases h
end Go.Proofs.YtaopbokndkdieaaGreatDoor
