/-
  Contracts and lemmas that the card needs, part 6.
-/
import Derived.Test.YtiojgfhdcpppcaaGreatDoorIn5
namespace Go.Proofs.YtiojgfhdcpppcaaGreatDoor
open Go Go.Aw
set_option maxRecDepth 100000
set_option maxHeartbeats 4000000
def K_impl_checker_block:AK:= .seq (.reg [oM 14 1,oJ 15 (.len false (.t 14)),oK 16 0]) (.blk 0 (.loop (.seq (.reg [oJ 17 (.bin .lss (.t 16) (.t 15))]) (.seq (.cond (.t 17) (.skip) (.exit 0)) (.seq (.blk 1 (.seq (.reg [oJ 18 (.idxS 5 (.t 14) (.t 16)),oJ 19 (.ld (some 5) (.t 18)),oJ 7 (.alloc [(.p (.int .i64 0)),(.p (.str [])),.nils,.nils,.nils]),⟨none,none,.st 5 (.t 7) (.t 19)⟩]) (.seq (.seq (.reg [oF 20 2 7,oL 21 20,oJ 22 (.len false (.t 21)),oK 23 0]) (.blk 2 (.loop (.seq (.reg [oJ 24 (.bin .lss (.t 23) (.t 22))]) (.seq (.cond (.t 24) (.skip) (.exit 2)) (.seq (.blk 3 (.seq (.reg [oJ 25 (.idxS 4 (.t 21) (.t 23)),oJ 26 (.ld (some 4) (.t 25)),oJ 9 (.alloc [(.p (.int .i64 0)),(.p (.int .i64 0)),(.p (.str [])),.nils]),⟨none,none,.st 4 (.t 9) (.t 26)⟩]) (.reg [oM 27 0,oJ 28 (.ld (some 4) (.t 9)),oM 29 2,oJ 30 (.call cy [(.t 27),(.t 28),(.t 29)])]))) (.reg [oJ 31 (.bin .add (.t 23) (.c (.p (.int .i64 1)))),oM 23 31]))))))) (.cut (.seq (.reg [oF 32 0 7,oL 33 32]) (.blk 4 (.seq (.reg [oJ 35 (.bin .eql (.t 33) (.c (.p (.int .i64 1)))),oM 34 35]) (.cond (.t 34) (.seq (.seq (.reg [oM 37 2,oN 38 37,oF 39 0 38,oF 41 1 7,oL 40 39,oL 42 41,oJ 43 (.lk 1 (.p (.int .i64 0)) true (.t 40) (.t 42)),oM 36 43,oJ 44 (.ext 0 (.t 36)),oJ 45 (.ext 1 (.t 36)),oM 10 44,oM 11 45]) (.seq (.reg [oM 46 11]) (.cond (.t 46) (.reg [oM 47 0,oJ 48 (.call az [(.t 47),(.c (.p (.int .i64 2)))])]) (.skip)))) (.reg [oM 49 2,oN 50 49,oF 51 0 50,oF 53 1 7,oL 52 51,oL 54 53,⟨none,none,.mup 1 (.t 52) (.t 54) (.c (.p (.int .i64 0)))⟩])) (.seq (.reg [oJ 56 (.bin .eql (.t 33) (.c (.p (.int .i64 2)))),oM 55 56]) (.cond (.t 55) (.seq (.reg [oM 58 2,oF 59 1 7,oL 60 59,oJ 61 (.call aN [(.t 58),(.t 60)]),oM 57 61,oJ 62 (.ext 0 (.t 57)),oJ 63 (.ext 1 (.t 57)),oM 12 62,oM 13 63]) (.seq (.reg [oM 64 13,oJ 65 (.not (.t 64))]) (.cond (.t 65) (.reg [oM 66 0,oJ 67 (.call az [(.t 66),(.c (.p (.int .i64 3)))])]) (.skip)))) (.skip))))))) (.seq (.reg [oF 68 0 7,oL 69 68,oJ 70 (.bin .eql (.t 69) (.c (.p (.int .i64 5)))),oM 71 70,⟨(some 72),some (71,false),.fldA 0 (.t 7)⟩,⟨(some 73),some (71,false),.ld none (.t 72)⟩,⟨(some 74),some (71,false),.bin .eql (.t 73) (.c (.p (.int .i64 6)))⟩,oJ 75 (.pick (.t 71) (.c (.p (.bool true))) (.t 74))]) (.cond (.t 75) (.seq (.reg [oM 76 0,oF 77 3 7,oM 79 2,oL 78 77,oJ 80 (.call aJ [(.t 79)]),⟨none,none,.chk none 77 78⟩,oJ 81 (.call aV [(.t 76),(.t 78),(.t 80)])]) (.reg [oM 82 0,oF 83 4 7,oM 85 2,oL 84 83,oJ 86 (.call aJ [(.t 85)]),⟨none,none,.chk none 83 84⟩,oJ 87 (.call aV [(.t 82),(.t 84),(.t 86)])])) (.skip))))))) (.reg [oJ 88 (.bin .add (.t 16) (.c (.p (.int .i64 1)))),oM 16 88]))))))
theorem mS:K_impl_checker_block.whole=F_impl_checker_block.ak:=rfl
theorem xW(fns:List Fd)(k:Nat):∀(a b:List Sm) (m:Scp) (up:List Scp) (c:Int),gw fns k (a++b) m up c=gw fns k b (gw fns k a m up c).1 up (gw fns k a m up c).2
 |[],b,m,up,c=>rfl
 |s::r,b,m,up,c=>by rw[List.cons_append,gw,gw,xW fns k r]
theorem Bl{fns:List Fd}{k:Nat}{l:List Sm}{m:Scp}{up:List Scp}{c:Int}{i:Nat}(h:i<l.length):gw fns k (l.take (i+1)) m up c=icS fns k l[i] (gw fns k (l.take i) m up c).1 up (gw fns k (l.take i) m up c).2:=by
 rw[an h,xW];rfl
def AX(b0:AO)(fns:List Fd)(k:Nat)(up:List GS)(gap:List AO)(c:Int):List AO:=b0::cO fns k c::(scH up++gap)
theorem HP(b0:AO)(fns:List Fd)(k:Nat)(up:List GS)(gap:List AO)(c:Int):(AX b0 fns k up gap c).length=2+scL up+gap.length:=by
 simp only[AX,List.length_cons,List.length_append,hZ];omega
theorem Cp(b0:AO)(fns:List Fd)(k:Nat)(up:List GS)(gap:List AO)(m:Scp)(c:Int)(rest:List AO):CH b0 fns k c (⟨gap,m⟩::up)++rest=AX b0 fns k up gap c++(.mp (mpE m):: .row 2 [[.mp (2+scL up+gap.length),upV up]]::rest):=by
 simp[CH,AX,scH]
theorem BM(b0:AO)(fns:List Fd)(k:Nat)(up:List GS)(gap:List AO)(m:Scp)(c:Int):CH b0 fns k c (⟨gap,m⟩::up)=AX b0 fns k up gap c++[.mp (mpE m),.row 2 [[.mp (2+scL up+gap.length),upV up]]]:=by
 have:=Cp b0 fns k up gap m c []
 rwa[List.append_nil] at this
theorem JK{b0:AO}{fns:List Fd}{k:Nat}{up:List GS}{gap:List AO}(hb:okO 0 b0)(hs:kS up)(hg:∀o∈gap,okO (2+scL up+gap.length) o)(c:Int):∀o∈AX b0 fns k up gap c,okO (2+scL up+gap.length) o:=by
 refine ae (bO hb) (ae (by intro e he;rw[List.mem_singleton.1 he];simp[below]) ?_)
 intro o ho
 rcases List.mem_append.1 ho with h|h
 ·exact vU up hs (by omega) o h
 ·exact hg o h
theorem nj{kk L n:Nat}{A r s:List AO}{l l1:List (Nat × AV)}(hl:A.length=L)(hk:kk≤L+r.length)(ha:∀o∈A,okO L o)(hr:∀o∈r,okO (L+r.length) o)(H:FgA (L+r.length) l l1):Wk kk (al n l) (A++(r++s)) (al n l1) (A++r):=by
 have hll:(A++r).length=L+r.length:=by rw[List.length_append,hl]
 refine gf (m:=L+r.length) hk (dw ?_ hll ?_) H
 ·rw[←List.append_assoc,←hll,List.take_left'];rfl
 ·intro o ho
  rcases List.mem_append.1 ho with h|h
  ·exact kI (by omega) (ha o h)
  ·exact hr o h
theorem tP(m:Scp)(n:Nat):okO n (.mp (mpE m)):=by
 intro e he
 obtain⟨x,_,rfl⟩:=List.mem_map.1 he
 simp[below]
variable (G:aG)
theorem EO(b0:AO){fns:List Fd}{k:Nat}(hf:fns.length≤1073741824)(hk:k≤fns.length)(hb:okO 0 b0):∀(N:Nat) (l:List Sm),ay l<N→ay l≤1073741824→∀(gap:List AO) (m:Scp) (up:List GS) (c:Int),kS (⟨gap,m⟩::up)→
 AC Tryz.prog G aV [.ptr 1 3 0 0,.p (smL l),upV (⟨gap,m⟩::up)] (CH b0 fns k c (⟨gap,m⟩::up)) fun x h=>x= .ret (.tup [])∧h=CH b0 fns k (gw fns k l m (sco up) c).2 (⟨gap,(gw fns k l m (sco up) c).1⟩::up):=by
 intro N
 induction N with
 |zero=>intro l h;omega
 |succ N ih=>
  intro l hl hz gap m up c hs
  have hll:=bA l
  have hsl:∀l,smL l= .lst 5 (l.map Sm.cs):=fun _=>rfl
  have hs':∀m,kS (⟨gap,m⟩::up):=fun _=>hs
  have hscl:∀m,scL (⟨gap,m⟩::up)=scL up+gap.length+2:=fun _=>rfl
  refine zV G (AC.goK mt mS ?_) (by rw[gH,gH];rfl) (by rw[gH];exact wZ hb (hs' _) (by rw[hscl];exact Nat.le_of_eq (by rfl))) (by simp[below])
  have hup:upV (⟨gap,m⟩::up)= .ptr (2+scL up+gap.length+1) 2 0 0:=rfl
  have hlenC:∀c m,(CH b0 fns k c (⟨gap,m⟩::up)).length=2+scL up+gap.length+2:=fun c m=>by rw[gH,hscl];omega
  have hokC:∀c m,∀o∈CH b0 fns k c (⟨gap,m⟩::up),okO (2+scL up+gap.length+2) o:=fun c m=>wZ hb (hs' m) (by rw[hscl];omega)
  have hlenA:∀c,(AX b0 fns k up gap c).length=2+scL up+gap.length:=HP b0 fns k up gap
  simp-implicitDefEqProofs[K_impl_checker_block,F_impl_checker_block,hsl,hup]
  refine aR (fun i:Nat=>al 89 [(0,.ptr 1 3 0 0),(2,.ptr (2+scL up+gap.length+1) 2 0 0),(14,.p (smL l)),(15,.p (.int .i64 l.length)),(16,.p (.int .i64 i))])
   (fun i=>CH b0 fns k (gw fns k (l.take i) m (sco up) c).2 (⟨gap,(gw fns k (l.take i) m (sco up) c).1⟩::up)) (fun i=>i≤l.length) (fun i=>l.length-i) 0 (by simp) ?_ ?_
  ·refine af (h:=CH b0 fns k c (⟨gap,m⟩::up)) (Nat.le_refl _) (by rw[hlenC];exact hokC _ _) ?_
   rw[hlenC]
   simp[below,hsl]
  intro i hi
  have eT:=fun h=>Bl (fns:=fns) (k:=k) (l:=l) (m:=m) (up:=sco up) (c:=c) (i:=i) h
  rw[hlenC]
  generalize hst:gw fns k (l.take i) m (sco up) c=st at eT⊢
  obtain⟨mi,ci⟩:=st
  simp only at eT⊢
  simp-implicitDefEqProofs[hsl]
  refine bf (fun h=>?_) (fun h=>?_)
  ·simp at h
   have hg:=List.getElem?_eq_getElem h
   have hse:=l[i].cs_eq
   have hsz:=l[i].sz_eq
   have hks:=bT (List.getElem_mem h)
   have eT:=eT h
   generalize l[i]=s at hg hse hsz hks eT
   obtain⟨o,nme,a,bd,el⟩:=s
   simp only[Sm.op,Sm.name,Sm.args,Sm.body,Sm.els] at hse hsz
   have hxl:exL a= .lst 4 (a.map Ex.cs):=rfl
   have hal:=bn a
   simp-implicitDefEqProofs[hg,hse,hlenC,hxl]
   have hexpr:∀(c:Int) (e:Ex) (rest:List AO),e.sz≤1073741824→AC Tryz.prog G cy [.ptr 1 3 0 0,.agg (e.cs.map .p),.ptr (2+scL up+gap.length+1) 2 0 0] (AX b0 fns k up gap c++(.mp (mpE mi):: .row 2 [[.mp (2+scL up+gap.length),upV up]]::rest)) fun x h=>x= .ret (.tup [])∧h=AX b0 fns k up gap (e.pre.foldl (fH fns k (mi::sco up)) c)++(.mp (mpE mi):: .row 2 [[.mp (2+scL up+gap.length),upV up]]::rest):=by
    intro c e rest he
    have:=GT G (GR G b0 hf hk (⟨gap,mi⟩::up) hb (hs' mi) c e he) hb (hs' mi) rfl rest (by refine⟨by simp only[below];omega,by simp,dy _ (Nat.le_refl _),trivial⟩)
    simp only[Cp] at this
    exact this
   have hfail:∀(c e:Int) (t:List AO),AC Tryz.prog G az [.ptr 1 3 0 0,.p (.int .i64 e)] (AX b0 fns k up gap c++t) fun x h=>x= .ret (.tup [])∧h=AX b0 fns k up gap (fl c e)++t:=fun c e t=>vv G b0 fns k c e _
   have hfind:∀(c:Int) (m:Scp) (s:List UInt8) (rest:List AO),AC Tryz.prog G aN [.ptr (2+scL up+gap.length+1) 2 0 0,.p (.str s)] (AX b0 fns k up gap c++(.mp (mpE m):: .row 2 [[.mp (2+scL up+gap.length),upV up]]::rest)) fun x h=>x= .ret (.tup [.p (.int .i64 (((er (m::sco up) s).getD 0:Nat):Int)),.p (.bool (er (m::sco up) s).isSome)])∧h=AX b0 fns k up gap c++(.mp (mpE m):: .row 2 [[.mp (2+scL up+gap.length),upV up]]::rest):=by
    intro c m s rest
    have:=xZ G b0 (cO fns k c) (⟨gap,m⟩::up) rest s
    have e:b0::cO fns k c::(scH (⟨gap,m⟩::up)++rest)=CH b0 fns k c (⟨gap,m⟩::up)++rest:=rfl
    rw[e,Cp] at this
    exact this
   have hblk:∀(c:Int) (m2:Scp) (l':List Sm) (gap2:List AO),ay l'<N→ay l'≤1073741824→(∀o∈gap2,okO (2+scL up+gap.length+2+gap2.length) o)→
    AC Tryz.prog G aV [.ptr 1 3 0 0,.p (smL l'),.ptr (2+scL up+gap.length+2+gap2.length+1) 2 0 0] (AX b0 fns k up gap c++(.mp (mpE m2):: .row 2 [[.mp (2+scL up+gap.length),upV up]]::(gap2++[.mp [],.row 2 [[.mp (2+scL up+gap.length+2+gap2.length),.ptr (2+scL up+gap.length+1) 2 0 0]]])))
     fun x h=>x= .ret (.tup [])∧∃m',h=AX b0 fns k up gap (gw fns k l' [] (m2::sco up) c).2++(.mp (mpE m2):: .row 2 [[.mp (2+scL up+gap.length),upV up]]::(gap2++[.mp (mpE m'),.row 2 [[.mp (2+scL up+gap.length+2+gap2.length),.ptr (2+scL up+gap.length+1) 2 0 0]]])):=by
    intro c m2 l' gap2 h1 h2 h3
    have e1:2+scL (⟨gap,m2⟩::up)+gap2.length=2+scL up+gap.length+2+gap2.length:=by rw[hscl];omega
    have e2:∀c m',CH b0 fns k c (⟨gap2,m'⟩::⟨gap,m2⟩::up)=AX b0 fns k up gap c++(.mp (mpE m2):: .row 2 [[.mp (2+scL up+gap.length),upV up]]::(gap2++[.mp (mpE m'),.row 2 [[.mp (2+scL up+gap.length+2+gap2.length),.ptr (2+scL up+gap.length+1) 2 0 0]]])):=by
     intro c m'
     rw[←e1]
     simp[CH,AX,scH,upV]
    have:=ih l' h1 h2 gap2 [] (⟨gap,m2⟩::up) c ⟨by rw[e1];exact h3,hs' m2⟩
    rw[show upV (⟨gap2,[]⟩::⟨gap,m2⟩::up)= .ptr (2+scL up+gap.length+2+gap2.length+1) 2 0 0 by rw[←e1];rfl] at this
    rw[e2] at this
    refine this.mono ?_
    rintro x h ⟨hx,hh⟩
    exact⟨hx,(gw fns k l' [] (sco (⟨gap,m2⟩::up)) c).1,by rw[hh,e2];rfl⟩
   rw[BM b0 fns k up gap mi ci,List.append_assoc]
   simp only[List.cons_append,List.nil_append]
   have hokA:=JK (fns:=fns) (k:=k) hb hs.2 hs.1
   generalize hL:2+scL up+gap.length=L at hexpr hfind hblk hlenA hlenC hokC hokA⊢
   have hR:okO (L+2) (.row 2 [[.mp L,upV up]]):=by
    intro e he;rw[List.mem_singleton.1 he]
    exact⟨by simp only[below];omega,dy up (by omega),trivial⟩
   have hX:okO 0 (.row 5 [[AV.p (.int .i64 o),.p (.str nme),.p (.lst 4 (a.map Ex.cs)),.p (smL bd),.p (smL el)]]):=by simp[okO]
   have ok3:∀(m:Scp),∀x∈[AO.mp (mpE m),.row 2 [[.mp L,upV up]],.row 5 [[AV.p (.int .i64 o),.p (.str nme),.p (.lst 4 (a.map Ex.cs)),.p (smL bd),.p (smL el)]]],okO (L+3) x:=fun m=>
    ae (tP _ _) (ae (kI (by omega) hR) (ae (bO hX) dg))
   refine aR (fun j:Nat=>al 89 [(0,.ptr 1 3 0 0),(2,.ptr (L+1) 2 0 0),(7,.ptr (L+2) 5 0 0),(14,.p (smL l)),(15,.p (.int .i64 l.length)),(16,.p (.int .i64 i)),(21,.p (exL a)),(22,.p (.int .i64 a.length)),(23,.p (.int .i64 j))])
    (fun j=>AX b0 fns k up gap ((gG (a.take j)).foldl (fH fns k (mi::sco up)) ci)++[.mp (mpE mi),.row 2 [[.mp L,upV up]],.row 5 [[AV.p (.int .i64 o),.p (.str nme),.p (.lst 4 (a.map Ex.cs)),.p (smL bd),.p (smL el)]]])
    (fun j=>j≤a.length) (fun j=>a.length-j) 0 (by simp) ?_ ?_
   ·refine nj (s:=[]) (hlenA _) (by simp) (hokA _) (ok3 _) ?_
    simp[below,hsl,hxl]
   intro j hj
   simp-implicitDefEqProofs[hxl]
   refine bf (fun hc=>?_) (fun hc=>?_)
   ·simp at hc
    have hga:=List.getElem?_eq_getElem hc
    have hka:=bm (List.getElem_mem hc)
    have hkc:=a[j].cs_eq
    have hE:=hexpr ((gG (a.take j)).foldl (fH fns k (mi::sco up)) ci) a[j] [.row 5 [[AV.p (.int .i64 o),.p (.str nme),.p (.lst 4 (a.map Ex.cs)),.p (smL bd),.p (smL el)]],.row 4 [[.p (.int .i64 a[j].op),.p (.int .i64 a[j].n),.p (.str a[j].name),.p (exL a[j].kids)]]] (by omega)
    rw[hkc] at hE
    simp-implicitDefEqProofs[hga,hkc,hlenA]
    refine hE.mono ?_
    rintro r h ⟨rfl,rfl⟩
    simp-implicitDefEqProofs[aa]
    refine⟨j+1,hc,by omega,?_⟩
    have hf2:(gG (a.take (j+1))).foldl (fH fns k (mi::sco up)) ci=a[j].pre.foldl (fH fns k (mi::sco up)) ((gG (a.take j)).foldl (fH fns k (mi::sco up)) ci):=by
     rw[an hc,pS,List.foldl_append,gG,gG,List.append_nil]
    rw[hf2]
    refine nj (r:=[_,_,_]) (s:=[_]) (hlenA _) (by simp) (hokA _) (ok3 _) ?_
    simp[below,hsl,hxl,w1 (i:=j) (by omega)]
   simp at hc
   have hje:j=a.length:=by omega
   subst hje
   rw[List.take_length]
   have hic:icS fns k ⟨o,nme,a,bd,el⟩ mi (sco up) ci=(opS o nme mi 0,if o=5∨o=6 then(gw fns k el [] (opS o nme mi 0::sco up) (gw fns k bd [] (opS o nme mi 0::sco up) (opC o nme mi (sco up) (ya fns k (mi::sco up) a ci))).2).2 else opC o nme mi (sco up) (ya fns k (mi::sco up) a ci)):=rfl
   rw[hic] at eT
   clear hic
   rw[show(gG a).foldl (fH fns k (mi::sco up)) ci=ya fns k (mi::sco up) a ci from rfl]
   generalize ya fns k (mi::sco up) a ci=c1 at eT⊢
   simp-implicitDefEqProofs[]
   refine kf (al 89 [(0,.ptr 1 3 0 0),(2,.ptr (L+1) 2 0 0),(7,.ptr (L+2) 5 0 0),(14,.p (smL l)),(15,.p (.int .i64 l.length)),(16,.p (.int .i64 i))])
    (AX b0 fns k up gap (opC o nme mi (sco up) c1)++[.mp (mpE (opS o nme mi 0)),.row 2 [[.mp L,upV up]],.row 5 [[AV.p (.int .i64 o),.p (.str nme),.p (.lst 4 (a.map Ex.cs)),.p (smL bd),.p (smL el)]]]) ?_ ?_
   ·have fin:∀(r1:List (Nat × AV)) (c2:Int) (m2:Scp),Aw.look r1 0= .ptr 1 3 0 0→Aw.look r1 2= .ptr (L+1) 2 0 0→Aw.look r1 7= .ptr (L+2) 5 0 0→Aw.look r1 14= .p (smL l)→Aw.look r1 15= .p (.int .i64 l.length)→Aw.look r1 16= .p (.int .i64 i)→
     Wk (L+2) (al 89 r1) (AX b0 fns k up gap c2++[.mp (mpE m2),.row 2 [[.mp L,upV up]],.row 5 [[AV.p (.int .i64 o),.p (.str nme),.p (.lst 4 (a.map Ex.cs)),.p (smL bd),.p (smL el)]]])
      (al 89 [(0,.ptr 1 3 0 0),(2,.ptr (L+1) 2 0 0),(7,.ptr (L+2) 5 0 0),(14,.p (smL l)),(15,.p (.int .i64 l.length)),(16,.p (.int .i64 i))])
      (AX b0 fns k up gap c2++[.mp (mpE m2),.row 2 [[.mp L,upV up]],.row 5 [[AV.p (.int .i64 o),.p (.str nme),.p (.lst 4 (a.map Ex.cs)),.p (smL bd),.p (smL el)]]]):=by
     intro r1 c2 m2 e0 e2 e7 e14 e15 e16
     refine nj (s:=[]) (hlenA _) (by simp) (hokA _) (ok3 _) ?_
     simp[below,e0,e2,e7,e14,e15,e16]
    by_cases o1:o=1
    ·have hmg:=qg nme mi
     have hms:iR (.str nme) (.p (.int .i64 0)) (mpE mi)=some (mpE (eK mi nme 0)):=by simpa using pW nme 0 mi
     have e2:opS o nme mi 0=eK mi nme 0:=if_pos o1
     rw[e2]
     cases hh:gS mi nme with
     |none=>
      have e1:opC o nme mi (sco up) c1=c1:=by rw[opC,if_pos o1,hh];rfl
      rw[hh] at hmg
      rw[e1]
      subst o1
      simp-implicitDefEqProofs[hlenA,hmg,hms]
      exact fin _ _ _ (by simp) (by simp) (by simp) (by simp[hsl]) (by simp) (by simp)
     |some n=>
      have e1:opC o nme mi (sco up) c1=fl c1 2:=by rw[opC,if_pos o1,hh];rfl
      rw[hh] at hmg
      rw[e1]
      subst o1
      simp-implicitDefEqProofs[hlenA,hmg,hms]
      refine(hfail c1 2 _).mono ?_
      rintro r h ⟨rfl,rfl⟩
      simp-implicitDefEqProofs[aa,hlenA,hms]
      exact fin _ _ _ (by simp) (by simp) (by simp) (by simp[hsl]) (by simp) (by simp)
    have e2:opS o nme mi 0=mi:=if_neg o1
    rw[e2]
    by_cases o2:o=2
    ·cases hh:er (mi::sco up) nme with
     |none=>
      have e1:opC o nme mi (sco up) c1=fl c1 3:=by rw[opC,if_neg o1,if_pos o2,hh];rfl
      rw[e1]
      subst o2
      have hF:=hfind c1 mi nme [.row 5 [[AV.p (.int .i64 2),.p (.str nme),.p (.lst 4 (a.map Ex.cs)),.p (smL bd),.p (smL el)]]]
      rw[hh] at hF
      simp-implicitDefEqProofs[hlenA]
      refine hF.mono ?_
      rintro r h ⟨rfl,rfl⟩
      simp-implicitDefEqProofs[aa]
      refine(hfail c1 3 _).mono ?_
      rintro r h ⟨rfl,rfl⟩
      simp-implicitDefEqProofs[aa]
      exact fin _ _ _ (by simp) (by simp) (by simp) (by simp[hsl]) (by simp) (by simp)
     |some n=>
      have e1:opC o nme mi (sco up) c1=c1:=by rw[opC,if_neg o1,if_pos o2,hh];rfl
      rw[e1]
      subst o2
      have hF:=hfind c1 mi nme [.row 5 [[AV.p (.int .i64 2),.p (.str nme),.p (.lst 4 (a.map Ex.cs)),.p (smL bd),.p (smL el)]]]
      rw[hh] at hF
      simp-implicitDefEqProofs[hlenA]
      refine hF.mono ?_
      rintro r h ⟨rfl,rfl⟩
      simp-implicitDefEqProofs[aa]
      exact fin _ _ _ (by simp) (by simp) (by simp) (by simp[hsl]) (by simp) (by simp)
    ·have e1:opC o nme mi (sco up) c1=c1:=by rw[opC,if_neg o1,if_neg o2]
     rw[e1]
     simp-implicitDefEqProofs[hlenA,o1,o2]
     exact fin _ _ _ (by simp) (by simp) (by simp) (by simp[hsl]) (by simp) (by simp)
   generalize opC o nme mi (sco up) c1=c2 at eT⊢
   generalize opS o nme mi 0=m2 at eT⊢
   have hdrop:∀(r1:List (Nat × AV)) (c3:Int) (s:List AO),Aw.look r1 0= .ptr 1 3 0 0→Aw.look r1 2= .ptr (L+1) 2 0 0→Aw.look r1 14= .p (smL l)→Aw.look r1 15= .p (.int .i64 l.length)→Aw.look r1 16= .p (.int .i64 ((i:Int)+1))→
    Wk (L+2) (al 89 r1) (AX b0 fns k up gap c3++([.mp (mpE m2),.row 2 [[.mp L,upV up]]]++s)) (al 89 [(0,.ptr 1 3 0 0),(2,.ptr (L+1) 2 0 0),(14,.p (smL l)),(15,.p (.int .i64 l.length)),(16,.p (.int .i64 ((i:Int)+1)))]) (CH b0 fns k c3 (⟨gap,m2⟩::up)):=by
    intro r1 c3 s e0 e2 e14 e15 e16
    rw[BM,hL]
    refine nj (hlenA _) (by simp) (hokA _) (ae (tP _ _) (ae hR dg)) ?_
    simp[below,e0,e2,e14,e15,e16]
   by_cases ho:o=5∨o=6
   ·rw[if_pos ho] at eT
    rcases ho with o5|o6
    ·subst o5
     simp-implicitDefEqProofs[hlenA]
     refine(mg G (.ptr (L+1) 2 0 0) (.inr ⟨_,rfl⟩) _).mono ?_
     rintro r h ⟨rfl,rfl⟩
     simp-implicitDefEqProofs[aa,hlenA]
     refine(hblk c2 m2 bd [_] (by omega) (by omega) (fun x hx=>by rw[List.mem_singleton.1 hx];exact bO (by simp[okO]))).mono ?_
     rintro r h ⟨rfl,m3,rfl⟩
     simp-implicitDefEqProofs[aa,hlenA]
     refine(mg G (.ptr (L+1) 2 0 0) (.inr ⟨_,rfl⟩) _).mono ?_
     rintro r h ⟨rfl,rfl⟩
     simp-implicitDefEqProofs[aa,hlenA]
     refine(hblk _ m2 el [_,_,_] (by omega) (by omega) (ae (bO (by simp[okO])) (ae (tP _ _) (ae (by
      intro e he;rw[List.mem_singleton.1 he]
      exact⟨by simp only[below];simp,by simp only[below];simp,trivial⟩) dg)))).mono ?_
     rintro r h ⟨rfl,m4,rfl⟩
     simp-implicitDefEqProofs[aa,hlenA]
     refine⟨i+1,by omega,by omega,?_⟩
     rw[eT]
     refine hdrop _ _ _ (by simp) (by simp) (by simp[hsl]) (by simp) (by simp[w1 (i:=i) (by omega)])
    ·subst o6
     simp-implicitDefEqProofs[hlenA]
     refine(mg G (.ptr (L+1) 2 0 0) (.inr ⟨_,rfl⟩) _).mono ?_
     rintro r h ⟨rfl,rfl⟩
     simp-implicitDefEqProofs[aa,hlenA]
     refine(hblk c2 m2 bd [_] (by omega) (by omega) (fun x hx=>by rw[List.mem_singleton.1 hx];exact bO (by simp[okO]))).mono ?_
     rintro r h ⟨rfl,m3,rfl⟩
     simp-implicitDefEqProofs[aa,hlenA]
     refine(mg G (.ptr (L+1) 2 0 0) (.inr ⟨_,rfl⟩) _).mono ?_
     rintro r h ⟨rfl,rfl⟩
     simp-implicitDefEqProofs[aa,hlenA]
     refine(hblk _ m2 el [_,_,_] (by omega) (by omega) (ae (bO (by simp[okO])) (ae (tP _ _) (ae (by
      intro e he;rw[List.mem_singleton.1 he]
      exact⟨by simp only[below];simp,by simp only[below];simp,trivial⟩) dg)))).mono ?_
     rintro r h ⟨rfl,m4,rfl⟩
     simp-implicitDefEqProofs[aa,hlenA]
     refine⟨i+1,by omega,by omega,?_⟩
     rw[eT]
     refine hdrop _ _ _ (by simp) (by simp) (by simp[hsl]) (by simp) (by simp[w1 (i:=i) (by omega)])
   ·rw[if_neg ho] at eT
    have o5:¬o=5:=fun h=>ho (.inl h)
    have o6:¬o=6:=fun h=>ho (.inr h)
    simp-implicitDefEqProofs[hlenA,o5,o6]
    refine⟨i+1,by omega,by omega,?_⟩
    rw[eT]
    refine hdrop _ _ [_] (by simp) (by simp) (by simp[hsl]) (by simp) (by simp[w1 (i:=i) (by omega)])
  ·simp at h
   have hie:i=l.length:=by omega
   subst hie
   rw[List.take_length] at hst
   rw[hst]
   simp-implicitDefEqProofs[]
end Go.Proofs.YtiojgfhdcpppcaaGreatDoor
namespace Go.Proofs.YtiojgfhdcpppcaaGreatDoor
open Go Go.Aw
set_option maxRecDepth 100000
set_option maxHeartbeats 4000000
def K_impl_CheckProgram:AK:= .seq (.reg [oJ 1 (.box 1 (.t 0)),oK 2 0]) (.seq (.seq (.reg [oJ 11 (.ld (some 1) (.t 1)),oJ 12 (.call dt [(.t 11)]),oJ 13 (.not (.t 12))]) (.cond (.t 13) (.seq (.reg [oK 2 1]) (.ret)) (.skip))) (.seq (.reg [oJ 14 (.ld (some 1) (.t 1)),oJ 15 (.bld [.nils,(.p (.int .i64 0)),(.p (.int .i64 0))] [(0,1,(.t 14))]),oJ 16 (.box 3 (.t 15)),oM 3 16]) (.seq (.seq (.reg [oF 17 0 1,oL 18 17,oJ 19 (.len false (.t 18)),oK 20 0]) (.blk 0 (.loop (.seq (.reg [oJ 21 (.bin .lss (.t 20) (.t 19))]) (.seq (.cond (.t 21) (.skip) (.exit 0)) (.seq (.blk 1 (.seq (.reg [oM 22 20,oJ 23 (.idxS 3 (.t 18) (.t 20)),oJ 24 (.ld (some 3) (.t 23)),oJ 5 (.alloc [(.p (.str [])),.nils,.nils]),oM 4 22,⟨none,none,.st 3 (.t 5) (.t 24)⟩]) (.seq (.reg [oM 25 3,oM 26 4,oN 27 25,oF 28 1 27,oS 28 26]) (.cut (.seq (.reg [oJ 29 (.ld (some 1) (.t 1)),oF 30 0 5,oL 31 30,oJ 32 (.call ik [(.t 29),(.t 31)]),oM 33 4,oJ 34 (.bin .lss (.t 32) (.t 33))]) (.cond (.t 34) (.reg [oM 35 3,oJ 36 (.call az [(.t 35),(.c (.p (.int .i64 2)))])]) (.skip))) (.seq (.reg [oJ 37 (.call aJ [(.c .nilp)]),oM 6 37]) (.seq (.seq (.reg [oF 38 1 5,oL 39 38,oJ 40 (.len false (.t 39)),oK 41 0]) (.blk 2 (.loop (.seq (.reg [oJ 42 (.bin .lss (.t 41) (.t 40))]) (.seq (.cond (.t 42) (.skip) (.exit 2)) (.seq (.blk 3 (.seq (.reg [oJ 43 (.idxS 1 (.t 39) (.t 41)),oL 44 43,oM 8 44]) (.seq (.seq (.reg [oM 46 6,oN 47 46,oF 48 0 47,oL 49 48,oM 50 8,oJ 51 (.lk 1 (.p (.int .i64 0)) true (.t 49) (.t 50)),oM 45 51,oJ 52 (.ext 0 (.t 45)),oJ 53 (.ext 1 (.t 45)),oM 9 52,oM 10 53]) (.seq (.reg [oM 54 10]) (.cond (.t 54) (.reg [oM 55 3,oJ 56 (.call az [(.t 55),(.c (.p (.int .i64 2)))])]) (.skip)))) (.reg [oM 57 6,oN 58 57,oF 59 0 58,oL 60 59,oM 61 8,⟨none,none,.mup 1 (.t 60) (.t 61) (.c (.p (.int .i64 0)))⟩])))) (.reg [oJ 62 (.bin .add (.t 41) (.c (.p (.int .i64 1)))),oM 41 62]))))))) (.reg [oM 63 3,oF 64 2 5,oL 65 64,oM 66 6,oJ 67 (.call aV [(.t 63),(.t 65),(.t 66)])]))))))) (.reg [oJ 68 (.bin .add (.t 20) (.c (.p (.int .i64 1)))),oM 20 68]))))))) (.seq (.reg [oM 69 3,oN 70 69,oF 71 2 70,oL 72 71,oM 2 72]) (.ret)))))
theorem nU:K_impl_CheckProgram.whole=F_impl_CheckProgram.ak:=rfl
theorem uJ(fns:List Fd):∀(a b:List Fd) (k:Nat) (c:Int),jr fns k (a++b) c=jr fns (k+a.length) b (jr fns k a c)
 |[],b,k,c=>rfl
 |f::r,b,k,c=>by rw[List.cons_append,jr,jr,uJ fns r];congr 1;simp only[List.length_cons];omega
theorem yZ{fns l:List Fd}{i:Nat}{c:Int}(h:i<l.length):jr fns 0 (l.take (i+1)) c=icF fns i l[i] (jr fns 0 (l.take i) c):=by
 rw[an h,uJ,List.length_take,Nat.min_eq_left (Nat.le_of_lt h),Nat.zero_add];rfl
theorem Ci(a b:List (List UInt8))(m:Scp)(c:Int):kC (a++b) m c=kC b (kC a m c).1 (kC a m c).2:=by simp[kC]
theorem Bs{l:List (List UInt8)}{i:Nat}{m:Scp}{c:Int}(h:i<l.length):kC (l.take (i+1)) m c=(eK (kC (l.take i) m c).1 l[i] 0,if(gS (kC (l.take i) m c).1 l[i]).isSome then fl (kC (l.take i) m c).2 2 else(kC (l.take i) m c).2):=by
 rw[an h,Ci];rfl
variable (G:aG) (hK:G gJ=some fY) (hS:G dN=some [.tbl opK opV])
include hK hS
theorem to(l:List Fd)(hl:aQ l≤1073741824):VF Tryz.prog G eU [.agg [.p (fdL l)]] (.p (.int .i64 (dI l))):=by
 have hll:=dd l
 have hfl:∀l,fdL l= .lst 3 (l.map Fd.cs):=fun _=>rfl
 rw[yc]
 refine AC.goK nQ nU ?_
 simp-implicitDefEqProofs[K_impl_CheckProgram,F_impl_CheckProgram]
 refine(sk G hK hS l hl).use ?_
 by_cases hv:bu l=true
 case neg=>
  have hv':bu l=false:=by simpa using hv
  simp-implicitDefEqProofs[hv']
 rw[if_pos hv]
 simp-implicitDefEqProofs[hv,hfl]
 refine aR (fun i:Nat=>al 73 [(1,.ptr 0 1 0 0),(3,.ptr 1 3 0 0),(18,.p (fdL l)),(19,.p (.int .i64 l.length)),(20,.p (.int .i64 i))])
  (fun i=>[.row 1 [[.p (fdL l)]],cO l (i-1) (jr l 0 (l.take i) 0)]) (fun i=>i≤l.length) (fun i=>l.length-i) 0 (by simp) ?_ ?_
 ·refine af (h:=[.row 1 [[.p (fdL l)]],cO l 0 0]) (by simp) (by simp[okO,below,cO]) (by simp[below,hfl])
 intro i hi
 have hbo:okO 0 (.row 1 [[.p (fdL l)]]):=by simp[okO]
 simp-implicitDefEqProofs[hfl]
 refine bf (fun h=>?_) (fun h=>?_)
 ·simp at h
  have hg:=List.getElem?_eq_getElem h
  have hks:=cP (List.getElem_mem h)
  have eT:=yZ (fns:=l) (c:=0) h
  obtain⟨j,ej,ejl⟩:=uI hg
  generalize l[i]=f at*
  have hcs:f.cs=[.str f.name,aq f.params,smL f.body]:=rfl
  have hfz:f.sz=1+f.name.length+(f.params.length+(f.params.map List.length).sum)+ay f.body:=rfl
  have hst:aq f.params= .lst 1 (f.params.map fun w=>[.str w]):=rfl
  generalize jr l 0 (l.take i) 0=c0 at eT⊢
  simp-implicitDefEqProofs[hg,hcs,cO]
  have hic:icF l i f c0=(gw l i f.body (kC f.params [] (if j<i then fl c0 2 else c0)).1 [] (kC f.params [] (if j<i then fl c0 2 else c0)).2).2:=by
   rw[icF,ej];simp
  rw[hic] at eT
  clear hic
  refine kf (al 73 [(1,.ptr 0 1 0 0),(3,.ptr 1 3 0 0),(4,.p (.int .i64 i)),(5,.ptr 2 3 0 0),(18,.p (fdL l)),(19,.p (.int .i64 l.length)),(20,.p (.int .i64 i))])
   [.row 1 [[.p (fdL l)]],cO l i (if j<i then fl c0 2 else c0),.row 3 [[.p (.str f.name),.p (aq f.params),.p (smL f.body)]]] ?_ ?_
  ·simp-implicitDefEqProofs[]
   refine(Dw G l f.name (by omega)).use ?_
   rw[ej]
   by_cases hj:j<i
   ·have hj':(j:Int)<(i:Int):=by omega
    rw[if_pos hj]
    simp-implicitDefEqProofs[ixI,hj']
    refine(vv G (.row 1 [[.p (fdL l)]]) l i c0 2 [.row 3 [[.p (.str f.name),.p (aq f.params),.p (smL f.body)]]]).mono ?_
    rintro r h ⟨rfl,rfl⟩
    simp-implicitDefEqProofs[aa]
    exact af (by simp) (by simp[okO,below,cO]) (by simp[below,hfl])
   ·have hj':¬(j:Int)<(i:Int):=by omega
    rw[if_neg hj]
    simp-implicitDefEqProofs[ixI,hj']
    exact af (h:=[.row 1 [[.p (fdL l)]],cO l i c0,.row 3 [[.p (.str f.name),.p (aq f.params),.p (smL f.body)]]]) (by simp) (by simp[okO,below,cO]) (by simp[below,hfl])
  generalize (if j<i then fl c0 2 else c0)=c1 at eT⊢
  have hCH:∀(c:Int) (m:Scp),CH (.row 1 [[.p (fdL l)]]) l i c [⟨[.row 3 [[.p (.str f.name),.p (aq f.params),.p (smL f.body)]]],m⟩]=[.row 1 [[.p (fdL l)]],cO l i c,.row 3 [[.p (.str f.name),.p (aq f.params),.p (smL f.body)]],.mp (mpE m),.row 2 [[.mp 3,.nilp]]]:=fun _ _=>rfl
  simp-implicitDefEqProofs[]
  refine(mg G .nilp (.inl rfl) _).mono ?_
  rintro r h ⟨rfl,rfl⟩
  simp-implicitDefEqProofs[aa,hst]
  refine aR (fun q:Nat=>al 73 [(1,.ptr 0 1 0 0),(3,.ptr 1 3 0 0),(4,.p (.int .i64 i)),(5,.ptr 2 3 0 0),(6,.ptr 4 2 0 0),(18,.p (fdL l)),(19,.p (.int .i64 l.length)),(20,.p (.int .i64 i)),(39,.p (aq f.params)),(40,.p (.int .i64 f.params.length)),(41,.p (.int .i64 q))])
   (fun q=>[.row 1 [[.p (fdL l)]],cO l i (kC (f.params.take q) [] c1).2,.row 3 [[.p (.str f.name),.p (aq f.params),.p (smL f.body)]],.mp (mpE (kC (f.params.take q) [] c1).1),.row 2 [[.mp 3,.nilp]]])
   (fun q=>q≤f.params.length) (fun q=>f.params.length-q) 0 (by simp) ?_ ?_
  ·exact af (h:=[.row 1 [[.p (fdL l)]],cO l i c1,.row 3 [[.p (.str f.name),.p (aq f.params),.p (smL f.body)]],.mp [],.row 2 [[.mp 3,.nilp]]]) (by simp) (by simp[okO,below,cO]) (by simp[below,hfl,hst])
  intro q hq
  have eP:=fun h=>Bs (l:=f.params) (i:=q) (m:=[]) (c:=c1) h
  generalize hP:kC (f.params.take q) [] c1=st at eP⊢
  obtain⟨mq,cq⟩:=st
  simp only at eP⊢
  simp-implicitDefEqProofs[hst]
  refine bf (fun hc=>?_) (fun hc=>?_)
  ·simp at hc
   have hga:=List.getElem?_eq_getElem hc
   have eP:=eP hc
   generalize f.params[q]=nme at hga eP
   have hmg:=qg nme mq
   have hms:iR (.str nme) (.p (.int .i64 0)) (mpE mq)=some (mpE (eK mq nme 0)):=by simpa using pW nme 0 mq
   have fin:∀(r1:List (Nat × AV)) (c2:Int),Aw.look r1 1= .ptr 0 1 0 0→Aw.look r1 3= .ptr 1 3 0 0→Aw.look r1 4= .p (.int .i64 i)→Aw.look r1 5= .ptr 2 3 0 0→Aw.look r1 6= .ptr 4 2 0 0→Aw.look r1 18= .p (fdL l)→Aw.look r1 19= .p (.int .i64 l.length)→Aw.look r1 20= .p (.int .i64 i)→Aw.look r1 39= .p (aq f.params)→Aw.look r1 40= .p (.int .i64 f.params.length)→Aw.look r1 41= .p (.int .i64 ((q:Int)+1))→
    Wk 0 (al 73 r1) [.row 1 [[.p (fdL l)]],cO l i c2,.row 3 [[.p (.str f.name),.p (aq f.params),.p (smL f.body)]],.mp (mpE (eK mq nme 0)),.row 2 [[.mp 3,.nilp]]]
     (al 73 [(1,.ptr 0 1 0 0),(3,.ptr 1 3 0 0),(4,.p (.int .i64 i)),(5,.ptr 2 3 0 0),(6,.ptr 4 2 0 0),(18,.p (fdL l)),(19,.p (.int .i64 l.length)),(20,.p (.int .i64 i)),(39,.p (aq f.params)),(40,.p (.int .i64 f.params.length)),(41,.p (.int .i64 ((q:Int)+1)))])
     [.row 1 [[.p (fdL l)]],cO l i c2,.row 3 [[.p (.str f.name),.p (aq f.params),.p (smL f.body)]],.mp (mpE (eK mq nme 0)),.row 2 [[.mp 3,.nilp]]]:=by
    intro r1 c2 e1 e3 e4 e5 e6 e18 e19 e20 e39 e40 e41
    refine af (by simp) (ae (by simp[okO]) (ae (by simp[okO,cO]) (ae (by simp[okO]) (ae (tP _ _) (ae (by simp[okO,below]) dg))))) ?_
    simp[below,e1,e3,e4,e5,e6,e18,e19,e20,e39,e40,e41]
   cases hh:gS mq nme with
   |none=>
    rw[hh] at hmg eP
    simp-implicitDefEqProofs[hga,hmg,hms]
    refine⟨q+1,by omega,by omega,?_⟩
    rw[eP]
    exact fin _ _ (by simp) (by simp) (by simp) (by simp) (by simp) (by simp[hfl]) (by simp) (by simp) (by simp[hst]) (by simp) (by simp[w1 (i:=q) (by omega)])
   |some n=>
    rw[hh] at hmg eP
    simp-implicitDefEqProofs[hga,hmg,hms]
    refine(vv G (.row 1 [[.p (fdL l)]]) l i cq 2 _).mono ?_
    rintro r h ⟨rfl,rfl⟩
    simp-implicitDefEqProofs[aa,hms]
    refine⟨q+1,by omega,by omega,?_⟩
    rw[eP]
    exact fin _ _ (by simp) (by simp) (by simp) (by simp) (by simp) (by simp[hfl]) (by simp) (by simp) (by simp[hst]) (by simp) (by simp[w1 (i:=q) (by omega)])
  ·simp at hc
   have hqe:q=f.params.length:=by omega
   subst hqe
   rw[List.take_length] at hP
   rw[hP] at eT
   simp only at eT
   have hB:=EO G (.row 1 [[.p (fdL l)]]) (fns:=l) (k:=i) (by omega) (by omega) hbo (ay f.body+1) f.body (by omega) (by omega) [.row 3 [[.p (.str f.name),.p (aq f.params),.p (smL f.body)]]] mq [] cq ⟨by simp[okO],trivial⟩
   rw[hCH] at hB
   simp-implicitDefEqProofs[]
   refine hB.mono ?_
   rintro r h ⟨rfl,rfl⟩
   simp-implicitDefEqProofs[aa]
   refine⟨i+1,by omega,by omega,?_⟩
   rw[eT]
   refine gf (m:=2) (by omega) (dw rfl rfl (by simp[okO,below,cO])) (by simp[below,hfl,w1 (i:=i) (by omega)])
 ·simp at h
  have hie:i=l.length:=by omega
  subst hie
  rw[List.take_length]
  simp-implicitDefEqProofs[cO]
end Go.Proofs.YtiojgfhdcpppcaaGreatDoor
namespace Go.Proofs.YtiojgfhdcpppcaaGreatDoor
open Go Go.Aw
set_option maxRecDepth 100000
set_option maxHeartbeats 4000000
theorem Fd.cs_eq'(f:Fd):f.cs=[.str f.name,aq f.params,smL f.body]:=rfl
variable (G:aG)
end Go.Proofs.YtiojgfhdcpppcaaGreatDoor
namespace Go.Proofs.YtiojgfhdcpppcaaGreatDoor
open Go Go.Aw
set_option maxRecDepth 100000
set_option maxHeartbeats 4000000
def Byt(l:List Int):Prop:=∀n∈l,0≤n∧n≤255
def rdO(b:List Int)(p:Nat):AO:= .row 2 [[.p (qU b),.p (.int .i64 p)]]
theorem Bm{a b:Int}(ha:0≤a)(ha2:a<4611686018427387904)(hb:0≤b)(hb2:b<4611686018427387904):∃n:Nat,IntKind.i64.wrap ((BitVec.ofInt IntKind.i64.bits a^^^BitVec.ofInt IntKind.i64.bits b).toNat:Int)=n:=by
 refine⟨(BitVec.ofInt IntKind.i64.bits a^^^BitVec.ofInt IntKind.i64.bits b).toNat,?_⟩
 obtain⟨x,rfl⟩:∃x:Nat,a=x:=⟨a.toNat,by omega⟩
 obtain⟨y,rfl⟩:∃y:Nat,b=y:=⟨b.toNat,by omega⟩
 have h1:(BitVec.ofInt 64 (x:Int)).toNat=x:=by simp;omega
 have h2:(BitVec.ofInt 64 (y:Int)).toNat=y:=by simp;omega
 have h3:(BitVec.ofInt 64 (x:Int)^^^BitVec.ofInt 64 (y:Int)).toNat<2^63:=by
  rw[BitVec.toNat_xor,h1,h2]
  exact Nat.xor_lt_two_pow (by omega) (by omega)
 have h4:(BitVec.ofInt IntKind.i64.bits (x:Int)^^^BitVec.ofInt IntKind.i64.bits (y:Int)).toNat<2^63:=h3
 exact ah (by omega) (by omega)
theorem zE{a:Nat}{n:Int}(hn:1≤n):∃k:Nat,((a:Int).tmod n)=k∧(k:Int)<n:=by
 obtain⟨m,rfl⟩:∃m:Nat,n=m:=⟨n.toNat,by omega⟩
 refine⟨a%m,?_,?_⟩
 ·rfl
 ·have:a%m<m:=Nat.mod_lt _ (by omega)
  omega
variable (G:aG)
theorem GK(l:List Int):AC Tryz.prog G jK [.p (qU l)] [] fun x h=>x= .ret (.ptr 0 2 0 0)∧h=[rdO (l.take 2000) 0]:=by
 refine AC.go tr ?_
 have hbl:qU l= .lst 1 (l.map fun n=>[.int .u8 n]):=rfl
 simp-implicitDefEqProofs[mA,hbl]
 refine bf (fun h=>?_) (fun h=>?_)
 ·simp at h
  have:2000≤l.length:=by omega
  simp-implicitDefEqProofs[this,rdO,qU,List.map_take]
 ·simp at h
  have:l.take 2000=l:=List.take_of_length_le (by omega)
  simp-implicitDefEqProofs[rdO,this,qU]
theorem DD(b:List Int)(hb:Byt b)(hl:b.length≤2000)(p:Nat)(hp:p≤1099511627776)(n:Int):AC Tryz.prog G ab [.ptr 0 2 0 0,.p (.int .i64 n)] [rdO b p] fun x h=>∃k:Nat,x= .ret (.p (.int .i64 k))∧h=[rdO b (p+1)]∧((k:Int)<n∨k=0):=by
 refine AC.go pF ?_
 have hbl:qU b= .lst 1 (b.map fun n=>[.int .u8 n]):=rfl
 have hw:IntKind.i64.wrap ((p:Int)+1)=((p+1:Nat):Int):=w1 (by omega)
 by_cases hn:n<1
 ·simp-implicitDefEqProofs[ed,rdO,hbl,hw,hn]
  exact⟨0,rfl,.inr rfl⟩
 by_cases hbn:b=[]
 ·subst hbn
  have hb0:qU []= .lst 1 []:=rfl
  simp-implicitDefEqProofs[ed,rdO,hb0,hw,hn]
  exact⟨0,rfl,.inr rfl⟩
 have hpos:0<b.length:=List.length_pos_iff.2 hbn
 have hlb:¬b.length=0:=by omega
 have hn0:¬n=0:=by omega
 have hw2:IntKind.i64.wrap (p:Int)=(p:Int):=ah (by omega) (by omega)
 have at_:∀q:Nat,∃c:Int,b[q%b.length]?=some c∧0≤c∧c≤255:=fun q=>by
  have h:=Nat.mod_lt q hpos
  exact⟨_,List.getElem?_eq_getElem h,hb _ (List.getElem_mem h)⟩
 simp-implicitDefEqProofs[ed,rdO,hbl,hw,hn,hbn,hw2]
 refine bf (fun h1=>?_) (fun h1=>?_)
 ·simp at h1
  obtain⟨c,e1,e2,e3⟩:=at_ p
  rw[Nat.mod_eq_of_lt h1] at e1
  obtain⟨d,rfl⟩:∃d:Nat,c=d:=⟨c.toNat,by omega⟩
  obtain⟨k,q1,q2⟩:=zE (a:=d) (n:=n) (by omega)
  have hw3:IntKind.i64.wrap (d:Int)=d:=ah (by omega) (by omega)
  simp-implicitDefEqProofs[e1,hw3,hn0,q1]
  exact⟨k,rfl,.inl q2⟩
 ·simp at h1
  obtain⟨c1,e1,e2,e3⟩:=at_ p
  obtain⟨c2,f1,f2,f3⟩:=at_ (p*7+3)
  have hq:p/b.length≤p:=Nat.div_le_self _ _
  have ht1:(p:Int).tmod (b.length:Int)=((p%b.length:Nat):Int):=rfl
  have ht2:((p:Int)*7+3).tmod (b.length:Int)=(((p*7+3)%b.length:Nat):Int):=rfl
  have ht3:(p:Int).tdiv (b.length:Int)=((p/b.length:Nat):Int):=rfl
  generalize p/b.length=q at hq ht3
  generalize p%b.length=r1 at e1 ht1
  generalize (p*7+3)%b.length=r2 at f1 ht2
  obtain⟨x1,rfl⟩:∃d:Nat,c1=d:=⟨c1.toNat,by omega⟩
  obtain⟨x2,rfl⟩:∃d:Nat,c2=d:=⟨c2.toNat,by omega⟩
  obtain⟨m,hx⟩:=Bm (a:=x1*131+x2*1117+p*29+q*53) (b:=(x1*131+x2*1117+p*29+q*53)/64) (by omega) (by omega) (by omega) (by omega)
  obtain⟨k,q1,q2⟩:=zE (a:=m) (n:=n) (by omega)
  have ht4:((x1:Int)*131+x2*1117+p*29+q*53).tdiv 64=((x1:Int)*131+x2*1117+p*29+q*53)/64:=Int.tdiv_eq_ediv_of_nonneg (by omega)
  have w1:IntKind.i64.wrap ((p:Int)*7)=(p:Int)*7:=ah (by omega) (by omega)
  have w2:IntKind.i64.wrap ((p:Int)*7+3)=(p:Int)*7+3:=ah (by omega) (by omega)
  have w3:IntKind.i64.wrap ((p:Int)*29)=(p:Int)*29:=ah (by omega) (by omega)
  have w4:IntKind.i64.wrap (x1:Int)=x1:=ah (by omega) (by omega)
  have w5:IntKind.i64.wrap (x2:Int)=x2:=ah (by omega) (by omega)
  have w6:IntKind.i64.wrap ((x1:Int)*131)=(x1:Int)*131:=ah (by omega) (by omega)
  have w7:IntKind.i64.wrap ((x2:Int)*1117)=(x2:Int)*1117:=ah (by omega) (by omega)
  have w8:IntKind.i64.wrap ((x1:Int)*131+x2*1117)=(x1:Int)*131+x2*1117:=ah (by omega) (by omega)
  have w9:IntKind.i64.wrap ((x1:Int)*131+x2*1117+p*29)=(x1:Int)*131+x2*1117+p*29:=ah (by omega) (by omega)
  have w10:IntKind.i64.wrap (q:Int)=q:=ah (by omega) (by omega)
  have w11:IntKind.i64.wrap ((q:Int)*53)=(q:Int)*53:=ah (by omega) (by omega)
  have w12:IntKind.i64.wrap ((x1:Int)*131+x2*1117+p*29+q*53)=(x1:Int)*131+x2*1117+p*29+q*53:=ah (by omega) (by omega)
  have w13:IntKind.i64.wrap (((x1:Int)*131+x2*1117+p*29+q*53)/64)=((x1:Int)*131+x2*1117+p*29+q*53)/64:=ah (by omega) (by omega)
  simp-implicitDefEqProofs[hlb,ht1,ht2,ht3,e1,f1,w1,w2,w3,w4,w5,w6,w7,w8,w9,w10,w11,w12,w13,ht4,hx,hn0,q1]
  simp-implicitDefEqProofs[] at hx
  rw[hx]
  exact⟨k,q1,.inl q2⟩
theorem bt(b:List Int)(p n:Nat):okO n (rdO b p):=by simp[okO,rdO]
theorem be(b:List Int)(hb:Byt b)(hl:b.length≤2000)(p:Nat)(hp:p≤1099511627776)(n:Int)(rest:List AO):AC Tryz.prog G ab [.ptr 0 2 0 0,.p (.int .i64 n)] (rdO b p::rest) fun x h=>∃k:Nat,x= .ret (.p (.int .i64 k))∧h=rdO b (p+1)::rest∧((k:Int)<n∨k=0):=by
 refine((DD G b hb hl p hp n).pre rest (by simp[below]) (fun o ho=>by rw[List.mem_singleton.1 ho];exact bt _ _ _) ?_).mono ?_
 ·rintro x h ⟨k,_,rfl,_⟩;rfl
 ·rintro x h ⟨h1,⟨k,e1,rfl,e3⟩,rfl⟩
  exact⟨k,e1,rfl,e3⟩
theorem Gs{f:FuncId}{args:List AV}{b:List Int}{p:Nat}{o:AO}{R:AV→Nat→Prop}(H:AC Tryz.prog G f (.ptr 0 2 0 0::args) [rdO b p,o] fun x h=>∃v q,x= .ret (.p v)∧h=[rdO b q,o]∧R (.p v) q)(ho:okO 0 o)
 {h:List AO}{k:Nat}{args':List AV}(hk:k≠0)(h0:h[0]?=some (rdO b p))(h1:h[k]?=some o)(hT:TW [0,k] args' args):AC Tryz.prog G f (.ptr 0 2 0 0::args') h fun x h'=>∃v q,x= .ret (.p v)∧h'=h.set 0 (rdO b q)∧R (.p v) q:=by
 have nd:[0,k].Nodup:=by simp;omega
 refine(H.frame (args:= .ptr 0 2 0 0::args') [0,k] nd (by rw[sb];exact⟨.inr ⟨by simp[below],rfl⟩,hT⟩) (dc h0 (bt _ _ _) (dc h1 ho cG))).mono ?_
 rintro x h' ⟨x0,h2,⟨v,q,rfl,rfl,r⟩,_,rfl,rfl⟩
 refine⟨v,q,by simp[tD,ren],?_,r⟩
 have e1:∀σ,ef σ (rdO b q)=rdO b q:=fun σ=>mD (n:=0) (fun i hi=>by omega) _ (bt _ _ _)
 have e2:∀σ,ef σ o=o:=fun σ=>mD (n:=0) (fun i hi=>by omega) _ ho
 simp only[List.take,List.length_cons,List.length_nil,List.map_cons,List.map_nil,e1,e2,mrg,List.drop,List.append_nil]
 refine List.ext_getElem? fun i=>?_
 rw[List.getElem?_set]
 split
 ·rename_i e;subst e
  rw[List.getElem?_set_ne (Ne.symm hk)]
  split
  ·exact h1.symm
  ·rename_i hl
   have:=(List.getElem?_eq_some_iff.1 h1).1
   simp at hl;omega
 ·rfl
theorem Hp(b:List Int)(hb:Byt b)(hl:b.length≤2000)(p:Nat)(hp:p≤1099511627776)(l:List Int)(hne:l≠[])(hll:l.length≤1099511627776):AC Tryz.prog G am [.ptr 0 2 0 0,.sl 1 1 0 l.length] [rdO b p,xz l] fun x h=>∃v q,x= .ret (.p v)∧h=[rdO b q,xz l]∧(∃n,v= .int .i64 n∧n∈l)∧q=p+1:=by
 refine AC.go kX ?_
 have hpos:0<l.length:=List.length_pos_iff.2 hne
 simp-implicitDefEqProofs[gR]
 refine(be G b hb hl p hp l.length [xz l]).mono ?_
 rintro r h ⟨k,rfl,rfl,hk⟩
 have hkl:k<l.length:=by omega
 have hg:=List.getElem?_eq_getElem hkl
 have hn:xz l= .row 1 (l.map fun n=>[.p (.int .i64 n)]):=rfl
 simp-implicitDefEqProofs[aa,hkl,hn,hg]
theorem jZ{b:List Int}(hb:Byt b)(hl:b.length≤2000){p:Nat}(hp:p≤1099511627776)(l:List Int){h:List AO}{k:Nat}(hne:l≠[])(hll:l.length≤1099511627776)(hk:k≠0)(h0:h[0]?=some (rdO b p))(h1:h[k]?=some (xz l)):
 AC Tryz.prog G am [.ptr 0 2 0 0,.sl k 1 0 l.length] h fun x h'=>∃n,n∈l∧x= .ret (.p (.int .i64 n))∧h'=h.set 0 (rdO b (p+1)):=by
 refine(Gs G (args:=[.sl 1 1 0 l.length]) (R:=fun v q=>(∃n,v= .p (.int .i64 n)∧n∈l)∧q=p+1) ((Hp G b hb hl p hp l hne hll).mono ?_) (by simp[okO,xz]) (args':=[.sl k 1 0 l.length]) hk h0 h1 (by simp[below,ren])).mono ?_
 ·rintro x h ⟨v,q,e1,e2,⟨n,rfl,e3⟩,e4⟩
  exact⟨_,q,e1,e2,⟨n,rfl,e3⟩,e4⟩
 ·rintro x h' ⟨v,q,e1,e2,⟨n,e3,e4⟩,e5⟩
  cases e3;subst e5
  exact⟨n,e4,e1,e2⟩
theorem IS(b:List Int)(hb:Byt b)(hl:b.length≤2000)(p:Nat)(hp:p≤1099511627776)(l:List (List UInt8))(hne:l≠[])(hll:l.length≤1099511627776):AC Tryz.prog G aC [.ptr 0 2 0 0,.sl 1 1 0 l.length] [rdO b p,fm l] fun x h=>∃v q,x= .ret (.p v)∧h=[rdO b q,fm l]∧(∃s,v= .str s∧s∈l)∧q=p+1:=by
 refine AC.go lN ?_
 have hpos:0<l.length:=List.length_pos_iff.2 hne
 simp-implicitDefEqProofs[iH]
 refine(be G b hb hl p hp l.length [fm l]).mono ?_
 rintro r h ⟨k,rfl,rfl,hk⟩
 have hkl:k<l.length:=by omega
 have hg:=List.getElem?_eq_getElem hkl
 have hn:fm l= .row 1 (l.map fun n=>[.p (.str n)]):=rfl
 simp-implicitDefEqProofs[aa,hkl,hn,hg]
theorem wL{b:List Int}(hb:Byt b)(hl:b.length≤2000){p:Nat}(hp:p≤1099511627776)(l:List (List UInt8)){h:List AO}{k:Nat}(hne:l≠[])(hll:l.length≤1099511627776)(hk:k≠0)(h0:h[0]?=some (rdO b p))(h1:h[k]?=some (fm l)):
 AC Tryz.prog G aC [.ptr 0 2 0 0,.sl k 1 0 l.length] h fun x h'=>∃s,s∈l∧x= .ret (.p (.str s))∧h'=h.set 0 (rdO b (p+1)):=by
 refine(Gs G (args:=[.sl 1 1 0 l.length]) (R:=fun v q=>(∃n,v= .p (.str n)∧n∈l)∧q=p+1) ((IS G b hb hl p hp l hne hll).mono ?_) (by simp[okO,fm]) (args':=[.sl k 1 0 l.length]) hk h0 h1 (by simp[below,ren])).mono ?_
 ·rintro x h ⟨v,q,e1,e2,⟨n,rfl,e3⟩,e4⟩
  exact⟨_,q,e1,e2,⟨n,rfl,e3⟩,e4⟩
 ·rintro x h' ⟨v,q,e1,e2,⟨n,e3,e4⟩,e5⟩
  cases e3;subst e5
  exact⟨n,e4,e1,e2⟩
theorem zy{b:List Int}(hb:Byt b)(hl:b.length≤2000){p:Nat}(hp:p≤1099511627776)(l:List (List UInt8))(hne:l≠[])(hll:l.length≤1099511627776)(rest:List AO):AC Tryz.prog G aC [.ptr 0 2 0 0,.p (aq l)] (rdO b p::rest) fun x h=>∃s,s∈l∧x= .ret (.p (.str s))∧h=rdO b (p+1)::rest:=by
 have key:AC Tryz.prog G aC [.ptr 0 2 0 0,.p (aq l)] [rdO b p] fun x h=>∃s,s∈l∧x= .ret (.p (.str s))∧h=[rdO b (p+1)]:=by
  refine AC.go lN ?_
  have hpos:0<l.length:=List.length_pos_iff.2 hne
  have hsl:aq l= .lst 1 (l.map fun w=>[.str w]):=rfl
  simp-implicitDefEqProofs[iH,hsl]
  refine(be G b hb hl p hp l.length []).mono ?_
  rintro r h ⟨k,rfl,rfl,hk⟩
  have hkl:k<l.length:=by omega
  have hg:=List.getElem?_eq_getElem hkl
  simp-implicitDefEqProofs[aa,hg]
 refine(key.pre rest (by simp[below]) (fun o ho=>by rw[List.mem_singleton.1 ho];exact bt _ _ _) ?_).mono ?_
 ·rintro x h ⟨k,_,_,rfl⟩;rfl
 ·rintro x h ⟨h1,⟨s,e1,e2,rfl⟩,rfl⟩
  exact⟨s,e1,e2,rfl⟩
def DP(b:List Int)(Q:AV→Nat→Prop)(x:ARes)(h:List AO):Prop:=∃v rest q v1,x= .ret v∧h=rdO b q::rest∧Fzs (.dead::rest) 1 [v] [v1]∧Q v1 q
theorem lH{f:FuncId}{args:List AV}{b:List Int}{p:Nat}{Q:AV→Nat→Prop}(H:AC Tryz.prog G f args [rdO b p] (DP b Q)):AC Tryz.prog G f args [rdO b p] fun x h=>∃v q,x= .ret v∧h=[rdO b q]∧Q v q:=by
 refine H.frz 1 (Nat.le_refl _) (fun t v h ⟨_,_,_,_,e,_⟩=>by cases e) ?_
 rintro v h ⟨v0,rest,q,v1,e,rfl,hf,r⟩
 cases e
 exact⟨v1,[rdO b q],by simp,rfl,hf,.same (bt _ _ _) (.nil _),v1,q,rfl,rfl,r⟩
theorem iL{f:FuncId}{args:List AV}{b:List Int}{p:Nat}{Q:AV→Nat→Prop}(H:AC Tryz.prog G f args [rdO b p] fun x h=>∃v q,x= .ret v∧h=[rdO b q]∧Q v q)(rest:List AO)(ha:ag 1 args):AC Tryz.prog G f args (rdO b p::rest) fun x h=>∃v q,x= .ret v∧h=rdO b q::rest∧Q v q:=by
 refine(H.pre rest ha (fun o ho=>by rw[List.mem_singleton.1 ho];exact bt _ _ _) ?_).mono ?_
 ·rintro x h ⟨k,_,_,rfl,_⟩;rfl
 ·rintro x h ⟨h1,⟨s,q,e1,rfl,e2⟩,rfl⟩
  exact⟨s,q,e1,rfl,e2⟩
end Go.Proofs.YtiojgfhdcpppcaaGreatDoor
namespace Go.Proofs.YtiojgfhdcpppcaaGreatDoor
open Go Go.Aw Go.ChangeShapes Go.WideShapes Go.ChangeAt Go.RowKit
set_option maxRecDepth 100000
abbrev GH:TypeId:=24
abbrev Jz:TypeId:=22
abbrev KL:TypeId:=111
abbrev HK:TypeId:=54
abbrev Jd:TypeId:=9
abbrev FM:TypeId:=109
abbrev HQ:TypeId:=185
abbrev Gd:TypeId:=183
abbrev GJ:TypeId:=225
abbrev Gr:TypeId:=3
abbrev Hy:TypeId:=4
abbrev yu:TypeId:=177
abbrev BO:TypeId:=232
abbrev Gb:TypeId:=233
abbrev Ad:TypeId:=38
abbrev wd:TypeId:=5
theorem Jr:Kids Tryz.prog (· <Tryz.prog.types.size):=kids_rows (by kernel_rfl) (by kernel_rfl)
theorem JI:∀t e,t<Tryz.prog.types.size→Tryz.prog.underlying t=some (.slice e)→0<Tryz.prog.cellsOf e:=slices_full_of Tryz.prog (by kernel_rfl)
def CE:List TypeId:=[GH,Jz,KL,HK,Jd,FM,HQ,Gd,GJ,Gr,Hy,yu,BO]
theorem Co:Plain Tryz.prog CE=true:=by kernel_rfl
theorem KY:ownKnob Tryz.prog.godebug=none:=by kernel_rfl
theorem tG{H:Type}:∀l:List (DataW H),Rows.uptoBulkAll l=(l.map Rows.uptoBulk).sum
 |[]=>by simp[Rows.uptoBulkAll]
 |d::r=>by simp[Rows.uptoBulkAll,tG r]
theorem Fm{H:Type}:BulkOk (Rows.uptoBulk (H:=H)) where
 lit:=fun l=>by cases l<;>simp[Rows.uptoBulk]
 str:=fun s=>by simp[Rows.uptoBulk]
 nil:=by simp[Rows.uptoBulk]
 slice:=fun es sp=>by simp only[Rows.uptoBulk,tG];omega
 agg:=fun ps=>by simp only[Rows.uptoBulk,tG];omega
theorem Dc{t e:TypeId}{vs:List PV}(h:Conf Tryz.prog t vs)(hu:Tryz.prog.underlying t=some (.slice e)):∃es,vs=[.lst (Tryz.prog.cellsOf e) es]∧es.length≤9223372036854775807∧∀x∈es,Conf Tryz.prog e x:=by
 cases h with
 |sl es e' hl hs=>rw[hu] at e';cases e';exact⟨es,rfl,hl,hs⟩
 |bool b e=>rw[e] at hu;cases hu
 |int n e=>rw[e] at hu;cases hu
 |str s e=>rw[e] at hu;cases hu
 |st vs e=>rw[e] at hu;cases hu
 |arr vs e=>rw[e] at hu;cases hu
def G0:aG:=fun g=>if g=gJ then some fY else if g=dN then some [.tbl opK opV] else none
theorem Gz:∀k,gQ Tryz.prog (k+10) yu (Rows.laid_loop_example_wholeway_impl_keys (H:=Unit))=fY:=fun k=>by kernel_rfl
theorem KS{W:World}{laid:List (String × DataW Unit)}(hL:laidMet Tryz.prog laid W)(h1:("loop.example/wholeway/impl.keys",Rows.laid_loop_example_wholeway_impl_keys)∈laid)(h2:("loop.example/wholeway/impl.opSign",Rows.laid_loop_example_wholeway_impl_opSign)∈laid):
 ∀g cs,G0 g=some cs→g<W.heap.size∧∀(j:Nat) (c:PV),cs[j]?=some c→∃v,W.cell? ⟨g,j,none⟩=some v∧PRel W (· <W.heap.size) c v:=by
 intro g cs h
 unfold G0 at h
 split at h
 ·rename_i e;subst e;cases h
  exact BD Co hL (n:= "loop.example/wholeway/impl.keys") (d:=Rows.laid_loop_example_wholeway_impl_keys) (t:=yu) h1 (by kernel_rfl) (by kernel_rfl) (by decide) Gz
 ·split at h
  ·rename_i e;subst e;cases h
   exact Ek Co hL (n:= "loop.example/wholeway/impl.opSign") h2 (t:=Gb) (k:=Gr) (e:=BO) (by kernel_rfl) (by kernel_rfl) (by kernel_rfl) (.inl ⟨.i64,by kernel_rfl⟩) (by decide) (by kernel_rfl) (by kernel_rfl) (fun m=>by kernel_rfl)
  ·cases h
def zJ:List TypeId:=Ad::wd::CE
theorem GP:Plain Tryz.prog zJ=true:=by kernel_rfl
theorem yB{vs:List PV}(h:Conf Tryz.prog Ad vs):∃l:List Int,vs=[qU l]∧l.length≤9223372036854775807∧Byt l:=by
 obtain⟨es,rfl,hl,h4⟩:=Dc h (e:=wd) (by kernel_rfl)
 have hk:∀x∈es,∃n:Int,x=[PV.int .u8 n]∧(Lit.int .u8 n).wf=true:=fun x hx=>DL (h4 x hx) (by kernel_rfl)
 obtain⟨l,rfl⟩:=zL (fun n:Int=>[PV.int .u8 n]) (fun x hx=>by obtain⟨n,e,_⟩:=hk x hx;exact⟨n,e⟩)
 rw[show Tryz.prog.cellsOf wd=1 by kernel_rfl]
 refine⟨l,rfl,by rwa[List.length_map] at hl,fun n hn=>?_⟩
 obtain⟨m,e,hw⟩:=hk [PV.int .u8 n] (List.mem_map.2 ⟨n,hn,rfl⟩)
 cases e
 simp[Lit.wf,IntKind.min,IntKind.max,IntKind.bits,IntKind.signed] at hw
 omega
end Go.Proofs.YtiojgfhdcpppcaaGreatDoor
namespace Go.Proofs.YtiojgfhdcpppcaaGreatDoor
open Go Go.Aw
set_option maxRecDepth 100000
set_option maxHeartbeats 4000000
def K_spec_l4Walk_expr:AK:= .seq (.reg [oJ 3 (.box 4 (.t 1)),oJ 4 (.alloc [(.p (.int .i64 0)),(.p (.int .i64 0)),(.p (.str [])),.nils])]) (.cut (.seq (.reg [oF 8 0 3,oL 9 8,oJ 10 (.bin .eql (.t 9) (.c (.p (.int .i64 2))))]) (.cond (.t 10) (.reg [oM 11 0,oF 12 2 3,oL 13 12,oJ 14 (.call ce [(.t 11),(.t 13)]),oF 15 2 3,oS 15 14]) (.skip))) (.cut (.seq (.reg [oF 16 0 3,oL 17 16,oJ 18 (.bin .eql (.t 17) (.c (.p (.int .i64 13))))]) (.cond (.t 18) (.seq (.reg [oM 19 0,oN 20 19,oF 21 0 20,oF 23 2 3,oJ 22 (.ld (some 1) (.t 21)),oL 24 23,oJ 25 (.call fP [(.t 22),(.t 24)]),oM 5 25]) (.seq (.reg [oM 26 5,oJ 27 (.bin .lss (.t 26) (.c (.p (.int .i64 0)))),oM 28 27,⟨(some 29),some (28,false),.mov (.t 5)⟩,⟨(some 30),some (28,false),.mov (.t 0)⟩,⟨(some 31),some (28,false),.nilck (.t 30)⟩,⟨(some 32),some (28,false),.fldA 1 (.t 31)⟩,⟨(some 33),some (28,false),.ld none (.t 32)⟩,⟨(some 34),some (28,false),.bin .geq (.t 29) (.t 33)⟩,oJ 35 (.pick (.t 28) (.c (.p (.bool true))) (.t 34))]) (.cond (.t 35) (.reg [oM 36 0,oJ 37 (.call aP [(.t 36),(.c (.p (.int .i64 4)))])]) (.seq (.reg [oM 38 0,oN 39 38,oF 40 0 39,oF 41 0 40,oM 43 5,oF 48 3 3,oL 42 41,oJ 44 (.idxS 3 (.t 42) (.t 43)),oF 45 1 44,oL 46 45,oJ 47 (.len false (.t 46)),oL 49 48,oJ 50 (.len false (.t 49)),oJ 51 (.bin .neq (.t 47) (.t 50))]) (.cond (.t 51) (.reg [oM 52 0,oJ 53 (.call aP [(.t 52),(.c (.p (.int .i64 5)))])]) (.skip)))))) (.skip))) (.seq (.reg [oJ 54 (.bsl 4 [(.p (.int .i64 0)),(.p (.int .i64 0)),(.p (.str [])),.nils] 0 []),oM 6 54]) (.seq (.seq (.reg [oK 7 0]) (.blk 0 (.loop (.seq (.seq (.reg [oM 55 7,oF 56 3 3,oL 57 56,oJ 58 (.len false (.t 57)),oJ 59 (.bin .lss (.t 55) (.t 58))]) (.cond (.t 59) (.skip) (.exit 0))) (.seq (.blk 1 (.reg [oM 62 6,oM 63 0,oF 64 3 3,oL 65 64,oM 66 7,oJ 67 (.idxS 4 (.t 65) (.t 66)),oJ 68 (.ld (some 4) (.t 67)),oJ 69 (.call bB [(.t 63),(.t 68)]),oJ 70 (.bsl 4 [(.p (.int .i64 0)),(.p (.int .i64 0)),(.p (.str [])),.nils] 1 [(0,4,(.t 69))]),oJ 71 (.app 4 56 (.t 62) (.t 70)),oM 6 71])) (.reg [oM 60 7,oJ 61 (.bin .add (.t 60) (.c (.p (.int .i64 1)))),oM 7 61])))))) (.seq (.reg [oM 72 6,oF 73 3 3,oS 73 72]) (.seq (.reg [oJ 74 (.ld (some 4) (.t 3)),⟨none,none,.st 4 (.t 4) (.t 74)⟩]) (.ret)))))))
theorem pg:K_spec_l4Walk_expr.whole=F_spec_l4Walk_expr.ak:=rfl
variable (G:aG)
theorem wK{f:FuncId}{args:List AV}{nf:Bool}{fns:List Fd}{k:Nat}{w w':WS}{v:AV}(H:AC Tryz.prog G f args (HWk nf fns k w) fun x h=>x= .ret v∧h=HWk nf fns k w')(rest:List AO)(ha:ag 2 args):
 AC Tryz.prog G f args (wO 1 nf fns k w::roC nf w.vs::rest) fun x h=>x= .ret v∧h=wO 1 nf fns k w'::roC nf w'.vs::rest:=by
 refine(AC.pre H rest ha (tf _ _ _ _) ?_).mono ?_
 ·rintro x h ⟨_,rfl⟩;rfl
 ·rintro x h ⟨h1,⟨rfl,rfl⟩,rfl⟩
  exact⟨rfl,rfl⟩
theorem qk{n id:Nat}(hn:id<n){nf nf':Bool}{fns:List Fd}{k:Nat}{w:WS}{vs:List LV}{l:List AO}(r:∀o∈l,okO n o):∀o∈wO id nf fns k w::roC nf' vs::l,okO n o:=ae (ro hn) (ae (fI _ _ _) r)
theorem sT{ρ π:List Nat}{h r1:List AO}{i id:Nat}{nf:Bool}{fns:List Fd}{k:Nat}{w:WS}(hid:id<ρ.length)(e:h[i]?=some (wO (ρ.getD id 0) nf fns k w))(hr:HW ρ h π r1):HW ρ h (i::π) (wO id nf fns k w::r1):=by
 refine cf (es:=[wC id nf fns k w]) (fun x hx=>?_) ?_ hr
 ·rw[List.mem_singleton.1 hx];exact sv hid
 ·rw[e,List.map_cons,List.map_nil,vJ];rfl
theorem Bf{α:Type}{l:List α}{i j:Nat}{a b:α}(hij:i≠j)(h:l[j]?=some b):(l.set i a).set j b=l.set i a:=by
 apply List.ext_getElem?
 intro n
 rw[List.getElem?_set]
 split
 ·rename_i e
  subst e
  rw[List.getElem?_set_ne hij,h]
  rw[if_pos (by rw[List.length_set];exact(List.getElem?_eq_some_iff.1 h).1)]
 ·rfl
theorem vf(ρ:List Nat):∀l:List AV,ag 0 l→TW ρ l l
 |[],_=>by simp
 |v::r,h=>by
  rw[sb]
  refine⟨.inr ⟨(aH (Nat.zero_le _) [v] ⟨h.1,trivial⟩).1,?_⟩,vf ρ r h.2⟩
  have:=dA ρ [v] ⟨h.1,trivial⟩
  simpa[bh] using this
theorem JX{h:List AO}{wid id:Nat}{nf:Bool}{fns:List Fd}{k:Nat}{w:WS}(e0:h[wid]?=some (wO id nf fns k w))(e1:h[id]?=some (roC nf w.vs)):HW [wid,id] h [wid,id] (HWk nf fns k w):=by
 refine cf (es:=[wC 1 nf fns k w]) (fun x hx=>?_) ?_ ?_
 ·rw[List.mem_singleton.1 hx];exact sv (by simp)
 ·rw[e0,List.map_cons,List.map_nil,vJ];rfl
 ·exact dc e1 (fI _ _ _) cG
theorem HS{f:FuncId}{args:List AV}{nf:Bool}{fns:List Fd}{k:Nat}{w:WS}{v:AV}{c:Int}(H:AC Tryz.prog G f (.ptr 0 5 0 0::args) (HWk nf fns k w) fun x h=>x= .ret v∧h=HWk nf fns k ⟨w.vs,w.count,c⟩)(ha:ag 0 args)(hv:below 0 v)
 {h:List AO}{wid id:Nat}(hid:wid≠id)(e0:h[wid]?=some (wO id nf fns k w))(e1:h[id]?=some (roC nf w.vs)):
 AC Tryz.prog G f (.ptr wid 5 0 0::args) h fun x h'=>x= .ret v∧h'=h.set wid (wO id nf fns k ⟨w.vs,w.count,c⟩):=by
 refine(H.frame [wid,id] (by simp[hid]) ?_ (JX e0 e1)).mono ?_
 ·rw[sb];exact⟨.inr ⟨by simp[below],rfl⟩,vf _ _ ha⟩
 ·rintro x h' ⟨x0,h0,⟨rfl,rfl⟩,_,rfl,rfl⟩
  refine⟨?_,?_⟩
  ·have:=dA ([wid,id]++List.range' h.length ((HWk nf fns k ⟨w.vs,w.count,c⟩).length-(HWk nf fns k w).length)) [v] ⟨hv,trivial⟩
   simp only[bh] at this
   simp only[tD]
   exact congrArg ARes.ret (List.cons.inj this).1
  ·simp only[HWk,List.length_cons,List.length_nil,Nat.sub_self,List.range'_zero,List.append_nil,List.take_succ_cons,List.take_zero,List.map_cons,List.map_nil,List.drop_succ_cons,List.drop_zero,zG,xH,mrg]
   exact Bf hid e1
theorem Cs{f:FuncId}{args:List AV}{nf:Bool}{fns:List Fd}{k:Nat}{w:WS}{v:AV}{Q:Bool→WS→Prop}(H:AC Tryz.prog G f (.ptr 0 5 0 0::args) (HWk nf fns k w) fun x h=>∃nf' w',x= .ret v∧h=[wO 2 nf' fns k w',.dead,roC nf' w'.vs]∧Q nf' w')(ha:ag 0 args)(hv:below 0 v)
 {h:List AO}{wid id:Nat}(hid:wid≠id)(e0:h[wid]?=some (wO id nf fns k w))(e1:h[id]?=some (roC nf w.vs)):
 AC Tryz.prog G f (.ptr wid 5 0 0::args) h fun x h'=>∃nf' w',x= .ret v∧h'=(h.set wid (wO h.length nf' fns k w')).set id .dead++[roC nf' w'.vs]∧Q nf' w':=by
 refine(H.frame [wid,id] (by simp[hid]) ?_ (JX e0 e1)).mono ?_
 ·rw[sb];exact⟨.inr ⟨by simp[below],rfl⟩,vf _ _ ha⟩
 ·rintro x h' ⟨x0,h0,⟨nf',w',rfl,rfl,q⟩,_,rfl,rfl⟩
  refine⟨nf',w',?_,?_,q⟩
  ·have:=dA ([wid,id]++List.range' h.length ([wO 2 nf' fns k w',.dead,roC nf' w'.vs].length-(HWk nf fns k w).length)) [v] ⟨hv,trivial⟩
   simp only[bh] at this
   simp only[tD]
   exact congrArg ARes.ret (List.cons.inj this).1
  ·simp only[HWk,List.length_cons,List.length_nil,List.take_succ_cons,List.take_zero,List.map_cons,List.map_nil,List.drop_succ_cons,List.drop_zero,zG,xH,mrg]
   rfl
theorem uE(fns:List Fd)(k:Nat)(vs:List LV):∀(a b:List Ex) (c:Int),bH fns k vs (a++b) c=bH fns k vs b (bH fns k vs a c)
 |[],b,c=>rfl
 |e::r,b,c=>by rw[List.cons_append,bH,bH,uE fns k vs r]
theorem pZ(vs:List LV):∀l:List Ex,iI vs l=l.map (rnE vs)
 |[]=>rfl
 |e::r=>by rw[iI,pZ vs r];rfl
theorem sY{fns:List Fd}{k:Nat}{vs:List LV}{l:List Ex}{c:Int}{i:Nat}(h:i<l.length):bH fns k vs (l.take (i+1)) c=rU fns k vs l[i] (bH fns k vs (l.take i) c):=by
 rw[an h,uE];rfl
theorem uG{vs:List LV}{l:List Ex}{i:Nat}(h:i<l.length):iI vs (l.take (i+1))=iI vs (l.take i)++[rnE vs l[i]]:=by
 rw[pZ,pZ,an h,List.map_append];rfl
theorem pz(vs:List LV)(l:List Ex):(iI vs l).length=l.length:=by rw[pZ,List.length_map]
theorem zN(l:List Ex):(exR l).length=l.length:=by simp[exR]
theorem zs(a b:List Ex):exR (a++b)=exR a++exR b:=by simp[exR]
theorem xJ{h:List AO}{id:Nat}{l:List Ex}(e:h[id]?=some (.row 4 (exR l))):View h (.sl id 4 0 l.length) (exL l):=by
 have:=jt (h:=h) (id:=id) (sz:=4) (n:=l.length) (ls:=l.map Ex.cs) (by rw[e,exR];simp) (by simp) (fun x hx=>by obtain⟨b,_,rfl⟩:=List.mem_map.1 hx;exact b.cs_len)
 exact this
theorem EF{fns:List Fd}{s:List UInt8}{j:Nat}(h:dX fns s=some j):j<fns.length:=by
 rw[dX,List.findIdx?_eq_some_iff_getElem] at h;exact h.1
theorem FL{fns:List Fd}{k:Nat}(hf:fns.length≤1099511627776):∀(N:Nat) (e:Ex),e.sz≤N→N≤1099511627776→∀(nf:Bool) (w:WS),(nf=true→w.vs=[])→w.vs.length≤1099511627776→
 AC Tryz.prog G bB [.ptr 0 5 0 0,.agg (e.cs.map .p)] (HWk nf fns k w) fun x h=>x= .ret (.agg ((rnE w.vs e).cs.map .p))∧h=HWk nf fns k ⟨w.vs,w.count,rU fns k w.vs e w.code⟩:=by
 intro N
 induction N with
 |zero=>intro e he;have:=e.sz_eq;omega
 |succ N ih=>
  intro e he hN nf w hn hl
  have hec:=e.cs_eq
  have hsz:=e.sz_eq
  have hkl:=bn e.kids
  have hre:(rnE w.vs e).cs=[.int .i64 e.op,.int .i64 e.n,.str (if e.op=2 then qN w.vs e.name else e.name),exL (iI w.vs e.kids)]:=by
   obtain⟨o,n,s,ks⟩:=e;rw[rnE,Ex.cs_eq];rfl
  have hce:rU fns k w.vs e w.code=bH fns k w.vs e.kids (kY fns k w.vs e.op e.name e.kids.length w.code):=by
   obtain⟨o,n,s,ks⟩:=e;rfl
  have main:AC Tryz.prog G bB [.ptr 0 5 0 0,.agg (e.cs.map .p)] (HWk nf fns k w) fun x h=>∃E1 E2,x= .ret (.agg [.p (.int .i64 e.op),.p (.int .i64 e.n),.p (.str (if e.op=2 then qN w.vs e.name else e.name)),.sl 4 4 0 e.kids.length])∧
   h=[wO 1 nf fns k ⟨w.vs,w.count,rU fns k w.vs e w.code⟩,roC nf w.vs,E1,E2,.row 4 (exR (iI w.vs e.kids))]:=by
   refine AC.goK oY pg ?_
   simp-implicitDefEqProofs[K_spec_l4Walk_expr,F_spec_l4Walk_expr,HWk,hec]
   refine kf (al 75 [(0,.ptr 0 5 0 0),(3,.ptr 2 4 0 0),(4,.ptr 3 4 0 0)]) [wO 1 nf fns k ⟨w.vs,w.count,if e.op=2 then nC w.vs e.name w.code else w.code⟩,roC nf w.vs,.row 4 [[.p (.int .i64 e.op),.p (.int .i64 e.n),.p (.str (if e.op=2 then qN w.vs e.name else e.name)),.p (exL e.kids)]],.row 4 [[.p (.int .i64 0),.p (.int .i64 0),.p (.str []),.nils]]] ?_ ?_
   ·by_cases o2:e.op=2
    ·simp-implicitDefEqProofs[o2]
     refine(wK G (Ew G nf fns k w hn hl e.name) _ (by simp[below])).mono ?_
     rintro r h ⟨rfl,rfl⟩
     simp-implicitDefEqProofs[aa]
     exact af (by simp) (qk (by simp) (by simp[okO,below])) (by simp[below])
    ·simp-implicitDefEqProofs[o2]
     exact af (by simp) (qk (by simp) (by simp[okO,below])) (by simp[below])
   refine kf (al 75 [(0,.ptr 0 5 0 0),(3,.ptr 2 4 0 0),(4,.ptr 3 4 0 0)]) [wO 1 nf fns k ⟨w.vs,w.count,kY fns k w.vs e.op e.name e.kids.length w.code⟩,roC nf w.vs,.row 4 [[.p (.int .i64 e.op),.p (.int .i64 e.n),.p (.str (if e.op=2 then qN w.vs e.name else e.name)),.p (exL e.kids)]],.row 4 [[.p (.int .i64 0),.p (.int .i64 0),.p (.str []),.nils]]] ?_ ?_
   ·by_cases o13:e.op=13
    ·have hhd:kY fns k w.vs e.op e.name e.kids.length w.code=mv fns k e.name e.kids.length w.code:=by simp[kY,o13]
     rw[hhd]
     simp-implicitDefEqProofs[o13,wO,wC]
     refine(Ct G fns e.name hf).use ?_
     have fin:∀c:Int,Wk 2 (al 75 [(0,.ptr 0 5 0 0),(3,.ptr 2 4 0 0),(4,.ptr 3 4 0 0)]) [wO 1 nf fns k ⟨w.vs,w.count,c⟩,roC nf w.vs,.row 4 [[.p (.int .i64 13),.p (.int .i64 e.n),.p (.str e.name),.p (exL e.kids)]],.row 4 [[.p (.int .i64 0),.p (.int .i64 0),.p (.str []),.nils]]] (al 75 [(0,.ptr 0 5 0 0),(3,.ptr 2 4 0 0),(4,.ptr 3 4 0 0)]) [wO 1 nf fns k ⟨w.vs,w.count,c⟩,roC nf w.vs,.row 4 [[.p (.int .i64 13),.p (.int .i64 e.n),.p (.str e.name),.p (exL e.kids)]],.row 4 [[.p (.int .i64 0),.p (.int .i64 0),.p (.str []),.nils]]]:=fun c=>
      af (by simp) (qk (by simp) (by simp[okO,below])) (by simp[below])
     cases hfa:dX fns e.name with
     |none=>
      simp-implicitDefEqProofs[ixI,mv,hfa]
      refine(wK G (nr G nf fns k w 4) _ (by simp[below])).mono ?_
      rintro r h ⟨rfl,rfl⟩
      simp-implicitDefEqProofs[aa]
      exact af (h:=[wO 1 nf fns k ⟨w.vs,w.count,fl w.code 4⟩,roC nf w.vs,.row 4 [[.p (.int .i64 13),.p (.int .i64 e.n),.p (.str e.name),.p (exL e.kids)]],.row 4 [[.p (.int .i64 0),.p (.int .i64 0),.p (.str []),.nils]]]) (by simp) (qk (by simp) (by simp[okO,below])) (by simp[below])
     |some j=>
      have hj:=EF hfa
      have hg:=List.getElem?_eq_getElem hj
      have hjn:¬(j:Int)<0:=by omega
      by_cases hkj:k≤j
      ·have hkj':(k:Int)≤(j:Int):=by omega
       simp-implicitDefEqProofs[ixI,mv,hfa,hkj,hkj',hjn]
       refine(wK G (nr G nf fns k w 4) _ (by simp[below])).mono ?_
       rintro r h ⟨rfl,rfl⟩
       simp-implicitDefEqProofs[aa]
       exact af (h:=[wO 1 nf fns k ⟨w.vs,w.count,fl w.code 4⟩,roC nf w.vs,.row 4 [[.p (.int .i64 13),.p (.int .i64 e.n),.p (.str e.name),.p (exL e.kids)]],.row 4 [[.p (.int .i64 0),.p (.int .i64 0),.p (.str []),.nils]]]) (by simp) (qk (by simp) (by simp[okO,below])) (by simp[below])
      ·have hkj':¬(k:Int)≤(j:Int):=by omega
       have hfl:fdL fns= .lst 3 (fns.map Fd.cs):=rfl
       have hcs:fns[j].cs=[.str fns[j].name,aq fns[j].params,smL fns[j].body]:=rfl
       have hst:aq fns[j].params= .lst 1 (fns[j].params.map fun w=>[.str w]):=rfl
       have hxl:∀l,exL l= .lst 4 (l.map Ex.cs):=fun _=>rfl
       have hpn:AM fns j=fns[j].params.length:=by simp[AM,hg]
       by_cases hp:fns[j].params.length=e.kids.length
       ·have hcc:mv fns k e.name e.kids.length w.code=w.code:=by simp[mv,hfa,hkj,hpn,hp]
        rw[hcc]
        simp-implicitDefEqProofs[ixI,hkj',hjn,hfl,hg,hcs,hst,hxl,hp]
        exact af (h:=[wO 1 nf fns k w,roC nf w.vs,.row 4 [[.p (.int .i64 13),.p (.int .i64 e.n),.p (.str e.name),.p (exL e.kids)]],.row 4 [[.p (.int .i64 0),.p (.int .i64 0),.p (.str []),.nils]]]) (by simp) (qk (by simp) (by simp[okO,below])) (by simp[below])
       ·have hcc:mv fns k e.name e.kids.length w.code=fl w.code 5:=by simp[mv,hfa,hkj,hpn,hp]
        have hp':¬(fns[j].params.length:Int)=(e.kids.length:Int):=by omega
        rw[hcc]
        simp-implicitDefEqProofs[ixI,hkj',hjn,hfl,hg,hcs,hst,hxl,hp']
        refine(wK G (nr G nf fns k w 5) _ (by simp[below])).mono ?_
        rintro r h ⟨rfl,rfl⟩
        simp-implicitDefEqProofs[aa]
        exact af (h:=[wO 1 nf fns k ⟨w.vs,w.count,fl w.code 5⟩,roC nf w.vs,.row 4 [[.p (.int .i64 13),.p (.int .i64 e.n),.p (.str e.name),.p (exL e.kids)]],.row 4 [[.p (.int .i64 0),.p (.int .i64 0),.p (.str []),.nils]]]) (by simp) (qk (by simp) (by simp[okO,below])) (by simp[below])
    ·have hhd:kY fns k w.vs e.op e.name e.kids.length w.code=if e.op=2 then nC w.vs e.name w.code else w.code:=by simp[kY,o13]
     rw[hhd]
     simp-implicitDefEqProofs[o13]
     exact af (by simp) (qk (by simp) (by simp[okO,below])) (by simp[below])
   rw[hce]
   generalize kY fns k w.vs e.op e.name e.kids.length w.code=c2
   generalize (if e.op=2 then qN w.vs e.name else e.name)=s1
   have hxl:exL e.kids= .lst 4 (e.kids.map Ex.cs):=rfl
   simp-implicitDefEqProofs[]
   refine aR (fun i:Nat=>al 75 [(0,.ptr 0 5 0 0),(3,.ptr 2 4 0 0),(4,.ptr 3 4 0 0),(6,.sl 4 4 0 i),(7,.p (.int .i64 i))])
    (fun i=>[wO 1 nf fns k ⟨w.vs,w.count,bH fns k w.vs (e.kids.take i) c2⟩,roC nf w.vs,.row 4 [[.p (.int .i64 e.op),.p (.int .i64 e.n),.p (.str s1),.p (exL e.kids)]],.row 4 [[.p (.int .i64 0),.p (.int .i64 0),.p (.str []),.nils]],.row 4 (exR (iI w.vs (e.kids.take i)))])
    (fun i=>i≤e.kids.length) (fun i=>e.kids.length-i) 0 (by simp) ?_ ?_
   ·exact af (by simp) (qk (by simp) (by simp[okO,below])) (by simp[below])
   ·intro i hi
    have hrl:(exR (iI w.vs (e.kids.take i))).length=i:=by rw[zN,pz];simp;omega
    simp-implicitDefEqProofs[hxl]
    refine bf (fun h=>?_) (fun h=>?_)
    ·simp at h
     have hg:=List.getElem?_eq_getElem h
     have hks:=bm (List.getElem_mem h)
     have hkc:=(rnE w.vs e.kids[i]).cs_eq
     simp-implicitDefEqProofs[hg]
     refine(wK G (ih e.kids[i] (by omega) (by omega) nf ⟨w.vs,w.count,bH fns k w.vs (e.kids.take i) c2⟩ hn hl) _ (by simp[below])).mono ?_
     rintro r h ⟨rfl,rfl⟩
     rw[show(rnE (WS.mk w.vs w.count (bH fns k w.vs (e.kids.take i) c2)).vs e.kids[i])=rnE w.vs e.kids[i] from rfl]
     simp-implicitDefEqProofs[aa,hkc,hrl]
     refine⟨by omega,?_⟩
     refine⟨i+1,by omega,by omega,?_⟩
     have htk:List.take i (exR (iI w.vs (e.kids.take i)))=exR (iI w.vs (e.kids.take i)):=List.take_of_length_le (by omega)
     rw[sY h,uG h,zs,htk]
     refine eC [0,1,2,3,6] (by simp) (by decide) (by decide) (sT (by simp) rfl (dc rfl (fI _ _ _) (bl rfl (by simp[below]) (bl rfl (by simp[below]) (bl ?_ ?_ cG))))) (by simp[below,ren,w1 (i:=i) (by omega)])
     ·have:exR [rnE w.vs e.kids[i]]=[[.p (.int .i64 (rnE w.vs e.kids[i]).op),.p (.int .i64 (rnE w.vs e.kids[i]).n),.p (.str (rnE w.vs e.kids[i]).name),.p (exL (rnE w.vs e.kids[i]).kids)]]:=by rw[exR,List.map_singleton,hkc];rfl
      rw[this];rfl
     ·intro x hx
      rcases List.mem_append.1 hx with h|h
      ·exact dx _ x h
      ·exact dx _ x h
    ·simp at h
     have hie:i=e.kids.length:=by omega
     subst hie
     simp-implicitDefEqProofs[]
  refine main.frz 2 (by simp[HWk]) (fun t v h ⟨_,_,e,_⟩=>by cases e) ?_
  rintro v h ⟨E1,E2,e,rfl⟩
  cases e
  refine⟨_,HWk nf fns k ⟨w.vs,w.count,rU fns k w.vs e w.code⟩,by simp,rfl,.agg ?_ .nil,.same (ro (by omega)) (.same (fI _ _ _) (.nil _)),rfl,rfl⟩
  rw[hre]
  have hrl:=pz w.vs e.kids
  rw[←hrl]
  exact .keep (by simp) (.keep (by simp) (.keep (by simp) (.one (xJ rfl) .nil)))
end Go.Proofs.YtiojgfhdcpppcaaGreatDoor
namespace Go.Proofs.YtiojgfhdcpppcaaGreatDoor
open Go Go.Aw
set_option maxRecDepth 100000
set_option maxHeartbeats 4000000
def K_spec_l4Walk_stmts:AK:= .seq (.reg [oJ 6 (.mov (.c .nils))]) (.seq (.reg [oJ 13 (.bsl 5 [(.p (.int .i64 0)),(.p (.str [])),.nils,.nils,.nils] 0 []),oM 7 13]) (.seq (.reg [oM 14 0,oN 15 14,oF 16 2 15,oL 17 16,oJ 18 (.len false (.t 17)),oM 8 18]) (.seq (.seq (.reg [oK 9 0]) (.blk 0 (.loop (.seq (.seq (.reg [oM 19 9,oM 20 1,oJ 21 (.len false (.t 20)),oJ 22 (.bin .lss (.t 19) (.t 21))]) (.cond (.t 22) (.skip) (.exit 0))) (.seq (.blk 1 (.seq (.reg [oM 25 1,oM 26 9,oJ 27 (.idxS 5 (.t 25) (.t 26)),oJ 28 (.ld (some 5) (.t 27)),oJ 10 (.alloc [(.p (.int .i64 0)),(.p (.str [])),.nils,.nils,.nils]),⟨none,none,.st 5 (.t 10) (.t 28)⟩]) (.seq (.reg [oJ 29 (.bsl 4 [(.p (.int .i64 0)),(.p (.int .i64 0)),(.p (.str [])),.nils] 0 []),oM 11 29]) (.seq (.seq (.reg [oK 12 0]) (.blk 2 (.loop (.seq (.seq (.reg [oM 30 12,oF 31 2 10,oL 32 31,oJ 33 (.len false (.t 32)),oJ 34 (.bin .lss (.t 30) (.t 33))]) (.cond (.t 34) (.skip) (.exit 2))) (.seq (.blk 3 (.reg [oM 37 11,oM 38 0,oF 39 2 10,oL 40 39,oM 41 12,oJ 42 (.idxS 4 (.t 40) (.t 41)),oJ 43 (.ld (some 4) (.t 42)),oJ 44 (.call bB [(.t 38),(.t 43)]),oJ 45 (.bsl 4 [(.p (.int .i64 0)),(.p (.int .i64 0)),(.p (.str [])),.nils] 1 [(0,4,(.t 44))]),oJ 46 (.app 4 56 (.t 37) (.t 45)),oM 11 46])) (.reg [oM 35 12,oJ 36 (.bin .add (.t 35) (.c (.p (.int .i64 1)))),oM 12 36])))))) (.cut (.reg [oM 47 11,oF 48 2 10,oS 48 47]) (.cut (.seq (.reg [oF 49 0 10,oL 50 49,oJ 51 (.bin .eql (.t 50) (.c (.p (.int .i64 1))))]) (.cond (.t 51) (.reg [oM 52 0,oF 53 1 10,oL 54 53,oM 55 2,oJ 56 (.call cd [(.t 52),(.t 54),(.t 55)]),oF 57 1 10,oS 57 56]) (.skip))) (.cut (.seq (.reg [oF 58 0 10,oL 59 58,oJ 60 (.bin .eql (.t 59) (.c (.p (.int .i64 2))))]) (.cond (.t 60) (.reg [oM 61 0,oF 62 1 10,oL 63 62,oJ 64 (.call ce [(.t 61),(.t 63)]),oF 65 1 10,oS 65 64]) (.skip))) (.seq (.reg [oM 66 0,oF 67 3 10,oL 68 67,oM 69 2,oJ 70 (.bin .add (.t 69) (.c (.p (.int .i64 1)))),oJ 71 (.call bj [(.t 66),(.t 68),(.t 70)]),oF 72 3 10,oS 72 71]) (.seq (.reg [oM 73 0,oF 74 4 10,oL 75 74,oM 76 2,oJ 77 (.bin .add (.t 76) (.c (.p (.int .i64 1)))),oJ 78 (.call bj [(.t 73),(.t 75),(.t 77)]),oF 79 4 10,oS 79 78]) (.reg [oM 80 7,oJ 81 (.ld (some 5) (.t 10)),oJ 82 (.bsl 5 [(.p (.int .i64 0)),(.p (.str [])),.nils,.nils,.nils] 1 [(0,5,(.t 81))]),oJ 83 (.app 5 96 (.t 80) (.t 82)),oM 7 83])))))))))) (.reg [oM 23 9,oJ 24 (.bin .add (.t 23) (.c (.p (.int .i64 1)))),oM 9 24])))))) (.cut (.seq (.reg [oM 84 2,oJ 85 (.bin .gtr (.t 84) (.c (.p (.int .i64 0))))]) (.cond (.t 85) (.reg [oM 86 0,oM 87 0,oN 88 87,oF 89 2 88,oL 90 89,oM 91 8,oJ 92 (.slS 3 (.t 90) none (some (.t 91))),oN 93 86,oF 94 2 93,oS 94 92]) (.skip))) (.seq (.reg [oM 95 7,oM 6 95]) (.ret))))))
theorem nK:K_spec_l4Walk_stmts.whole=F_spec_l4Walk_stmts.ak:=rfl
theorem wR(fns:List Fd)(k b:Nat):∀(x y:List Sm) (w:WS),bM fns k b (x++y) w=bM fns k b y (bM fns k b x w)
 |[],y,w=>rfl
 |s::r,y,w=>by rw[List.cons_append,bM,bM,wR fns k b r]
theorem wS(fns:List Fd)(k b:Nat):∀(x y:List Sm) (w:WS),fM fns k b (x++y) w=fM fns k b x w++fM fns k b y (bM fns k b x w)
 |[],y,w=>rfl
 |s::r,y,w=>by rw[List.cons_append,fM,fM,wS fns k b r];rfl
theorem AT{fns:List Fd}{k b:Nat}{l:List Sm}{w:WS}{i:Nat}(h:i<l.length):bM fns k b (l.take (i+1)) w=stW fns k b l[i] (bM fns k b (l.take i) w):=by
 rw[an h,wR];rfl
theorem Bb{fns:List Fd}{k b:Nat}{l:List Sm}{w:WS}{i:Nat}(h:i<l.length):fM fns k b (l.take (i+1)) w=fM fns k b (l.take i) w++[rnS fns k b l[i] (bM fns k b (l.take i) w)]:=by
 rw[an h,wS];rfl
theorem sx(fns:List Fd)(k b:Nat):∀(l:List Sm) (w:WS),(fM fns k b l w).length=l.length
 |[],w=>rfl
 |s::r,w=>by rw[fM,List.length_cons,sx fns k b r,List.length_cons]
theorem FT{l:List Sm}{i:Nat}(h:i<l.length):ay (l.take i)+l[i].sz≤ay l:=by
 have e:l=l.take i++l[i]::l.drop (i+1):=by rw[←List.drop_eq_getElem_cons h,List.take_append_drop]
 have h2:ay l=ay (l.take i)+(l[i].sz+ay (l.drop (i+1))):=by
  conv=>lhs;rw[e]
  rw[bC];rfl
 omega
def oX(fns:List Fd)(k b:Nat)(l:List Sm)(w:WS):WS:=if 0<b then(bM fns k b l w).back w.vs else bM fns k b l w
theorem yq(fns:List Fd)(k b:Nat)(l:List Sm)(w:WS):(oX fns k b l w).count=w.count+cV l:=by
 unfold oX
 split
 ·exact fO fns k l b w
 ·exact fO fns k l b w
theorem Dm{e vs:List LV}:(lvR (e++vs)).take vs.length=lvR vs:=by
 have h:lvR (e++vs)=lvR vs++lvR e:=by simp[lvR]
 rw[h,List.take_append_of_le_length (by rw[se];exact Nat.le_refl _),List.take_of_length_le (by rw[se];exact Nat.le_refl _)]
theorem uL(l:List Sm):cV l≤ay l:=Nat.le_trans (mY l) (lC l)
theorem yw(nf:Bool)(id n:Nat):(vaC nf id n).isCell=true:=by cases nf<;>rfl
theorem Bo(nf:Bool)(id n:Nat):(vaC nf id n).cells=[vaC nf id n]:=by cases nf<;>rfl
attribute [simp ↓] yw Bo
variable (G:aG)
def StP(fns:List Fd)(k b:Nat)(l:List Sm)(w:WS)(x:ARes)(h:List AO):Prop:=∃nf' w',x= .ret (.p (smL (fM fns k b l w)))∧h=[wO 2 nf' fns k w',.dead,roC nf' w'.vs]∧(nf'=true→w'.vs=[])∧w'=oX fns k b l w
structure StS where (i:Nat) (nf:Bool)
theorem DC{fns:List Fd}{k:Nat}(hf:fns.length≤1099511627776):∀(N:Nat) (l:List Sm),ay l<N→∀(b:Nat) (nf:Bool) (w:WS),(nf=true→w.vs=[])→w.vs.length≤w.count→w.count+ay l≤1099511627776→b+ay l≤1099511627776→
 AC Tryz.prog G bj [.ptr 0 5 0 0,.p (smL l),.p (.int .i64 b)] (HWk nf fns k w) (StP fns k b l w):=by
 intro N
 induction N with
 |zero=>
  intro l hl b nf w hn hv hc hb
  omega
 |succ N ih=>
  intro l hl b nf w hn hv hc hb
  have hll:=bA l
  refine AC.goK nT nK ?_
  have hsl:∀l,smL l= .lst 5 (l.map Sm.cs):=fun _=>rfl
  have hlen0:yF (vaC nf 1 w.vs.length)=some (.p (.int .i64 w.vs.length)):=by
   cases nf
   ·rfl
   ·simp[vaC,hn rfl]
  simp-implicitDefEqProofs[K_spec_l4Walk_stmts,F_spec_l4Walk_stmts,HWk,wO,wC,hlen0]
  refine aR (fun s:StS=>al 96 [(0,.ptr 0 5 0 0),(1,.p (smL l)),(2,.p (.int .i64 b)),(7,.sl 2 5 0 s.i),(8,.p (.int .i64 w.vs.length)),(9,.p (.int .i64 s.i))])
   (fun s=>[wO 3 s.nf fns k (bM fns k b (l.take s.i) w),.dead,.row 5 (smR (fM fns k b (l.take s.i) w)),roC s.nf (bM fns k b (l.take s.i) w).vs])
   (fun s=>s.i≤l.length∧(s.nf=true→(bM fns k b (l.take s.i) w).vs=[])) (fun s=>l.length-s.i) ⟨0,nf⟩ ⟨by simp,hn⟩ ?_ ?_
  ·refine zu [0,1,2,1] (by simp) (by decide) ?_ (sT (by simp) rfl (ec (by simp) (bl rfl (by simp[smR,fM]) (dc rfl (fI _ _ _) cG)))) (by simp[below,ren])
   cases nf<;>simp[io,roC,wO,bM]
  ·rintro⟨i,nf⟩ ⟨hi,hn⟩
   simp only at hi hn
   simp-implicitDefEqProofs[hsl]
   refine bf (fun h=>?_) (fun h=>?_)
   ·simp at h
    have hg:=List.getElem?_eq_getElem h
    have hat:=FT h
    have hse:=l[i].cs_eq
    have hsz:=l[i].sz_eq
    have hle:=zK fns k (l:=l.take i) (b:=b) hv
    have hcn:=fO fns k (l.take i) b w
    have hlz:=uL (l.take i)
    have eW:=AT (fns:=fns) (k:=k) (b:=b) (w:=w) h
    have eR:=Bb (fns:=fns) (k:=k) (b:=b) (w:=w) h
    have hol:=sx fns k b (l.take i) w
    rw[List.length_take,Nat.min_eq_left hi] at hol
    generalize l[i]=s at hg hat hse hsz eW eR
    generalize bM fns k b (l.take i) w=wi at hn hle hcn eW eR⊢
    generalize fM fns k b (l.take i) w=out at hol eR⊢
    obtain⟨o,nme,a,bd,el⟩:=s
    simp only[Sm.op,Sm.name,Sm.args,Sm.body,Sm.els] at hse hsz
    simp-implicitDefEqProofs[hg,hse]
    have hxl:∀l,exL l= .lst 4 (l.map Ex.cs):=fun _=>rfl
    have hal:=bn a
    have hlE:=uL bd
    have hwl:wi.vs.length≤1099511627776:=by omega
    have hopR:∀(x y z u v:AV),ag 0 [x,y,z,u,v]→okO 5 (AO.row 5 [[x,y,z,u,v]]):=fun x y z u v hh=>bO (fun e he=>by rw[List.mem_singleton.1 he];exact hh)
    refine aR (fun j:Nat=>al 96 [(0,.ptr 0 5 0 0),(1,.p (smL l)),(2,.p (.int .i64 b)),(7,.sl 2 5 0 i),(8,.p (.int .i64 w.vs.length)),(9,.p (.int .i64 i)),(10,.ptr 4 5 0 0),(11,.sl 5 4 0 j),(12,.p (.int .i64 j))])
     (fun j=>[wO 3 nf fns k ⟨wi.vs,wi.count,bH fns k wi.vs (a.take j) wi.code⟩,.dead,.row 5 (smR out),roC nf wi.vs,.row 5 [[.p (.int .i64 o),.p (.str nme),.p (exL a),.p (smL bd),.p (smL el)]],.row 4 (exR (iI wi.vs (a.take j)))])
     (fun j=>j≤a.length) (fun j=>a.length-j) 0 (by simp) ?_ ?_
    ·refine af (h:=[wO 3 nf fns k wi,.dead,.row 5 (smR out),roC nf wi.vs,.row 5 [[.p (.int .i64 o),.p (.str nme),.p (exL a),.p (smL bd),.p (smL el)]],.row 4 []]) (by simp) (ae (ro (by simp)) (ae trivial (ae (bO (dC out)) (ae (fI _ _ _) (by simp[okO,below]))))) (by simp[below,hsl])
    intro j hj
    have hrl:(exR (iI wi.vs (a.take j))).length=j:=by rw[zN,pz];simp;omega
    simp-implicitDefEqProofs[hxl]
    refine bf (fun hc=>?_) (fun hc=>?_)
    ·simp at hc
     have hga:=List.getElem?_eq_getElem hc
     have hks:=bm (List.getElem_mem hc)
     have hkc:=(rnE wi.vs a[j]).cs_eq
     simp-implicitDefEqProofs[hga]
     refine(HS G (id:=3) (FL G hf (a[j].sz) a[j] (Nat.le_refl _) (by omega) nf ⟨wi.vs,wi.count,bH fns k wi.vs (a.take j) wi.code⟩ hn hwl) (by simp) (by simp[below]) (by decide) rfl rfl).mono ?_
     rintro r h' ⟨rfl,rfl⟩
     rw[show(rnE (WS.mk wi.vs wi.count (bH fns k wi.vs (a.take j) wi.code)).vs a[j])=rnE wi.vs a[j] from rfl]
     simp-implicitDefEqProofs[aa,hkc,hrl]
     refine⟨by omega,j+1,by omega,by omega,?_⟩
     have htk:List.take j (exR (iI wi.vs (a.take j)))=exR (iI wi.vs (a.take j)):=List.take_of_length_le (by omega)
     rw[sY hc,uG hc,zs,htk]
     refine eC [0,1,2,3,4,7] (by simp) (by decide) (by decide) (sT (by simp) rfl (ec (by simp) (bl rfl (dC out) (dc rfl (fI _ _ _) (bl rfl (by simp[below]) (bl ?_ ?_ cG)))))) (by simp[below,ren,hsl,w1 (i:=j) (by omega)])
     ·have:exR [rnE wi.vs a[j]]=[[.p (.int .i64 (rnE wi.vs a[j]).op),.p (.int .i64 (rnE wi.vs a[j]).n),.p (.str (rnE wi.vs a[j]).name),.p (exL (rnE wi.vs a[j]).kids)]]:=by rw[exR,List.map_singleton,hkc];rfl
      rw[this];rfl
     ·intro x hx
      rcases List.mem_append.1 hx with h|h
      ·exact dx _ x h
      ·exact dx _ x h
    simp at hc
    have hje:j=a.length:=by omega
    subst hje
    rw[List.take_length] at hrl⊢
    have hal2:=pz wi.vs a
    simp-implicitDefEqProofs[]
    generalize hw1:WS.mk wi.vs wi.count (bH fns k wi.vs a wi.code)=w1
    have e1v:w1.vs=wi.vs:=by rw[←hw1]
    have e1c:w1.count=wi.count:=by rw[←hw1]
    have e1l:w1.vs.length=wi.vs.length:=by rw[e1v]
    rw[←e1v]
    refine kf (al 96 [(0,.ptr 0 5 0 0),(1,.p (smL l)),(2,.p (.int .i64 b)),(7,.sl 2 5 0 i),(8,.p (.int .i64 w.vs.length)),(9,.p (.int .i64 i)),(10,.ptr 4 5 0 0)])
     [wO 3 nf fns k w1,.dead,.row 5 (smR out),roC nf w1.vs,.row 5 [[.p (.int .i64 o),.p (.str nme),.p (exL (iI w1.vs a)),.p (smL bd),.p (smL el)]]] ?_ ?_
    ·simp-implicitDefEqProofs[]
     refine lw 5 (by omega) (by simp) rfl (.same (ro (by omega)) (.dead (.same (bO (dC out)) (.same (fI _ _ _) (.one (.keep (by simp[below]) (.keep (by simp[below]) (.one ?_ (.keep (by simp[below]) (.keep (by simp[below]) .nil))))) (.nil _)))))) ?_
     ·rw[←e1v] at hal2
      rw[←hal2]
      exact xJ rfl
     ·refine⟨.keep (by simp[below]) .nil,.keep (by simp[below]) .nil,.keep (by simp[below]) .nil,.keep (by simp[below]) .nil,.keep (by simp[below]) .nil,.keep (by simp[below]) .nil,.keep (by simp[below]) .nil,trivial⟩
    have TT:∀(r1:List (Nat × AV)),Aw.look r1 0= .ptr 0 5 0 0→Aw.look r1 1= .p (smL l)→Aw.look r1 2= .p (.int .i64 b)→Aw.look r1 7= .sl 2 5 0 i→Aw.look r1 8= .p (.int .i64 w.vs.length)→Aw.look r1 9= .p (.int .i64 i)→Aw.look r1 10= .ptr 4 5 0 0→∀ρ:List Nat,ρ.length=5→ρ.getD 0 0=0→ρ.getD 2 0=2→ρ.getD 4 0=4→
     TWA ρ r1 [(0,.ptr 0 5 0 0),(1,.p (smL l)),(2,.p (.int .i64 b)),(7,.sl 2 5 0 i),(8,.p (.int .i64 w.vs.length)),(9,.p (.int .i64 i)),(10,.ptr 4 5 0 0)]:=by
     intro r1 a0 a1 a2 a7 a8 a9 a10 ρ hr r0 r2 r4
     simp[below,ren,hr,a0,a1,a2,a7,a8,a9,a10]
     rw[List.getD_eq_getElem?_getD,List.getElem?_eq_getElem (by omega)] at r0 r2 r4
     exact⟨r0,r2,r4⟩
    have hn1:nf=true→w1.vs=[]:=fun h=>by rw[e1v];exact hn h
    have okB:∀(nf:Bool) (w:WS) (r:AO),okO 0 r→∀x∈[wO 3 nf fns k w,.dead,.row 5 (smR out),roC nf w.vs,r],okO 5 x:=fun nf w r hr=>
     ae (ro (by omega)) (ae trivial (ae (bO (dC out)) (ae (fI _ _ _) (ae (bO hr) dg))))
    refine kf (al 96 [(0,.ptr 0 5 0 0),(1,.p (smL l)),(2,.p (.int .i64 b)),(7,.sl 2 5 0 i),(8,.p (.int .i64 w.vs.length)),(9,.p (.int .i64 i)),(10,.ptr 4 5 0 0)])
     [wO 3 (if o=1 then false else nf) fns k (if o=1 then jl w1 nme b else w1),.dead,.row 5 (smR out),roC (if o=1 then false else nf) (if o=1 then jl w1 nme b else w1).vs,.row 5 [[.p (.int .i64 o),.p (.str (if o=1 then vnm w1.count else nme)),.p (exL (iI w1.vs a)),.p (smL bd),.p (smL el)]]] ?_ ?_
    ·by_cases o1:o=1
     ·simp-implicitDefEqProofs[o1]
      refine(Cs G (id:=3) (Q:=fun nf' w'=>nf'=false∧w'=jl w1 nme b) ((CP G nf fns k w1 hn1 (by omega) (by omega) nme b).mono (by rintro x h ⟨rfl,rfl⟩;exact⟨false,_,rfl,rfl,rfl,rfl⟩)) (by simp) (by simp[below]) (by decide) rfl rfl).mono ?_
      rintro r h' ⟨nf',w',rfl,rfl,rfl,rfl⟩
      simp-implicitDefEqProofs[aa]
      refine eC [0,1,2,5,4] (by simp) (by decide) (by decide) (sT (by simp) rfl (ec (by simp) (bl rfl (dC out) (dc rfl (fI _ _ _) (bl rfl (by simp[below]) cG))))) (TT _ (by simp) (by simp) (by simp) (by simp) (by simp) (by simp) (by simp) _ rfl rfl rfl rfl)
     ·simp-implicitDefEqProofs[o1]
      refine af (by simp) (okB nf w1 _ (by simp[okO,below])) (by simp[below])
    generalize hw2:(if o=1 then jl w1 nme b else w1)=w2
    generalize hnf2:(if o=1 then false else nf)=nf2
    generalize hnm2:(if o=1 then vnm w1.count else nme)=nm2
    have hn2:nf2=true→w2.vs=[]:=by
     intro h
     by_cases o1:o=1
     ·rw[if_pos o1] at hnf2;rw[←hnf2] at h;cases h
     ·rw[if_neg o1] at hnf2 hw2;rw[←hw2];exact hn1 (by rw[hnf2];exact h)
    have h2c:w2.count=w1.count+if o=1 then 1 else 0:=by rw[←hw2];split<;>rfl
    have h2v:w2.vs.length≤w2.count:=by
     rw[←hw2];split
     ·simp[jl];omega
     ·omega
    have h2b:w2.count≤wi.count+1:=by rw[h2c,e1c];split<;>omega
    refine kf (al 96 [(0,.ptr 0 5 0 0),(1,.p (smL l)),(2,.p (.int .i64 b)),(7,.sl 2 5 0 i),(8,.p (.int .i64 w.vs.length)),(9,.p (.int .i64 i)),(10,.ptr 4 5 0 0)])
     [wO 3 nf2 fns k (opW o nme b w1),.dead,.row 5 (smR out),roC nf2 (opW o nme b w1).vs,.row 5 [[.p (.int .i64 o),.p (.str (opN o nme w1)),.p (exL (iI w1.vs a)),.p (smL bd),.p (smL el)]]] ?_ ?_
    ·by_cases o2:o=2
     ·have o1:¬o=1:=by omega
      rw[if_neg o1] at hw2 hnm2
      subst hw2;subst hnm2
      have eo:opW o nme b w1=⟨w1.vs,w1.count,nC w1.vs nme w1.code⟩:=by rw[opW,if_neg o1,if_pos o2]
      have en:opN o nme w1=qN w1.vs nme:=by rw[opN,if_neg o1,if_pos o2]
      rw[eo,en]
      simp-implicitDefEqProofs[o2]
      refine(HS G (id:=3) (Ew G nf2 fns k w1 hn2 (by omega) nme) (by simp) (by simp[below]) (by decide) rfl rfl).mono ?_
      rintro r h' ⟨rfl,rfl⟩
      simp-implicitDefEqProofs[aa]
      refine af (h:=[wO 3 nf2 fns k ⟨w1.vs,w1.count,nC w1.vs nme w1.code⟩,.dead,.row 5 (smR out),roC nf2 w1.vs,_]) (by simp) (okB nf2 ⟨w1.vs,w1.count,nC w1.vs nme w1.code⟩ _ (by simp[okO,below])) (by simp[below])
     ·have eo:opW o nme b w1=w2:=by rw[opW,if_neg o2,←hw2]
      have en:opN o nme w1=nm2:=by rw[opN,if_neg o2,←hnm2]
      rw[eo,en]
      simp-implicitDefEqProofs[o2]
      refine af (by simp) (okB nf2 w2 _ (by simp[okO,below])) (by simp[below])
    have eov:(opW o nme b w1).vs=w2.vs:=by
     rw[opW,←hw2];split
     ·rfl
     ·split<;>rfl
    have eoc:(opW o nme b w1).count=w2.count:=by rw[nq,h2c]
    have hwb:IntKind.i64.wrap ((b:Int)+1)=((b+1:Nat):Int):=by rw[ah (by omega) (by omega)];omega
    have hstw:stW fns k b (.mk o nme a bd el) wi=oX fns k (b+1) el (oX fns k (b+1) bd (opW o nme b w1)):=by
     rw[stW]
     simp only[hw1,oX,Nat.succ_pos,if_true]
     rfl
    have hrns:(rnS fns k b (.mk o nme a bd el) wi).cs=[.int .i64 o,.str (opN o nme w1),exL (iI w1.vs a),smL (fM fns k (b+1) bd (opW o nme b w1)),smL (fM fns k (b+1) el (oX fns k (b+1) bd (opW o nme b w1)))]:=by
     rw[rnS,Sm.cs_eq]
     simp only[hw1,oX,Nat.succ_pos,if_true,Sm.op,Sm.name,Sm.args,Sm.body,Sm.els,e1v]
     have:opN o nme wi=opN o nme w1:=by simp only[opN,e1v,e1c]
     rw[this]
    rw[hstw] at eW
    clear hstw
    generalize opW o nme b w1=w3 at eov eoc hrns eW⊢
    have hn3:nf2=true→w3.vs=[]:=fun h=>by rw[eov];exact hn2 h
    have h3v:w3.vs.length≤w3.count:=by rw[eov,eoc];exact h2v
    simp-implicitDefEqProofs[hwb]
    refine(Cs G (id:=3) (ih bd (by omega) (b+1) nf2 w3 hn3 h3v (by omega) (by omega)) (by simp) (by simp[below]) (by decide) rfl rfl).mono ?_
    rintro r h' ⟨nf4,w4,rfl,rfl,hn4,hw4⟩
    rw[←hw4] at hrns eW
    have h4c:w4.count=w3.count+cV bd:=by rw[hw4];exact yq _ _ _ _ _
    have h4v:w4.vs.length≤w4.count:=by
     have:w4.vs=w3.vs:=by rw[hw4];simp[oX,WS.back]
     rw[this,h4c];omega
    simp-implicitDefEqProofs[aa,hwb]
    refine(Cs G (id:=5) (ih el (by omega) (b+1) nf4 w4 hn4 h4v (by omega) (by omega)) (by simp) (by simp[below]) (by decide) rfl rfl).mono ?_
    rintro r h' ⟨nf5,w5,rfl,rfl,hn5,hw5⟩
    rw[←hw5] at eW
    have hsl2:(smR out).length=i:=by rw[fz];exact hol
    simp-implicitDefEqProofs[aa,hsl2]
    refine⟨⟨by omega,by omega⟩,⟨i+1,nf5⟩,⟨by simp only;omega,fun h=>by simp only at h⊢;rw[eW];exact hn5 h⟩,by simp only;omega,?_⟩
    simp only
    rw[eW,eR,vt]
    have htk:List.take i (smR out)=smR out:=List.take_of_length_le (by omega)
    rw[htk]
    have hsm1:smR [rnS fns k b (.mk o nme a bd el) wi]=[[.p (.int .i64 o),.p (.str (opN o nme w1)),.p (exL (iI w1.vs a)),.p (smL (fM fns k (b+1) bd w3)),.p (smL (fM fns k (b+1) el w4))]]:=by rw[smR,List.map_singleton,hrns];rfl
    rw[hsm1]
    refine eC [0,1,8,6] (by simp) (by decide) (by decide) (sT (by simp) rfl (ec (by simp) (bl rfl (fun x hx=>?_) (dc rfl (fI _ _ _) cG)))) (by simp[below,ren,hsl,show IntKind.i64.wrap ((i:Int)+1)=((i:Int)+1) from ah (by omega) (by omega)])
    rcases List.mem_append.1 hx with h|h
    ·exact dC out x h
    ·rw[List.mem_singleton.1 h];simp
   ·simp at h
    have hie:i=l.length:=by omega
    subst hie
    rw[List.take_length] at hn⊢
    obtain⟨ext,hext⟩:=xv fns k l b w
    have hlen:=sx fns k b l w
    refine kf (al 96 [(7,.p (smL (fM fns k b l w)))]) [wO 2 nf fns k (oX fns k b l w),.dead,roC nf (oX fns k b l w).vs] ?_ ?_
    ·have fin:∀(r1:List (Nat × AV)) (w':WS),w'.vs=w.vs∨w'.vs=(bM fns k b l w).vs→(Aw.look r1 7= .sl 2 5 0 l.length)→
      Wk 2 (al 96 r1) [wO 3 nf fns k w',.dead,.row 5 (smR (fM fns k b l w)),roC nf (bM fns k b l w).vs] (al 96 [(7,.p (smL (fM fns k b l w)))]) [wO 2 nf fns k w',.dead,roC nf w'.vs]:=by
      intro r1 w' hv' hr
      refine Wk.trans (Ae (h1:=[wO 3 nf fns k w',.dead,.row 5 (smR (fM fns k b l w)),roC nf w'.vs]) ?_) (Wk.trans (eC (l1:=[(7,.sl 3 5 0 l.length)]) (h1:=[wO 2 nf fns k w',.dead,roC nf w'.vs,.row 5 (smR (fM fns k b l w))]) [0,1,3,2] (by simp) (by decide) (by decide) (sT (by simp) rfl (ec (by simp) (dc rfl (fI _ _ _) (bl rfl (dC _) cG)))) (by simp[below,ren,hr]))
       (lw 3 (by omega) (by simp) rfl (.same (ro (by omega)) (.dead (.same (fI _ _ _) (.nil _)))) ?_))
      ·refine⟨.inl rfl,.inl rfl,.inl rfl,?_,trivial⟩
       rcases hv' with e|e
       ·cases nf with
        |true=>exact .inl rfl
        |false=>
         refine .inr ⟨3,lvR (bM fns k b l w).vs,w.vs.length,rfl,?_⟩
         rw[hext,Dm,e];rfl
       ·rw[e];exact .inl rfl
      ·rw[←hlen]
       exact⟨.one (jj rfl) .nil,trivial⟩
     by_cases hb0:0<b
     ·have hwe:oX fns k b l w=(bM fns k b l w).back w.vs:=if_pos hb0
      rw[hwe]
      have hll2:(bM fns k b l w).vs.length=ext.length+w.vs.length:=by rw[hext,List.length_append]
      cases nf with
      |true=>
       have h0:=hn rfl
       rw[h0] at hext
       have h00:w.vs=[]:=(List.append_eq_nil_iff.1 hext.symm).2
       simp-implicitDefEqProofs[hb0,wO,wC,vaC,h00]
       rw[h00] at fin
       exact fin _ ⟨[],(bM fns k b l w).count,(bM fns k b l w).code⟩ (.inl rfl) (by simp)
      |false=>
       have hle:w.vs.length≤(bM fns k b l w).vs.length:=by omega
       simp-implicitDefEqProofs[hb0,wO,wC,vaC,hle]
       exact fin _ ⟨w.vs,(bM fns k b l w).count,(bM fns k b l w).code⟩ (.inl rfl) (by simp)
     ·have hwe:oX fns k b l w=bM fns k b l w:=if_neg hb0
      have hb0':b=0:=by omega
      subst hb0'
      rw[hwe]
      simp-implicitDefEqProofs[]
      exact fin _ _ (.inr rfl) (by simp)
    ·simp-implicitDefEqProofs[]
     refine⟨nf,_,rfl,rfl,?_,rfl⟩
     intro hnf
     have h0:=hn hnf
     unfold oX
     split
     ·rw[h0] at hext;exact(List.append_eq_nil_iff.1 hext.symm).2
     ·exact h0
end Go.Proofs.YtiojgfhdcpppcaaGreatDoor
namespace Go.Proofs.YtiojgfhdcpppcaaGreatDoor
open Go Go.Aw
set_option maxRecDepth 100000
set_option maxHeartbeats 4000000
def K_spec_l4Fn:AK:= .seq (.reg [oJ 2 (.box 1 (.t 0)),oJ 4 (.alloc [(.p (.str [])),.nils,.nils]),oK 5 0,oK 6 0]) (.seq (.reg [oJ 11 (.ld (some 1) (.t 2)),oM 12 1,oJ 13 (.bld [.nils,(.p (.int .i64 0)),.nils,(.p (.int .i64 0)),(.p (.int .i64 0))] [(0,1,(.t 11)),(1,1,(.t 12))]),oJ 14 (.box 5 (.t 13)),oM 7 14]) (.cut (.reg [oF 15 0 2,oL 16 15,oM 17 1,oJ 18 (.idxS 3 (.t 16) (.t 17)),oJ 19 (.ld (some 3) (.t 18)),oJ 8 (.alloc [(.p (.str [])),.nils,.nils]),⟨none,none,.st 3 (.t 8) (.t 19)⟩]) (.cut (.seq (.reg [oJ 20 (.ld (some 1) (.t 2)),oF 21 0 8,oL 22 21,oJ 23 (.call fP [(.t 20),(.t 22)]),oM 24 1,oJ 25 (.bin .neq (.t 23) (.t 24))]) (.cond (.t 25) (.reg [oM 26 7,oJ 27 (.call aP [(.t 26),(.c (.p (.int .i64 2)))])]) (.skip))) (.seq (.reg [oJ 28 (.bsl 1 [(.p (.str []))] 0 []),oM 9 28]) (.seq (.seq (.reg [oK 10 0]) (.blk 0 (.loop (.seq (.seq (.reg [oM 29 10,oF 30 1 8,oL 31 30,oJ 32 (.len false (.t 31)),oJ 33 (.bin .lss (.t 29) (.t 32))]) (.cond (.t 33) (.skip) (.exit 0))) (.seq (.blk 1 (.reg [oM 36 9,oM 37 7,oF 38 1 8,oL 39 38,oM 40 10,oJ 41 (.idxS 1 (.t 39) (.t 40)),oL 42 41,oJ 43 (.call cd [(.t 37),(.t 42),(.c (.p (.int .i64 0)))]),oJ 44 (.bsl 1 [(.p (.str []))] 1 [(0,1,(.t 43))]),oJ 45 (.app 1 16 (.t 36) (.t 44)),oM 9 45])) (.reg [oM 34 10,oJ 35 (.bin .add (.t 34) (.c (.p (.int .i64 1)))),oM 10 35])))))) (.seq (.reg [oM 46 9,oF 47 1 8,oS 47 46]) (.seq (.reg [oM 48 7,oF 49 2 8,oL 50 49,oJ 51 (.call bj [(.t 48),(.t 50),(.c (.p (.int .i64 0)))]),oF 52 2 8,oS 52 51]) (.seq (.reg [oM 54 7,oN 55 54,oF 56 4 55,oM 58 7,oN 59 58,oF 60 3 59,oJ 53 (.ld (some 3) (.t 8)),oL 57 56,oL 61 60,⟨none,none,.st 3 (.t 4) (.t 53)⟩,⟨none,none,.chk none 56 57⟩,⟨none,none,.chk none 60 61⟩,oM 5 57,oM 6 61]) (.ret)))))))))
theorem xV:K_spec_l4Fn.whole=F_spec_l4Fn.ak:=rfl
theorem xh:∀(ps:List (List UInt8)) (w:WS),w.vs.length≤w.count→(cw ps w).vs.length≤(cw ps w).count
 |[],w,h=>h
 |s::r,w,h=>xh r (jl w s 0) (by simp[jl];omega)
theorem Au(a b:List (List UInt8))(w:WS):cw (a++b) w=cw b (cw a w):=by simp[cw]
theorem yh{l:List (List UInt8)}{w:WS}{i:Nat}(h:i<l.length):cw (l.take (i+1)) w=jl (cw (l.take i) w) l[i] 0:=by
 rw[an h,Au];rfl
theorem xD:∀(a b:List (List UInt8)) (w:WS),lG (a++b) w=lG a w++lG b (cw a w)
 |[],b,w=>rfl
 |s::r,b,w=>by rw[List.cons_append,lG,lG,xD r];rfl
theorem Bv{l:List (List UInt8)}{w:WS}{i:Nat}(h:i<l.length):lG (l.take (i+1)) w=lG (l.take i) w++[vnm (cw (l.take i) w).count]:=by
 rw[an h,xD];rfl
theorem tK:∀(l:List (List UInt8)) (w:WS),(lG l w).length=l.length
 |[],w=>rfl
 |s::r,w=>by rw[lG,List.length_cons,tK r,List.length_cons]
def w0(fns:List Fd)(k:Nat)(f:Fd):WS:=⟨[],0,if dX fns f.name=some k then 0 else 2⟩
theorem Hc(fns:List Fd)(k:Nat)(f:Fd):fnW fns k f=bM fns k 0 f.body (cw f.params (w0 fns k f)):=rfl
theorem za(fns:List Fd)(k:Nat)(f:Fd):(rnF fns k f).cs=[.str f.name,aq (lG f.params (w0 fns k f)),smL (fM fns k 0 f.body (cw f.params (w0 fns k f)))]:=rfl
variable (G:aG)
theorem Ee{fns:List Fd}{k:Nat}{f:Fd}(hk:fns[k]?=some f)(hz:aQ fns≤1073741824):VF Tryz.prog G iz [.agg [.p (fdL fns)],.p (.int .i64 k)] (.tup [.agg ((rnF fns k f).cs.map .p),.p (.int .i64 (fnW fns k f).code),.p (.int .i64 (fnW fns k f).count)]):=by
 have hfl:=dd fns
 have hfm:=cP (List.mem_of_getElem? hk)
 have hfz:f.sz=1+f.name.length+(f.params.length+(f.params.map List.length).sum)+ay f.body:=rfl
 have hkl:=(List.getElem?_eq_some_iff.1 hk).1
 have key:AC Tryz.prog G iz [.agg [.p (fdL fns)],.p (.int .i64 k)] [] fun x h=>x= .ret (.tup [.agg [.p (.str f.name),.sl 5 1 0 f.params.length,.p (smL (fM fns k 0 f.body (cw f.params (w0 fns k f))))],.p (.int .i64 (fnW fns k f).code),.p (.int .i64 (fnW fns k f).count)])∧h[5]?=some (fm (lG f.params (w0 fns k f))):=by
  refine AC.goK xm xV ?_
  have hfd:∀l,fdL l= .lst 3 (l.map Fd.cs):=fun _=>rfl
  have hcs:f.cs=[.str f.name,aq f.params,smL f.body]:=rfl
  have hst:aq f.params= .lst 1 (f.params.map fun w=>[.str w]):=rfl
  simp-implicitDefEqProofs[K_spec_l4Fn,F_spec_l4Fn]
  refine kf (al 62 [(1,.p (.int .i64 k)),(2,.ptr 0 1 0 0),(4,.ptr 1 3 0 0),(7,.ptr 2 5 0 0),(8,.ptr 3 3 0 0)])
   [.row 1 [[.p (fdL fns)]],.row 3 [[.p (.str []),.nils,.nils]],wO 4 true fns k ⟨[],0,0⟩,.row 3 [[.p (.str f.name),.p (aq f.params),.p (smL f.body)]],.dead] ?_ ?_
  ·simp-implicitDefEqProofs[hfd,hk,hcs]
   refine gk (h:=[.row 1 [[.p (fdL fns)]],.row 3 [[.p (.str []),.nils,.nils]],wO 4 true fns k ⟨[],0,0⟩,.row 3 [[.p (.str f.name),.p (aq f.params),.p (smL f.body)]]]) (by simp) (by simp) ?_ (by simp[below])
   refine ae (by simp[okO,below]) (ae (by simp[okO,below]) (ae ?_ (ae (by simp[okO,below]) dg)))
   intro x hx
   rw[List.mem_singleton.1 hx];simp[wC,vaC,below]
  refine kf (al 62 [(1,.p (.int .i64 k)),(2,.ptr 0 1 0 0),(4,.ptr 1 3 0 0),(7,.ptr 2 5 0 0),(8,.ptr 3 3 0 0)])
   [.row 1 [[.p (fdL fns)]],.row 3 [[.p (.str []),.nils,.nils]],wO 4 true fns k (w0 fns k f),.row 3 [[.p (.str f.name),.p (aq f.params),.p (smL f.body)]],.dead] ?_ ?_
  ·simp-implicitDefEqProofs[]
   refine(Ct G fns f.name (by omega)).use ?_
   have hok:∀w:WS,∀o∈[AO.row 1 [[.p (fdL fns)]],.row 3 [[.p (.str []),.nils,.nils]],wO 4 true fns k w,.row 3 [[.p (.str f.name),.p (aq f.params),.p (smL f.body)]],.dead],okO 5 o:=fun w=>
    ae (by simp[okO,below]) (ae (by simp[okO,below]) (ae (ro (by simp)) (ae (by simp[okO,below]) (ae trivial dg))))
   by_cases he:dX fns f.name=some k
   ·have hw:w0 fns k f=⟨[],0,0⟩:=by rw[w0,if_pos he]
    rw[hw,he]
    simp-implicitDefEqProofs[ixI]
    exact af (by simp) (hok _) (by simp[below])
   ·have hw:w0 fns k f=⟨[],0,2⟩:=by rw[w0,if_neg he]
    have hne:¬ixI (dX fns f.name)=(k:Int):=by
     intro h
     apply he
     cases e:dX fns f.name with
     |none=>rw[e] at h;simp only[ixI] at h;omega
     |some j=>rw[e] at h;simp only[ixI] at h;have:j=k:=by omega
              rw[this]
    rw[hw]
    simp-implicitDefEqProofs[hne]
    refine(HS G (wid:=2) (id:=4) (nr G true fns k ⟨[],0,0⟩ 2) (by simp) (by simp[below]) (by decide) rfl rfl).mono ?_
    rintro r h' ⟨rfl,rfl⟩
    simp-implicitDefEqProofs[aa]
    exact af (h:=[AO.row 1 [[.p (fdL fns)]],.row 3 [[.p (.str []),.nils,.nils]],wO 4 true fns k ⟨[],0,2⟩,.row 3 [[.p (.str f.name),.p (aq f.params),.p (smL f.body)]],.dead]) (by simp) (hok _) (by simp[below])
  rw[Hc]
  have hw0v:(w0 fns k f).vs=[]:=rfl
  have hw0c:(w0 fns k f).count=0:=rfl
  generalize w0 fns k f=w0 at hw0v hw0c⊢
  simp-implicitDefEqProofs[]
  have hcnt:∀j,j≤f.params.length→(cw (f.params.take j) w0).count=j:=fun j hj=>by rw[mb,hw0c];simp;omega
  have hvl:∀j,(cw (f.params.take j) w0).vs.length≤(cw (f.params.take j) w0).count:=fun j=>xh _ _ (by rw[hw0v];simp)
  refine aR (fun j:Nat=>al 62 [(1,.p (.int .i64 k)),(2,.ptr 0 1 0 0),(4,.ptr 1 3 0 0),(7,.ptr 2 5 0 0),(8,.ptr 3 3 0 0),(9,.sl 5 1 0 j),(10,.p (.int .i64 j))])
   (fun j=>[.row 1 [[.p (fdL fns)]],.row 3 [[.p (.str []),.nils,.nils]],wO 6 (decide (j=0)) fns k (cw (f.params.take j) w0),.row 3 [[.p (.str f.name),.p (aq f.params),.p (smL f.body)]],.dead,fm (lG (f.params.take j) w0),roC (decide (j=0)) (cw (f.params.take j) w0).vs])
   (fun j=>j≤f.params.length) (fun j=>f.params.length-j) 0 (by simp) ?_ ?_
  ·refine gk (h:=[.row 1 [[.p (fdL fns)]],.row 3 [[.p (.str []),.nils,.nils]],wO 6 true fns k w0,.row 3 [[.p (.str f.name),.p (aq f.params),.p (smL f.body)]],.dead,.row 1 []]) (by simp) (by simp) ?_ (by simp[below])
   refine ae (by simp[okO,below]) (ae (by simp[okO,below]) (ae ?_ (ae (by simp[okO,below]) (ae trivial (ae (by simp[okO]) dg)))))
   intro x hx
   rw[List.mem_singleton.1 hx];simp[wC,vaC,below]
  intro j hj
  have hjc:=hcnt j hj
  have hjv:=hvl j
  have hol:=tK (f.params.take j) w0
  rw[List.length_take,Nat.min_eq_left hj] at hol
  have hnf:decide (j=0)=true→(cw (f.params.take j) w0).vs=[]:=by
   intro h
   have h0:j=0:=by simpa using h
   rw[h0,List.take_zero]
   exact hw0v
  simp-implicitDefEqProofs[hst]
  refine bf (fun h=>?_) (fun h=>?_)
  ·simp at h
   have hg:=List.getElem?_eq_getElem h
   have eP:=yh (w:=w0) h
   have eR:=Bv (w:=w0) h
   simp-implicitDefEqProofs[hg]
   refine(Cs G (wid:=2) (id:=6) (Q:=fun nf' w'=>nf'=false∧w'=jl (cw (f.params.take j) w0) f.params[j] 0) ((CP G (decide (j=0)) fns k _ hnf (by omega) (by omega) f.params[j] 0).mono (by rintro x h ⟨rfl,rfl⟩;exact⟨false,_,rfl,rfl,rfl,rfl⟩)) (by simp) (by simp[below]) (by decide) rfl rfl).mono ?_
   rintro r h' ⟨nf',w',rfl,rfl,rfl,rfl⟩
   have hso:∀l,fm l= .row 1 (l.map fun n=>[.p (.str n)]):=fun _=>rfl
   simp-implicitDefEqProofs[aa,hso,hol]
   refine⟨by omega,j+1,by omega,by omega,?_⟩
   have htk:List.take j ((lG (f.params.take j) w0).map fun n=>[AV.p (.str n)])=(lG (f.params.take j) w0).map fun n=>[AV.p (.str n)]:=List.take_of_length_le (by rw[List.length_map];omega)
   have hd:decide (j+1=0)=false:=by simp
   rw[eP,eR,hd,List.map_append,←List.map_take,List.map_take,htk]
   refine xA [0,1,2,3,4,9,7] rfl (by decide) (bl rfl (by simp) (bl rfl (by simp[below]) (sT (by simp) rfl (bl rfl (by simp) (ec (by simp) (bl rfl (fun x hx=>?_) (dc rfl (fI _ _ _) cG))))))) (by simp[below,ren,w1 (i:=j) (by omega)])
   rcases List.mem_append.1 hx with h|h
   ·exact kN _ x h
   ·exact kN _ x h
  ·simp at h
   have hje:j=f.params.length:=by omega
   subst hje
   rw[List.take_length] at hol hjc hjv hnf⊢
   generalize decide (f.params.length=0)=nf at hnf⊢
   simp-implicitDefEqProofs[]
   refine(Cs G (wid:=2) (id:=6) (DC G (fns:=fns) (by omega) (ay f.body+1) f.body (by omega) 0 _ (cw f.params w0) hnf hjv (by omega) (by omega)) (by simp) (by simp[below]) (by decide) rfl rfl).mono ?_
   rintro r h' ⟨nf',w',rfl,rfl,hn',hw'⟩
   have hb:oX fns k 0 f.body (cw f.params w0)=bM fns k 0 f.body (cw f.params w0):=rfl
   rw[hb] at hw'
   rw[←hw']
   simp-implicitDefEqProofs[aa,wO,wC]
 refine key.freezeR (fun t v h ⟨e,_⟩=>by cases e) fun v h ⟨e1,e2⟩=>?_
 cases e1
 rw[za]
 have hol:=tK f.params (w0 fns k f)
 have hv:=gT e2
 rw[hol] at hv
 exact .tup (.agg (.keep (by simp) (.one hv (.keep (by simp) .nil))) (.keep (by simp) (.keep (by simp) .nil))) .nil
theorem xO{fns:List Fd}{i:Nat}(h:i<fns.length):gL fns i (fns.drop i)=if(fnW fns i fns[i]).code=0 then gL fns (i+1) (fns.drop (i+1)) else(fnW fns i fns[i]).code:=by
 rw[List.drop_eq_getElem_cons h,gL]
theorem sn(l:List Fd)(hz:aQ l≤1073741824):VF Tryz.prog G eQ [.agg [.p (fdL l)]] (.p (.int .i64 (dI l))):=by
 refine AC.go nW ?_
 have hll:=dd l
 have hfd:∀l,fdL l= .lst 3 (l.map Fd.cs):=fun _=>rfl
 simp-implicitDefEqProofs[iS]
 refine(jy G l (by omega)).use ?_
 by_cases hv:bu l=true
 case neg=>
  have:dI l=1:=if_neg hv
  have hv':bu l=false:=by simpa using hv
  simp-implicitDefEqProofs[hv',this]
 have hc:dI l=gL l 0 (l.drop 0):=if_pos hv
 rw[hc]
 simp-implicitDefEqProofs[hv]
 refine aR (fun i:Nat=>al 27 [(1,.ptr 0 1 0 0),(3,.p (.int .i64 i))]) (fun _=>[.row 1 [[.p (fdL l)]]]) (fun i=>i≤l.length∧gL l 0 l=gL l i (l.drop i)) (fun i=>l.length-i) 0 (by simp) (af (by simp) (by simp[okO]) (by simp[below])) ?_
 rintro i ⟨hi,he⟩
 simp-implicitDefEqProofs[hfd]
 refine bf (fun h=>?_) (fun h=>?_)
 ·simp at h
  have hg:=List.getElem?_eq_getElem h
  have hd:=xO h
  simp-implicitDefEqProofs[]
  refine(Ee G hg hz).use ?_
  have hrc:=za l i l[i]
  by_cases h0:(fnW l i l[i]).code=0
  ·rw[if_pos h0] at hd
   simp-implicitDefEqProofs[h0,hrc]
   refine⟨i+1,⟨by omega,by rw[he,hd]⟩,by omega,?_⟩
   refine gf (m:=1) (by omega) (dw rfl rfl (by simp[okO,below])) (by simp[below,hfd,w1 (i:=i) (by omega)])
  ·rw[if_neg h0] at hd
   simp-implicitDefEqProofs[h0,hrc]
   rw[he,hd]
 ·simp at h
  have hie:i=l.length:=by omega
  subst hie
  rw[List.drop_length] at he
  simp-implicitDefEqProofs[]
  rw[he];rfl
end Go.Proofs.YtiojgfhdcpppcaaGreatDoor
namespace Go.Proofs.YtiojgfhdcpppcaaGreatDoor
open Go Go.Aw
set_option maxRecDepth 100000
set_option maxHeartbeats 4000000
def my(f:Fd):Nat:=f.params.length+cV f.body
def re(st:Int)(x:Sm × Nat):Int:=if x.1.op=1 then IntKind.i64.wrap (st+1) else st
mutual
theorem FQ:∀(s:Sm) (d:Nat) (st:Int),0≤st→st+kF s≤1099511627776→(s.pre d).foldl re st=st+kF s
 | .mk o n a bd el,d,st,h0,h=>by
   rw[kF] at h
   have h1:=sf bd (d+1)
   have h2:=sf el (d+1)
   rw[Sm.pre,List.foldl_cons,List.foldl_append,kF]
   by_cases ho:o=1
   ·have e:re st (⟨o,n,a,bd,el⟩,d)=st+1:=by show(if o=1 then _ else _)=_;rw[if_pos ho,ah (by omega) (by rw[if_pos ho] at h;omega)]
    rw[if_pos ho] at h⊢
    rw[e,h1 _ (by omega) (by omega),h2 _ (by omega) (by omega)]
    omega
   ·have e:re st (⟨o,n,a,bd,el⟩,d)=st:=by show(if o=1 then _ else _)=_;rw[if_neg ho]
    rw[if_neg ho] at h⊢
    rw[e,h1 _ (by omega) (by omega),h2 _ (by omega) (by omega)]
    omega
theorem sf:∀(l:List Sm) (d:Nat) (st:Int),0≤st→st+cV l≤1099511627776→(bG d l).foldl re st=st+cV l
 |[],d,st,_,_=>by simp[bG,cV]
 |s::r,d,st,h0,h=>by
  rw[cV] at h
  rw[bG,List.foldl_append,FQ s d st h0 (by omega),sf r d _ (by omega) (by omega),cV]
  omega
end
def yp(f:Fd):Vis Int where
 I:=fun st=>[.row 3 [[.p (.str f.name),.p (aq f.params),.p (smL f.body)]],.row 1 [[.p (.int .i64 st)]]]
 n:=2
 F:=dZ
 caps:=[.ptr 1 1 0 0]
 len:=fun _=>rfl
 ok:=fun st=>by simp[okO,below]
 capsOk:=by simp[below]
variable (G:aG)
theorem vZ(f:Fd)(st:Int)(s:Sm)(d:Nat):AC Tryz.prog G dZ [.agg (s.cs.map .p),.p (.int .i64 d),.ptr 1 1 0 0] ((yp f).I st) fun x h=>x= .ret (.tup [])∧h=(yp f).I (re st (s,d)):=by
 refine(yp f).trim G (AC.go pK ?_) (by simp[below])
 have hse:=s.cs_eq
 by_cases ho:s.op=1
 ·simp-implicitDefEqProofs[gm,hse,yp,re,ho]
 ·simp-implicitDefEqProofs[gm,hse,yp,re,ho]
theorem yx(f:Fd)(hb:f.sz≤1073741824):VF Tryz.prog G iM [.agg (f.cs.map .p)] (.p (.int .i64 (my f))):=by
 have hcs:=f.cs_eq'
 have hfz:f.sz=1+f.name.length+(f.params.length+(f.params.map List.length).sum)+ay f.body:=rfl
 have hl:=mY f.body
 have hl2:=lC f.body
 have hst:aq f.params= .lst 1 (f.params.map fun w=>[.str w]):=rfl
 have hI:=(zQ G (yp f) re (fun _=>True) 1073741824 (by omega) (fun st s d _ _=>⟨trivial,vZ G f st s d⟩) (ay f.body+1) f.body (by omega) (by omega) 1 (by omega) (f.params.length:Int) trivial).2
 rw[sf f.body 1 f.params.length (by omega) (by omega)] at hI
 refine AC.go rR ?_
 simp-implicitDefEqProofs[lI,hcs,hst]
 refine hI.mono ?_
 rintro r h ⟨rfl,rfl⟩
 simp-implicitDefEqProofs[aa,yp,my]
theorem CV(l:List Fd)(hz:aQ l≤1073741824):VF Tryz.prog G kD [.agg [.p (fdL l)]] (.p (.bool (decide (dI l=0)))):=by
 refine AC.go uh ?_
 simp-implicitDefEqProofs[oh]
 refine(sn G l hz).use ?_
 simp-implicitDefEqProofs[]
variable (hK:G gJ=some fY) (hS:G dN=some [.tbl opK opV])
include hK hS
theorem HE(l:List Fd)(hz:aQ l≤1073741824):VF Tryz.prog G lZ [.agg [.p (fdL l)]] (.p (.bool (decide (dI l=0)))):=by
 refine AC.go xd ?_
 simp-implicitDefEqProofs[ru]
 refine(to G hK hS l hz).use ?_
 simp-implicitDefEqProofs[]
end Go.Proofs.YtiojgfhdcpppcaaGreatDoor
namespace Go.Proofs.YtiojgfhdcpppcaaGreatDoor
open Go Go.Aw
set_option maxRecDepth 100000
set_option maxHeartbeats 4000000
def aS{σ α β:Type}(g:σ→α→β × σ):σ→List α→List β × σ
 |st,[]=>([],st)
 |st,x::r=>((g st x).1::(aS g (g st x).2 r).1,(aS g (g st x).2 r).2)
theorem xk{σ α β:Type}(g:σ→α→β × σ):∀(a b:List α) (st:σ),aS g st (a++b)=((aS g st a).1++(aS g (aS g st a).2 b).1,(aS g (aS g st a).2 b).2)
 |[],b,st=>rfl
 |x::r,b,st=>by rw[List.cons_append,aS,xk g r];rfl
theorem nb{σ α β:Type}{g:σ→α→β × σ}{l:List α}{st:σ}{i:Nat}(h:i<l.length):aS g st (l.take (i+1))=((aS g st (l.take i)).1++[(g (aS g st (l.take i)).2 l[i]).1],(g (aS g st (l.take i)).2 l[i]).2):=by
 rw[an h,xk];rfl
theorem mV{σ α β:Type}(g:σ→α→β × σ):∀(l:List α) (st:σ),(aS g st l).1.length=l.length
 |[],st=>rfl
 |x::r,st=>by rw[aS,List.length_cons,List.length_cons,mV g r]
theorem mU{σ α β:Type}{g:σ→α→β × σ}{inv:Nat→σ→Prop}:∀{l:List α} {st:σ} {k:Nat},inv k st→(∀(i:Nat) st (h:i<l.length),inv (k+i) st→inv (k+i+1) (g st l[i]).2)→∀i,i≤l.length→inv (k+i) (aS g st (l.take i)).2
 |[],st,k,h0,_,i,hi=>by
  have:i=0:=by simpa using hi
  subst this;exact h0
 |x::r,st,k,h0,hs,0,_=>h0
 |x::r,st,k,h0,hs,i+1,hi=>by
  have h1:=hs 0 st (by simp) h0
  have:=mU (g:=g) (l:=r) (st:=(g st x).2) (k:=k+1) h1 (fun j st hj hv=>by
   have:=hs (j+1) st (by simp;omega) (by rw[show k+(j+1)=k+1+j by omega];exact hv)
   rw[show k+(j+1)+1=k+1+j+1 by omega] at this
   exact this) i (by simpa using hi)
  rw[List.take_succ_cons,aS,show k+(i+1)=k+1+i by omega]
  exact this
theorem GA{n k:Nat}{A:List AO}{π:List Nat}{h r1:List AO}(hl:A.length=n)(ha:∀o∈A,okO n o)(hh:∀i,i<n→h[i]?=A[i]?)(ρ:List Nat)(hρ:∀i,i<n→ρ.getD i 0=i)(hρn:n≤ρ.length)(hk:k=n)(hr:HW ρ h π r1):HW ρ h (List.range' 0 k++π) (A++r1):=by
 subst hk
 have key:∀(B:List AO) (s:Nat),(∀i:Nat,B[i]?=h[s+i]?∨B.length≤i)→s+B.length=k→(∀o∈B,okO k o)→HW ρ h (List.range' s B.length++π) (B++r1):=by
  intro B
  induction B with
  |nil=>intro s _ _ _;exact hr
  |cons o r ih=>
   intro s hb hs ho
   rw[List.length_cons,List.range'_succ]
   have h0:h[s]?=some o:=by
    rcases hb 0 with h0|h0
    ·simpa using h0.symm
    ·simp at h0
   have hok:=ho o (by simp)
   have ih:=ih (s+1) (fun i=>by
    rcases hb (i+1) with h1|h1
    ·rw[List.getElem?_cons_succ] at h1;left;rw[h1];congr 1;omega
    ·right;simpa using h1) (by simp at hs;omega) (fun o ho'=>ho o (by simp[ho']))
   have hsl:=(List.getElem?_eq_some_iff.1 h0).1
   cases o with
   |dead=>exact ec hsl ih
   |row sz es=>
    refine cf (fun x hx=>aH hρn _ (hok x hx)) ?_ ih
    rw[h0,List.map_congr_left (g:=id) fun x hx=>jh hρ x (hok x hx)];simp
   |mp es=>exact⟨hsl,⟨fun x hx=>by exact(aH hρn [x.2] ⟨hok x hx,trivial⟩).1,by rw[h0,List.map_congr_left (g:=id) fun x hx=>by rw[iY hρ x.2 (hok x hx)];rfl];simp⟩,ih⟩
   |sit s p=>exact⟨hsl,h0,ih⟩
 have:=key A 0 (fun i=>by
  rcases Nat.lt_or_ge i A.length with hi|hi
  ·left;rw[Nat.zero_add];exact(hh i (by omega)).symm
  ·right;exact hi) (by omega) ha
 rwa[hl] at this
theorem we{kk q n m d sz c:Nat}{A mid s:List AO}{es:List (List AV)}{l l1:List (Nat × AV)}(hl:A.length=n)(hm:mid.length=m)(hk:kk≤n)(ha:∀o∈A,okO n o)(he:∀x∈es,ag 0 x)(H:FgA n l l1)(hd:Aw.look l d= .sl (n+m) sz 0 c):
 Wk kk (al q l) (A++(mid++ .row sz es::s)) (al q ((d,.sl n sz 0 c)::l1)) (A++[.row sz es]):=by
 have hρ:∀i,i<n→(List.range' 0 n++[n+m]).getD i 0=i:=fun i hi=>by
  rw[List.getD_eq_getElem?_getD,List.getElem?_append_left (by simp;exact hi)];simp[hi]
 have hρn:(List.range' 0 n++[n+m]).getD n 0=n+m:=by
  rw[List.getD_eq_getElem?_getD,List.getElem?_append_right (by simp)];simp
 refine eC (List.range' 0 n++[n+m]) (by simp;omega) (fun i hi=>hρ i (by omega)) ?_ ?_ ?_
 ·refine List.nodup_append.2 ⟨List.nodup_range',by simp,fun a ha b hb e=>?_⟩
  rw[List.mem_singleton] at hb
  have:=(List.mem_range'_1.1 ha).2
  omega
 ·refine GA hl ha (fun i hi=>by rw[List.getElem?_append_left (by omega)]) _ hρ (by simp) rfl ?_
  refine bl ?_ he cG
  rw[List.getElem?_append_right (by omega),hl,Nat.add_sub_cancel_left,List.getElem?_append_right (by omega),hm,Nat.sub_self];rfl
 ·refine⟨⟨by simp only[below];simp,by simp only[ren,hρn];exact hd.symm⟩,?_⟩
  clear hd
  induction l1 with
  |nil=>trivial
  |cons x r ih=>
   obtain⟨⟨a,c⟩,e⟩:=H
   exact⟨⟨(aH (by simp) [x.2] ⟨a,trivial⟩).1,by rw[iY hρ _ a,c]⟩,ih e⟩
theorem qm{hF:List AO}{n:Nat}:∀{A r:List AO},(∀o∈A,okO n o)→FzO hF n (A++r) A
 |[],r,_=> .nil r
 |o::a,r,h=> .same (h o (by simp)) (qm fun o ho=>h o (by simp[ho]))
theorem rY{n:Nat}{A r:List AO}{o:AO}(hl:A.length=n):(lV n (A++o::r))[n]?=some o:=by
 unfold lV
 rw[List.getElem?_append_right (by simp),List.length_replicate,Nat.sub_self,←hl,List.drop_left']
 ·rfl
 ·rfl
variable (G:aG)
theorem uF{σ:Type}(V:Vis σ)(g:σ→Ex→Ex × σ)(inv:Nat→σ→Prop)(l:List Ex)(hb:l.length≤1073741824)(hn:0<V.n)
 (hv:∀(i:Nat) st (h:i<l.length),inv i st→inv (i+1) (g st l[i]).2∧AC Tryz.prog G V.F (.agg (l[i].cs.map .p)::V.caps) (V.I st) fun x h'=>x= .ret (.agg ((g st l[i]).1.cs.map .p))∧h'=V.I (g st l[i]).2)(st:σ)(h0:inv 0 st):
 AC Tryz.prog G aK [.p (exL l),.fn (.func V.F) V.caps] (V.I st) fun x h=>x= .ret (.p (exL (aS g st l).1))∧h=V.I (aS g st l).2:=by
 have hxl:∀l,exL l= .lst 4 (l.map Ex.cs):=fun _=>rfl
 have hlen:=V.len
 have hcb:=V.capsOk
 have hinv:∀i,i≤l.length→inv i (aS g st (l.take i)).2:=fun i hi=>by
  have:=mU (g:=g) (inv:=inv) (l:=l) (st:=st) (k:=0) h0 (fun i st h hi=>by
   rw[Nat.zero_add] at hi⊢;exact(hv i st h hi).1) i hi
  rwa[Nat.zero_add] at this
 have hRp:∀l:List Ex,∀x∈exR l,ag 0 x:=dx
 have hRl:∀l:List Ex,(exR l).length=l.length:=fun l=>by simp[exR]
 have hRa:∀(l:List Ex) (y:Ex),exR (l++[y])=exR l++[y.cs.map .p]:=fun l y=>by simp[exR]
 have key:AC Tryz.prog G aK [.p (exL l),.fn (.func V.F) V.caps] (V.I st) fun x h=>x= .ret (slE V.n 4 (exR (aS g st l).1))∧h=V.I (aS g st l).2++[bk 4 (exR (aS g st l).1)]:=by
  refine AC.go lb ?_
  simp-implicitDefEqProofs[fQ,hxl]
  refine aR (fun i:Nat=>al 22 [(5,slE V.n 4 (exR (aS g st (l.take i)).1)),(0,.p (exL l)),(1,.fn (.func V.F) V.caps),(8,.p (exL l)),(9,.p (.int .i64 l.length)),(10,.p (.int .i64 i))])
   (fun i=>V.I (aS g st (l.take i)).2++[bk 4 (exR (aS g st (l.take i)).1)]) (fun i=>i≤l.length) (fun i=>l.length-i) 0 (by simp) ?_ ?_
  ·have e:bk 4 (exR (aS g st (l.take 0)).1)= .dead:=rfl
   rw[e]
   exact gk (by rw[hlen];exact Nat.le_refl _) (by rw[hlen];exact hn) (by rw[hlen];exact V.ok st) (by simp[below,hxl,hcb,hlen,aS,exR,lg])
  intro i hi
  have hT:=fun h=>nb (g:=g) (l:=l) (st:=st) (i:=i) h
  have hi2:=hinv i hi
  have hml:=mV g (l.take i) st
  rw[List.length_take,Nat.min_eq_left hi] at hml
  generalize hcur:aS g st (l.take i)=cur at hT hi2 hml⊢
  obtain⟨out,s⟩:=cur
  simp only at hT hi2 hml⊢
  simp-implicitDefEqProofs[hxl]
  refine bf (fun hc=>?_) (fun hc=>?_)
  ·simp at hc
   have hg:=List.getElem?_eq_getElem hc
   have hT:=hT hc
   obtain⟨_,hA⟩:=hv i s hc hi2
   generalize l[i]=x at hg hT hA
   have hkc:=x.cs_eq
   have hyc:=(g s x).1.cs_eq
   rw[hkc] at hA
   simp-implicitDefEqProofs[hg,hkc,hlen]
   refine(V.pre G hA _ ⟨by simp[below],hcb⟩).mono ?_
   rintro r h ⟨rfl,rfl⟩
   rw[hyc]
   simp-implicitDefEqProofs[aa,hlen]
   have hol:=hRl out
   refine⟨⟨by omega,by omega⟩,i+1,hc,by omega,?_⟩
   rw[hT]
   simp only[hRa]
   rw[lE _ (by simp),jG _ (by simp),hyc]
   refine we (mid:=[_,_,_]) (s:=[]) (hlen _) rfl (Nat.le_refl _) (V.ok _) ?_ ?_ ?_
   ·intro x hx
    rcases List.mem_append.1 hx with h|h
    ·exact hRp _ x h
    ·rw[List.mem_singleton.1 h];simp
   ·simp[below,hxl,hcb,w1 (i:=i) (by omega)]
   ·simp
  ·simp at hc
   have hie:i=l.length:=by omega
   subst hie
   rw[List.take_length] at hcur
   rw[hcur]
   simp-implicitDefEqProofs[]
 refine key.frz V.n (by rw[hlen];exact Nat.le_refl _) (fun t v h ⟨e,_⟩=>by cases e) ?_
 rintro v h ⟨e,rfl⟩
 cases e
 refine⟨_,V.I (aS g st l).2,by rw[List.length_append,hlen];omega,hlen _,.one ?_ .nil,qm (V.ok _),rfl,rfl⟩
 have ht:=rY (r:=[]) (o:=bk 4 (exR (aS g st l).1)) (hlen (aS g st l).2)
 have hh:exR (aS g st l).1=((aS g st l).1.map Ex.cs).map (·.map .p):=by simp[exR]
 rw[hh] at ht⊢
 exact qH ht (fun x hx=>by obtain⟨b,_,rfl⟩:=List.mem_map.1 hx;simp)
theorem AA{σ:Type}(V:Vis σ)(g:σ→Sm→Sm × σ)(inv:Nat→σ→Prop)(l:List Sm)(hb:l.length≤1073741824)(hn:0<V.n)
 (hv:∀(i:Nat) st (h:i<l.length),inv i st→inv (i+1) (g st l[i]).2∧AC Tryz.prog G V.F (.agg (l[i].cs.map .p)::V.caps) (V.I st) fun x h'=>x= .ret (.agg ((g st l[i]).1.cs.map .p))∧h'=V.I (g st l[i]).2)(st:σ)(h0:inv 0 st):
 AC Tryz.prog G cg [.p (smL l),.fn (.func V.F) V.caps] (V.I st) fun x h=>x= .ret (.p (smL (aS g st l).1))∧h=V.I (aS g st l).2:=by
 have hxl:∀l,smL l= .lst 5 (l.map Sm.cs):=fun _=>rfl
 have hlen:=V.len
 have hcb:=V.capsOk
 have hinv:∀i,i≤l.length→inv i (aS g st (l.take i)).2:=fun i hi=>by
  have:=mU (g:=g) (inv:=inv) (l:=l) (st:=st) (k:=0) h0 (fun i st h hi=>by
   rw[Nat.zero_add] at hi⊢;exact(hv i st h hi).1) i hi
  rwa[Nat.zero_add] at this
 have hRp:∀l:List Sm,∀x∈smR l,ag 0 x:=dC
 have hRl:∀l:List Sm,(smR l).length=l.length:=fun l=>by simp[smR]
 have hRa:∀(l:List Sm) (y:Sm),smR (l++[y])=smR l++[y.cs.map .p]:=fun l y=>by simp[smR]
 have key:AC Tryz.prog G cg [.p (smL l),.fn (.func V.F) V.caps] (V.I st) fun x h=>x= .ret (slE V.n 5 (smR (aS g st l).1))∧h=V.I (aS g st l).2++[bk 5 (smR (aS g st l).1)]:=by
  refine AC.go la ?_
  simp-implicitDefEqProofs[fS,hxl]
  refine aR (fun i:Nat=>al 22 [(5,slE V.n 5 (smR (aS g st (l.take i)).1)),(0,.p (smL l)),(1,.fn (.func V.F) V.caps),(8,.p (smL l)),(9,.p (.int .i64 l.length)),(10,.p (.int .i64 i))])
   (fun i=>V.I (aS g st (l.take i)).2++[bk 5 (smR (aS g st (l.take i)).1)]) (fun i=>i≤l.length) (fun i=>l.length-i) 0 (by simp) ?_ ?_
  ·have e:bk 5 (smR (aS g st (l.take 0)).1)= .dead:=rfl
   rw[e]
   exact gk (by rw[hlen];exact Nat.le_refl _) (by rw[hlen];exact hn) (by rw[hlen];exact V.ok st) (by simp[below,hxl,hcb,hlen,aS,smR,lg])
  intro i hi
  have hT:=fun h=>nb (g:=g) (l:=l) (st:=st) (i:=i) h
  have hi2:=hinv i hi
  have hml:=mV g (l.take i) st
  rw[List.length_take,Nat.min_eq_left hi] at hml
  generalize hcur:aS g st (l.take i)=cur at hT hi2 hml⊢
  obtain⟨out,s⟩:=cur
  simp only at hT hi2 hml⊢
  simp-implicitDefEqProofs[hxl]
  refine bf (fun hc=>?_) (fun hc=>?_)
  ·simp at hc
   have hg:=List.getElem?_eq_getElem hc
   have hT:=hT hc
   obtain⟨_,hA⟩:=hv i s hc hi2
   generalize l[i]=x at hg hT hA
   have hkc:=x.cs_eq
   have hyc:=(g s x).1.cs_eq
   rw[hkc] at hA
   simp-implicitDefEqProofs[hg,hkc,hlen]
   refine(V.pre G hA _ ⟨by simp[below],hcb⟩).mono ?_
   rintro r h ⟨rfl,rfl⟩
   rw[hyc]
   simp-implicitDefEqProofs[aa,hlen]
   have hol:=hRl out
   refine⟨⟨by omega,by omega⟩,i+1,hc,by omega,?_⟩
   rw[hT]
   simp only[hRa]
   rw[lE _ (by simp),jG _ (by simp),hyc]
   refine we (mid:=[_,_,_]) (s:=[]) (hlen _) rfl (Nat.le_refl _) (V.ok _) ?_ ?_ ?_
   ·intro x hx
    rcases List.mem_append.1 hx with h|h
    ·exact hRp _ x h
    ·rw[List.mem_singleton.1 h];simp
   ·simp[below,hxl,hcb,w1 (i:=i) (by omega)]
   ·simp
  ·simp at hc
   have hie:i=l.length:=by omega
   subst hie
   rw[List.take_length] at hcur
   rw[hcur]
   simp-implicitDefEqProofs[]
 refine key.frz V.n (by rw[hlen];exact Nat.le_refl _) (fun t v h ⟨e,_⟩=>by cases e) ?_
 rintro v h ⟨e,rfl⟩
 cases e
 refine⟨_,V.I (aS g st l).2,by rw[List.length_append,hlen];omega,hlen _,.one ?_ .nil,qm (V.ok _),rfl,rfl⟩
 have ht:=rY (r:=[]) (o:=bk 5 (smR (aS g st l).1)) (hlen (aS g st l).2)
 have hh:smR (aS g st l).1=((aS g st l).1.map Sm.cs).map (·.map .p):=by simp[smR]
 rw[hh] at ht⊢
 exact qH ht (fun x hx=>by obtain⟨b,_,rfl⟩:=List.mem_map.1 hx;simp)
theorem EI{σ:Type}(V:Vis σ)(g:σ→Fd→Fd × σ)(inv:Nat→σ→Prop)(l:List Fd)(hb:l.length≤1073741824)(hn:0<V.n)
 (hv:∀(i:Nat) st (h:i<l.length),inv i st→inv (i+1) (g st l[i]).2∧AC Tryz.prog G V.F (.agg (l[i].cs.map .p)::V.caps) (V.I st) fun x h'=>x= .ret (.agg ((g st l[i]).1.cs.map .p))∧h'=V.I (g st l[i]).2)(st:σ)(h0:inv 0 st):
 AC Tryz.prog G cS [.p (fdL l),.fn (.func V.F) V.caps] (V.I st) fun x h=>x= .ret (.p (fdL (aS g st l).1))∧h=V.I (aS g st l).2:=by
 have hxl:∀l,fdL l= .lst 3 (l.map Fd.cs):=fun _=>rfl
 have hlen:=V.len
 have hcb:=V.capsOk
 have hinv:∀i,i≤l.length→inv i (aS g st (l.take i)).2:=fun i hi=>by
  have:=mU (g:=g) (inv:=inv) (l:=l) (st:=st) (k:=0) h0 (fun i st h hi=>by
   rw[Nat.zero_add] at hi⊢;exact(hv i st h hi).1) i hi
  rwa[Nat.zero_add] at this
 have hRp:∀l:List Fd,∀x∈aI l,ag 0 x:=je
 have hRl:∀l:List Fd,(aI l).length=l.length:=fun l=>by simp[aI]
 have hRa:∀(l:List Fd) (y:Fd),aI (l++[y])=aI l++[y.cs.map .p]:=fun l y=>by simp[aI]
 have key:AC Tryz.prog G cS [.p (fdL l),.fn (.func V.F) V.caps] (V.I st) fun x h=>x= .ret (slE V.n 3 (aI (aS g st l).1))∧h=V.I (aS g st l).2++[bk 3 (aI (aS g st l).1)]:=by
  refine AC.go lY ?_
  simp-implicitDefEqProofs[gD,hxl]
  refine aR (fun i:Nat=>al 22 [(5,slE V.n 3 (aI (aS g st (l.take i)).1)),(0,.p (fdL l)),(1,.fn (.func V.F) V.caps),(8,.p (fdL l)),(9,.p (.int .i64 l.length)),(10,.p (.int .i64 i))])
   (fun i=>V.I (aS g st (l.take i)).2++[bk 3 (aI (aS g st (l.take i)).1)]) (fun i=>i≤l.length) (fun i=>l.length-i) 0 (by simp) ?_ ?_
  ·have e:bk 3 (aI (aS g st (l.take 0)).1)= .dead:=rfl
   rw[e]
   exact gk (by rw[hlen];exact Nat.le_refl _) (by rw[hlen];exact hn) (by rw[hlen];exact V.ok st) (by simp[below,hxl,hcb,hlen,aS,aI,lg])
  intro i hi
  have hT:=fun h=>nb (g:=g) (l:=l) (st:=st) (i:=i) h
  have hi2:=hinv i hi
  have hml:=mV g (l.take i) st
  rw[List.length_take,Nat.min_eq_left hi] at hml
  generalize hcur:aS g st (l.take i)=cur at hT hi2 hml⊢
  obtain⟨out,s⟩:=cur
  simp only at hT hi2 hml⊢
  simp-implicitDefEqProofs[hxl]
  refine bf (fun hc=>?_) (fun hc=>?_)
  ·simp at hc
   have hg:=List.getElem?_eq_getElem hc
   have hT:=hT hc
   obtain⟨_,hA⟩:=hv i s hc hi2
   generalize l[i]=x at hg hT hA
   have hkc:=x.cs_eq'
   have hyc:=(g s x).1.cs_eq'
   rw[hkc] at hA
   simp-implicitDefEqProofs[hg,hkc,hlen]
   refine(V.pre G hA _ ⟨by simp[below],hcb⟩).mono ?_
   rintro r h ⟨rfl,rfl⟩
   rw[hyc]
   simp-implicitDefEqProofs[aa,hlen]
   have hol:=hRl out
   refine⟨⟨by omega,by omega⟩,i+1,hc,by omega,?_⟩
   rw[hT]
   simp only[hRa]
   rw[lE _ (by simp),jG _ (by simp),hyc]
   refine we (mid:=[_,_,_]) (s:=[]) (hlen _) rfl (Nat.le_refl _) (V.ok _) ?_ ?_ ?_
   ·intro x hx
    rcases List.mem_append.1 hx with h|h
    ·exact hRp _ x h
    ·rw[List.mem_singleton.1 h];simp
   ·simp[below,hxl,hcb,w1 (i:=i) (by omega)]
   ·simp
  ·simp at hc
   have hie:i=l.length:=by omega
   subst hie
   rw[List.take_length] at hcur
   rw[hcur]
   simp-implicitDefEqProofs[]
 refine key.frz V.n (by rw[hlen];exact Nat.le_refl _) (fun t v h ⟨e,_⟩=>by cases e) ?_
 rintro v h ⟨e,rfl⟩
 cases e
 refine⟨_,V.I (aS g st l).2,by rw[List.length_append,hlen];omega,hlen _,.one ?_ .nil,qm (V.ok _),rfl,rfl⟩
 have ht:=rY (r:=[]) (o:=bk 3 (aI (aS g st l).1)) (hlen (aS g st l).2)
 have hh:aI (aS g st l).1=((aS g st l).1.map Fd.cs).map (·.map .p):=by simp[aI]
 rw[hh] at ht⊢
 exact qH ht (fun x hx=>by obtain⟨b,_,rfl⟩:=List.mem_map.1 hx;simp)
theorem He{σ:Type}(V:Vis σ)(g:σ→List UInt8→List UInt8 × σ)(inv:Nat→σ→Prop)(l:List (List UInt8))(hb:l.length≤1073741824)(hn:0<V.n)
 (hv:∀(i:Nat) st (h:i<l.length),inv i st→inv (i+1) (g st l[i]).2∧AC Tryz.prog G V.F (.p (.str l[i])::V.caps) (V.I st) fun x h'=>x= .ret (.p (.str (g st l[i]).1))∧h'=V.I (g st l[i]).2)(st:σ)(h0:inv 0 st):
 AC Tryz.prog G de [.p (aq l),.fn (.func V.F) V.caps] (V.I st) fun x h=>x= .ret (.p (aq (aS g st l).1))∧h=V.I (aS g st l).2:=by
 have hxl:∀l,aq l= .lst 1 (l.map fun w=>[.str w]):=fun _=>rfl
 have hlen:=V.len
 have hcb:=V.capsOk
 have hinv:∀i,i≤l.length→inv i (aS g st (l.take i)).2:=fun i hi=>by
  have:=mU (g:=g) (inv:=inv) (l:=l) (st:=st) (k:=0) h0 (fun i st h hi=>by
   rw[Nat.zero_add] at hi⊢;exact(hv i st h hi).1) i hi
  rwa[Nat.zero_add] at this
 have hRp:∀l:List (List UInt8),∀x∈nz l,ag 0 x:=kN
 have hRl:∀l:List (List UInt8),(nz l).length=l.length:=fun l=>by simp[nz]
 have hRa:∀(l:List (List UInt8)) (y:List UInt8),nz (l++[y])=nz l++[[.p (.str y)]]:=fun l y=>by simp[nz]
 have key:AC Tryz.prog G de [.p (aq l),.fn (.func V.F) V.caps] (V.I st) fun x h=>x= .ret (slE V.n 1 (nz (aS g st l).1))∧h=V.I (aS g st l).2++[bk 1 (nz (aS g st l).1)]:=by
  refine AC.go mX ?_
  simp-implicitDefEqProofs[ir,hxl]
  refine aR (fun i:Nat=>al 22 [(5,slE V.n 1 (nz (aS g st (l.take i)).1)),(0,.p (aq l)),(1,.fn (.func V.F) V.caps),(8,.p (aq l)),(9,.p (.int .i64 l.length)),(10,.p (.int .i64 i))])
   (fun i=>V.I (aS g st (l.take i)).2++[bk 1 (nz (aS g st (l.take i)).1)]) (fun i=>i≤l.length) (fun i=>l.length-i) 0 (by simp) ?_ ?_
  ·have e:bk 1 (nz (aS g st (l.take 0)).1)= .dead:=rfl
   rw[e]
   exact gk (by rw[hlen];exact Nat.le_refl _) (by rw[hlen];exact hn) (by rw[hlen];exact V.ok st) (by simp[below,hxl,hcb,hlen,aS,nz,lg])
  intro i hi
  have hT:=fun h=>nb (g:=g) (l:=l) (st:=st) (i:=i) h
  have hi2:=hinv i hi
  have hml:=mV g (l.take i) st
  rw[List.length_take,Nat.min_eq_left hi] at hml
  generalize hcur:aS g st (l.take i)=cur at hT hi2 hml⊢
  obtain⟨out,s⟩:=cur
  simp only at hT hi2 hml⊢
  simp-implicitDefEqProofs[hxl]
  refine bf (fun hc=>?_) (fun hc=>?_)
  ·simp at hc
   have hg:=List.getElem?_eq_getElem hc
   have hT:=hT hc
   obtain⟨_,hA⟩:=hv i s hc hi2
   generalize l[i]=x at hg hT hA
   simp-implicitDefEqProofs[hg,hlen]
   refine(V.pre G hA _ ⟨by simp[below],hcb⟩).mono ?_
   rintro r h ⟨rfl,rfl⟩
   simp-implicitDefEqProofs[aa,hlen]
   have hol:=hRl out
   refine⟨⟨by omega,by omega⟩,i+1,hc,by omega,?_⟩
   rw[hT]
   simp only[hRa]
   rw[lE _ (by simp),jG _ (by simp)]
   refine we (mid:=[_,_]) (s:=[]) (hlen _) rfl (Nat.le_refl _) (V.ok _) ?_ ?_ ?_
   ·intro x hx
    rcases List.mem_append.1 hx with h|h
    ·exact hRp _ x h
    ·rw[List.mem_singleton.1 h];simp
   ·simp[below,hxl,hcb,w1 (i:=i) (by omega)]
   ·simp
  ·simp at hc
   have hie:i=l.length:=by omega
   subst hie
   rw[List.take_length] at hcur
   rw[hcur]
   simp-implicitDefEqProofs[]
 refine key.frz V.n (by rw[hlen];exact Nat.le_refl _) (fun t v h ⟨e,_⟩=>by cases e) ?_
 rintro v h ⟨e,rfl⟩
 cases e
 refine⟨_,V.I (aS g st l).2,by rw[List.length_append,hlen];omega,hlen _,.one ?_ .nil,qm (V.ok _),rfl,rfl⟩
 have ht:=rY (r:=[]) (o:=bk 1 (nz (aS g st l).1)) (hlen (aS g st l).2)
 have hh:nz (aS g st l).1=((aS g st l).1.map fun w=>[PV.str w]).map (·.map .p):=by simp[nz]
 rw[hh] at ht⊢
 exact qH ht (fun x hx=>by obtain⟨b,_,rfl⟩:=List.mem_map.1 hx;rfl)
end Go.Proofs.YtiojgfhdcpppcaaGreatDoor
namespace Go.Proofs.YtiojgfhdcpppcaaGreatDoor
open Go Go.Aw
set_option maxRecDepth 100000
def irN(ch:List Scp)(s:List UInt8):List UInt8:=vnm ((er ch s).getD 0)
mutual
def irE(ch:List Scp):Ex→Ex
 | .mk o n s ks=> .mk o n (if o=2 then irN ch s else s) (kV ch ks)
def kV(ch:List Scp):List Ex→List Ex
 |[]=>[]
 |e::r=>irE ch e::kV ch r
end
mutual
def irS:Sm→Scp→List Scp→Nat→Sm × Scp × Nat
 | .mk o s a bd el,m,up,n=>
   let m2:=opS o s m n
   let n2:=if o=1 then n+1 else n
   let x:=dF bd [] (m2::up) n2
   let y:=dF el [] (m2::up) x.2.2
   (.mk o (if o=1 then vnm n else if o=2 then irN (m::up) s else s) (kV (m::up) a) x.1 y.1,m2,y.2.2)
def dF:List Sm→Scp→List Scp→Nat→List Sm × Scp × Nat
 |[],m,_,n=>([],m,n)
 |s::r,m,up,n=>
  let x:=irS s m up n
  let y:=dF r x.2.1 up x.2.2
  (x.1::y.1,y.2.1,y.2.2)
end
def fk:List (List UInt8)→Scp→Nat→List (List UInt8) × Scp × Nat
 |[],m,n=>([],m,n)
 |s::r,m,n=>let y:=fk r (eK m s n) (n+1);(vnm n::y.1,y.2.1,y.2.2)
def irF(f:Fd):Fd:=
 let x:=fk f.params [] 0
 ⟨f.name,x.1,(dF f.body x.2.1 [] x.2.2).1⟩
theorem qS{vs:List LV}{s:List UInt8}{c:Int}(h:c≠0):nC vs s c=c:=by unfold nC;split<;>simp[sL h]
theorem yD{fns:List Fd}{k:Nat}{s:List UInt8}{n:Nat}{c:Int}(h:c≠0):mv fns k s n c=c:=by
 unfold mv
 simp only[sL h]
 split
 ·rfl
 ·split
  ·rfl
  ·split<;>rfl
theorem zg{fns:List Fd}{k:Nat}{vs:List LV}{o:Int}{s:List UInt8}{n:Nat}{c:Int}(h:c≠0):kY fns k vs o s n c=c:=by
 unfold kY
 rw[qS h,yD h]
 split
 ·rfl
 ·split<;>rfl
mutual
theorem AF(fns:List Fd)(k:Nat)(vs:List LV){c:Int}(h:c≠0):∀e:Ex,rU fns k vs e c=c
 | .mk o n s ks=>by rw[rU,zg h,lq fns k vs h ks]
theorem lq(fns:List Fd)(k:Nat)(vs:List LV){c:Int}(h:c≠0):∀l:List Ex,bH fns k vs l c=c
 |[]=>rfl
 |e::r=>by rw[bH,AF fns k vs h e,lq fns k vs h r]
end
theorem tm{fns:List Fd}{k:Nat}{vs:List LV}{l:List Ex}{c:Int}(h:bH fns k vs l c=0):c=0:=by
 by_cases hc:c=0
 ·exact hc
 ·rw[lq fns k vs hc] at h;exact h
theorem uC{vs:List LV}{s:List UInt8}{c:Int}(h:nC vs s c=0):c=0∧∃v,lkV vs s=some v:=by
 by_cases hc:c=0
 ·refine⟨hc,?_⟩
  unfold nC at h
  cases e:lkV vs s with
  |some v=>exact⟨v,rfl⟩
  |none=>rw[e] at h;simp[fl,hc] at h
 ·rw[qS hc] at h;exact absurd h hc
abbrev gN:LV→Nat:=fun v=>v.num
theorem zA{b:Nat}{vs:List LV}{ch:List Scp}(h:SR gN b vs ch){s:List UInt8}(hv:∃v,lkV vs s=some v):qN vs s=irN ch s:=by
 obtain⟨v,e⟩:=hv
 rw[qN,irN,←h.fnd s,e];rfl
mutual
theorem Hk{fns:List Fd}{k b:Nat}{vs:List LV}{ch:List Scp}(h:SR gN b vs ch):∀(e:Ex) (c:Int),rU fns k vs e c=0→rnE vs e=irE ch e
 | .mk o n s ks,c,hz=>by
   rw[rU] at hz
   rw[rnE,irE,vo h ks _ hz]
   by_cases ho:o=2
   ·have h1:=tm hz
    rw[kY,if_pos ho] at h1
    rw[if_pos ho,if_pos ho,zA h (uC h1).2]
   ·rw[if_neg ho,if_neg ho]
theorem vo{fns:List Fd}{k b:Nat}{vs:List LV}{ch:List Scp}(h:SR gN b vs ch):∀(l:List Ex) (c:Int),bH fns k vs l c=0→iI vs l=kV ch l
 |[],c,_=>rfl
 |e::r,c,hz=>by
  rw[bH] at hz
  rw[iI,kV,Hk h e c (tm hz),vo h r _ hz]
end
theorem xT{o:Int}{s:List UInt8}{b:Nat}{w:WS}(h:w.code≠0):(opW o s b w).code=w.code:=by
 unfold opW
 split
 ·simp only[jl,sB,sL h]
  split
  ·rfl
  ·split<;>rfl
 ·split
  ·exact qS h
  ·rfl
mutual
theorem DR(fns:List Fd)(k:Nat):∀(s:Sm) (b:Nat) (w:WS),w.code≠0→(stW fns k b s w).code=w.code
 | .mk o s a bd el,b,w,h=>by
   have e1:(bH fns k w.vs a w.code)=w.code:=lq fns k w.vs h a
   have e2:(opW o s b ⟨w.vs,w.count,bH fns k w.vs a w.code⟩).code=w.code:=by rw[xT]<;>simp only[e1];exact h
   have e3:=nv fns k bd (b+1) (opW o s b ⟨w.vs,w.count,bH fns k w.vs a w.code⟩) (by rw[e2];exact h)
   rw[stW,gO,nv fns k el _ _ (by rw[gO,e3,e2];exact h),gO,e3,e2]
theorem nv(fns:List Fd)(k:Nat):∀(l:List Sm) (b:Nat) (w:WS),w.code≠0→(bM fns k b l w).code=w.code
 |[],b,w,h=>rfl
 |s::r,b,w,h=>by
  have e1:=DR fns k s b w h
  rw[bM,nv fns k r b _ (by rw[e1];exact h),e1]
end
theorem qX{fns:List Fd}{k b:Nat}{l:List Sm}{w:WS}(h:(bM fns k b l w).code=0):w.code=0:=by
 by_cases hc:w.code=0
 ·exact hc
 ·rw[nv fns k l b w hc] at h;exact h
theorem Dh{o:Int}{s:List UInt8}{b:Nat}{w:WS}(h:(opW o s b w).code=0):w.code=0:=by
 by_cases hc:w.code=0
 ·exact hc
 ·rw[xT hc] at h;exact h
theorem Ha{b:Nat}{w:WS}{m:Scp}{up:List Scp}(h:SR gN b w.vs (m::up))(o:Int)(s:List UInt8)(c:Int)(hz:(opW o s b ⟨w.vs,w.count,c⟩).code=0):
 SR gN b (opW o s b ⟨w.vs,w.count,c⟩).vs (opS o s m w.count::up)∧opN o s w=(if o=1 then vnm w.count else if o=2 then irN (m::up) s else s):=by
 unfold opW at hz⊢
 unfold opS opN
 by_cases h1:o=1
 ·simp only[h1,if_true]
  exact⟨h.add s _ _ rfl,trivial⟩
 ·simp only[if_neg h1] at hz⊢
  by_cases h2:o=2
  ·simp only[h2,if_true] at hz⊢
   exact⟨h,zA h (uC hz).2⟩
  ·simp only[if_neg h2]
   exact⟨h,trivial⟩
mutual
theorem GC(fns:List Fd)(k:Nat):∀(s:Sm) (b:Nat) (w:WS) (m:Scp) (up:List Scp),SR gN b w.vs (m::up)→(stW fns k b s w).code=0→
 rnS fns k b s w=(irS s m up w.count).1∧SR gN b (stW fns k b s w).vs ((irS s m up w.count).2.1::up)∧(stW fns k b s w).count=(irS s m up w.count).2.2
 | .mk o s a bd el,b,w,m,up,h,hz=>by
   rw[stW,gO] at hz
   have z1:=qX hz
   rw[gO] at z1
   have z2:=qX z1
   have z3:=Dh z2
   obtain⟨p1,p2⟩:=Ha h o s _ z2
   obtain⟨q1,q2,q3⟩:=sc fns k bd (b+1) _ [] _ p1.open z1
   obtain⟨r1,r2,r3⟩:=sc fns k el (b+1) ((bM fns k (b+1) bd (opW o s b ⟨w.vs,w.count,bH fns k w.vs a w.code⟩)).back (opW o s b ⟨w.vs,w.count,bH fns k w.vs a w.code⟩).vs) [] _ p1.open hz
   have hcn:(opW o s b ⟨w.vs,w.count,bH fns k w.vs a w.code⟩).count=if o=1 then w.count+1 else w.count:=by
    rw[nq];split<;>rfl
   have hbc:((bM fns k (b+1) bd (opW o s b ⟨w.vs,w.count,bH fns k w.vs a w.code⟩)).back (opW o s b ⟨w.vs,w.count,bH fns k w.vs a w.code⟩).vs).count=(bM fns k (b+1) bd (opW o s b ⟨w.vs,w.count,bH fns k w.vs a w.code⟩)).count:=rfl
   rw[hcn] at q1 q3
   rw[hbc,q3] at r1 r3
   refine⟨?_,p1,?_⟩
   ·rw[rnS,irS]
    simp only
    rw[q1,r1,p2,vo h a _ z3]
   ·rw[stW,irS]
    exact r3
theorem sc(fns:List Fd)(k:Nat):∀(l:List Sm) (b:Nat) (w:WS) (m:Scp) (up:List Scp),SR gN b w.vs (m::up)→(bM fns k b l w).code=0→
 fM fns k b l w=(dF l m up w.count).1∧SR gN b (bM fns k b l w).vs ((dF l m up w.count).2.1::up)∧(bM fns k b l w).count=(dF l m up w.count).2.2
 |[],b,w,m,up,h,hz=>⟨rfl,h,rfl⟩
 |s::r,b,w,m,up,h,hz=>by
  rw[bM] at hz
  obtain⟨p1,p2,p3⟩:=GC fns k s b w m up h (qX hz)
  obtain⟨q1,q2,q3⟩:=sc fns k r b _ _ up p2 hz
  rw[p3] at q1 q2 q3
  refine⟨?_,?_,?_⟩
  ·rw[fM,dF];simp only;rw[p1,q1]
  ·rw[bM,dF];exact q2
  ·rw[bM,dF];exact q3
end
theorem zP:∀(ps:List (List UInt8)) (w:WS) (m:Scp),SR gN 0 w.vs [m]→lG ps w=(fk ps m w.count).1∧SR gN 0 (cw ps w).vs [(fk ps m w.count).2.1]∧(cw ps w).count=(fk ps m w.count).2.2
 |[],w,m,h=>⟨rfl,h,rfl⟩
 |s::r,w,m,h=>by
  obtain⟨a1,a2,a3⟩:=zP r (jl w s 0) (eK m s w.count) (h.add s w.count w.count rfl)
  have hc:(jl w s 0).count=w.count+1:=rfl
  rw[hc] at a1 a2 a3
  refine⟨?_,?_,?_⟩
  ·rw[lG,fk];simp only;rw[a1]
  ·rw[fk];exact a2
  ·rw[fk];exact a3
theorem Hq(fns:List Fd)(k:Nat)(f:Fd)(h:(fnW fns k f).code=0):rnF fns k f=irF f:=by
 rw[fnW] at h
 obtain⟨p1,p2,p3⟩:=zP f.params ⟨[],0,if dX fns f.name=some k then 0 else 2⟩ [] SR.base
 obtain⟨q1,q2,q3⟩:=sc fns k f.body 0 _ _ [] p2 h
 rw[p3] at q1
 rw[rnF,irF,p1,q1]
end Go.Proofs.YtiojgfhdcpppcaaGreatDoor
namespace Go.Proofs.YtiojgfhdcpppcaaGreatDoor
open Go Go.Aw
set_option maxRecDepth 100000
set_option maxHeartbeats 4000000
def rO(n:Nat):AO:= .row 1 [[.p (.int .i64 n)]]
def RH(b0:AO)(n:Nat)(ch:List GS):List AO:=b0::rO n::scH ch
theorem jA(b0:AO)(n:Nat)(ch:List GS):(RH b0 n ch).length=2+scL ch:=by simp only[RH,List.length_cons,hZ];omega
theorem rg{b0:AO}(hb:okO 0 b0){n:Nat}{ch:List GS}(hs:kS ch){m:Nat}(hm:2+scL ch≤m):∀o∈RH b0 n ch,okO m o:=
 ae (bO hb) (ae (by intro e he;rw[List.mem_singleton.1 he];simp[below]) (vU ch hs hm))
def Sml(ch:List Scp):Prop:=∀s n,er ch s=some n→n<26
theorem Sml.getD{ch:List Scp}(h:Sml ch)(s:List UInt8):(er ch s).getD 0<26:=by
 cases e:er ch s with
 |none=>simp
 |some n=>exact h s n e
theorem Sml.set{m:Scp}{up:List Scp}(h:Sml (m::up))(s:List UInt8){n:Nat}(hn:n<26):Sml (eK m s n::up):=by
 intro t k e
 rw[er,tp] at e
 by_cases hst:s=t
 ·rw[if_pos hst] at e;cases e;exact hn
 ·rw[if_neg hst] at e
  exact h t k (by rw[er];exact e)
theorem Sml.open{ch:List Scp}(h:Sml ch):Sml ([]::ch):=fun s n e=>h s n (by rw[er] at e;exact e)
theorem Sml.opS{m:Scp}{up:List Scp}(h:Sml (m::up))(o:Int)(s:List UInt8){n:Nat}(hn:o=1→n<26):Sml (opS o s m n::up):=by
 unfold Go.Proofs.YtiojgfhdcpppcaaGreatDoor.opS
 split
 ·rename_i e;exact h.set s (hn e)
 ·exact h
def K_impl_renamer_expr:AK:= .seq (.reg [oJ 3 (.box 1 (.t 0)),oJ 4 (.box 4 (.t 1)),oJ 5 (.box 1 (.t 2)),oJ 6 (.alloc [(.p (.int .i64 0)),(.p (.int .i64 0)),(.p (.str [])),.nils])]) (.cut (.seq (.reg [oF 9 0 4,oL 10 9,oJ 11 (.bin .eql (.t 10) (.c (.p (.int .i64 2))))]) (.cond (.t 11) (.seq (.reg [oL 13 5,oF 14 2 4,oL 15 14,oJ 16 (.call aN [(.t 13),(.t 15)]),oM 12 16,oJ 17 (.ext 0 (.t 12)),oJ 18 (.ext 1 (.t 12)),oM 7 17,oM 8 18]) (.reg [oL 19 3,oM 20 7,oJ 21 (.call bv [(.t 19),(.t 20)]),oF 22 2 4,oS 22 21])) (.skip))) (.seq (.reg [oF 23 3 4,oL 24 23,oJ 25 (.mkf (.func bR) [(.t 3),(.t 5)]),oJ 26 (.call aK [(.t 24),(.t 25)]),oF 27 3 4,oS 27 26]) (.seq (.reg [oJ 28 (.ld (some 4) (.t 4)),⟨none,none,.st 4 (.t 6) (.t 28)⟩]) (.ret))))
theorem nJ:K_impl_renamer_expr.whole=F_impl_renamer_expr.ak:=rfl
variable (G:aG)
theorem wm(n:Nat)(hn:n<26)(r:AV)(h:List AO):AC Tryz.prog G bv [r,.p (.int .i64 n)] h fun x h'=>x= .ret (.p (.str (vnm n)))∧h'=h:=by
 refine AC.go nO ?_
 have hv:vnm n=[118,UInt8.ofNat (97+n)]:=by rw[vnm,Nat.mod_eq_of_lt hn]
 have hw:IntKind.i64.wrap (97+(n:Int))=((97+n:Nat):Int):=by rw[ah (by omega) (by omega)];omega
 have hw2:IntKind.i32.wrap (97+(n:Int))=97+(n:Int):=by
  have:∀m:Nat,m<26→IntKind.i32.wrap (97+(m:Int))=97+(m:Int):=by decide
  exact this _ hn
 have htn:(97+(n:Int)).toNat=97+n:=by omega
 have hof:UInt8.ofNat (97+n)=97+UInt8.ofNat n:=by
  have:∀m:Nat,m<26→UInt8.ofNat (97+m)=97+UInt8.ofNat m:=by decide
  exact this _ hn
 rw[hv]
 simp-implicitDefEqProofs[iP,hw,hw2,htn,hof]
 omega
def RX(b0:AO)(up:List GS)(gap:List AO)(n:Nat):List AO:=b0::rO n::(scH up++gap)
theorem GW(b0:AO)(up:List GS)(gap:List AO)(n:Nat):(RX b0 up gap n).length=2+scL up+gap.length:=by
 simp only[RX,List.length_cons,List.length_append,hZ];omega
theorem Gu(b0:AO)(up:List GS)(gap:List AO)(m:Scp)(n:Nat)(rest:List AO):RH b0 n (⟨gap,m⟩::up)++rest=RX b0 up gap n++(.mp (mpE m):: .row 2 [[.mp (2+scL up+gap.length),upV up]]::rest):=by
 simp[RH,RX,scH]
theorem JZ(b0:AO)(up:List GS)(gap:List AO)(n:Nat)(t:List AO):(RX b0 up gap n++t)[1]?=some (.row 1 [[.p (.int .i64 n)]]):=rfl
theorem IY(b0:AO)(up:List GS)(gap:List AO)(n k:Nat)(t:List AO):(RX b0 up gap n++t).set 1 (.row 1 [[.p (.int .i64 k)]])=RX b0 up gap k++t:=rfl
theorem Du(b0:AO)(gap:List AO)(m:Scp)(up:List GS)(s:List UInt8)(n:Nat)(hn:n<26)(rest:List AO):AC Tryz.prog G cu [.ptr 1 1 0 0,upV (⟨gap,m⟩::up),.p (.str s)] (RH b0 n (⟨gap,m⟩::up)++rest) fun x h=>x= .ret (.p (.str (vnm n)))∧h=RH b0 (n+1) (⟨gap,eK m s n⟩::up)++rest:=by
 refine AC.go nD ?_
 have hup:upV (⟨gap,m⟩::up)= .ptr (2+scL up+gap.length+1) 2 0 0:=rfl
 have hms:iR (.str s) (.p (.int .i64 n)) (mpE m)=some (mpE (eK m s n)):=pW s n m
 have hl:=GW b0 up gap
 have hw:IntKind.i64.wrap ((n:Int)+1)=(n:Int)+1:=ah (by omega) (by omega)
 have hw2:IntKind.i64.wrap ((n:Int)+1-1)=(n:Int):=by rw[ah (by omega) (by omega)];omega
 have hw3:IntKind.i64.wrap (n:Int)=(n:Int):=ah (by omega) (by omega)
 have hs1:∀t,(RX b0 up gap n++t).set 1 (.row 1 [[.p (.int .i64 ((n:Int)+1))]])=RX b0 up gap (n+1)++t:=fun t=>IY b0 up gap n (n+1) t
 have h1:∀t,(RX b0 up gap (n+1)++t)[1]?=some (.row 1 [[.p (.int .i64 ((n:Int)+1))]]):=fun t=>JZ b0 up gap (n+1) t
 rw[Gu,Gu,hup]
 generalize RX b0 up gap (n+1)=B at hs1 h1⊢
 have h0:=JZ b0 up gap n
 have hln:=hl n
 generalize RX b0 up gap n=A at hs1 h0 hln⊢
 simp-implicitDefEqProofs[iO,hln,hms,h0,h1,hs1,hw,hw2,hw3]
 refine(wm G n hn _ _).mono ?_
 rintro r h ⟨rfl,rfl⟩
 simp-implicitDefEqProofs[aa]
theorem Dn{b0:AO}(hb:okO 0 b0){f:FuncId}{args:List AV}{n n':Nat}{ch ch':List GS}{v:AV}(H:AC Tryz.prog G f args (RH b0 n ch) fun x h=>x= .ret v∧h=RH b0 n' ch')(hs:kS ch)(hl:scL ch'=scL ch)(rest:List AO)(ha:ag (2+scL ch) args):
 AC Tryz.prog G f args (RH b0 n ch++rest) fun x h=>x= .ret v∧h=RH b0 n' ch'++rest:=by
 refine(AC.pre H rest (by rw[jA b0];exact ha) (by rw[jA b0];exact rg hb hs (Nat.le_refl _)) ?_).mono ?_
 ·rintro x h ⟨_,rfl⟩;rw[jA b0,jA b0,hl]
 ·rintro x h ⟨h1,⟨rfl,rfl⟩,rfl⟩
  exact⟨rfl,rfl⟩
theorem zo(b0:AO)(n:Nat)(ch:List GS)(rest:List AO)(s:List UInt8):AC Tryz.prog G aN [upV ch,.p (.str s)] (RH b0 n ch++rest) fun x h=>x= .ret (.tup [.p (.int .i64 (((er (sco ch) s).getD 0:Nat):Int)),.p (.bool (er (sco ch) s).isSome)])∧h=RH b0 n ch++rest:=xZ G b0 (rO n) ch rest s
def rBx(ch:List GS)(e:List AV):List AO:=[.row 1 [[.ptr 1 1 0 0]],.row 4 [e],.row 1 [[upV ch]],.row 4 [[.p (.int .i64 0),.p (.int .i64 0),.p (.str []),.nils]]]
def CN{b0:AO}(hb:okO 0 b0)(n:Nat)(ch:List GS)(e:List PV)(hs:kS ch):Vis Unit where
 I:=fun _=>RH b0 n ch++rBx ch (e.map .p)
 n:=2+scL ch+4
 F:=bR
 caps:=[.ptr (2+scL ch) 1 0 0,.ptr (2+scL ch+2) 1 0 0]
 len:=fun _=>by rw[List.length_append,jA b0];rfl
 ok:=fun _ o ho=>by
  rcases List.mem_append.1 ho with h|h
  ·exact rg hb hs (by omega) o h
  ·simp only[rBx,List.mem_cons,List.not_mem_nil,or_false] at h
   rcases h with rfl|rfl|rfl|rfl
   ·intro e he;rw[List.mem_singleton.1 he];exact⟨by simp only[below];omega,trivial⟩
   ·intro e he;rw[List.mem_singleton.1 he];exact aH (Nat.zero_le _) _ (by simp)
   ·intro e he;rw[List.mem_singleton.1 he];exact⟨dy ch (by omega),trivial⟩
   ·intro e he;rw[List.mem_singleton.1 he];exact aH (Nat.zero_le _) _ (by simp)
 capsOk:=by simp[below]
theorem pE{α β:Type}(f:α→β):∀(l:List α) (u:Unit),aS (fun(st:Unit) x=>(f x,st)) u l=(l.map f,u)
 |[],u=>rfl
 |x::r,u=>by rw[aS,pE f r];rfl
theorem sR(ch:List Scp):∀l:List Ex,kV ch l=l.map (irE ch)
 |[]=>rfl
 |e::r=>by rw[kV,sR ch r];rfl
theorem FE{b0:AO}(hb:okO 0 b0)(n:Nat)(ch:List GS)(hs:kS ch)(hm:Sml (sco ch)):∀(N:Nat) (e:Ex),e.sz≤N→e.sz≤1073741824→
 AC Tryz.prog G cz [.ptr 1 1 0 0,.agg (e.cs.map .p),upV ch] (RH b0 n ch) fun x h=>x= .ret (.agg ((irE (sco ch) e).cs.map .p))∧h=RH b0 n ch:=by
 intro N
 induction N with
 |zero=>intro e he;have:=e.sz_eq;omega
 |succ N ih=>
  intro e he hz
  have hec:=e.cs_eq
  have hsz:=e.sz_eq
  have hkl:=bn e.kids
  have hre:(irE (sco ch) e).cs=[.int .i64 e.op,.int .i64 e.n,.str (if e.op=2 then irN (sco ch) e.name else e.name),exL (e.kids.map (irE (sco ch)))]:=by
   obtain⟨o,m,s,ks⟩:=e;rw[irE,Ex.cs_eq,←sR];rfl
  have hlen:(RH b0 n ch).length=2+scL ch:=jA b0 n ch
  have hcl:AC Tryz.prog G cz [.ptr 1 1 0 0,.agg (e.cs.map .p),upV ch] (RH b0 n ch) fun x h=>x= .ret (.agg ((irE (sco ch) e).cs.map .p))∧∃l,h=RH b0 n ch++l:=by
   refine AC.goK nL nJ ?_
   have hup:=An ch
   have hfind:=zo G b0 n ch [.row 1 [[.ptr 1 1 0 0]],.row 4 [[.p (.int .i64 e.op),.p (.int .i64 e.n),.p (.str e.name),.p (exL e.kids)]],.row 1 [[upV ch]],.row 4 [[.p (.int .i64 0),.p (.int .i64 0),.p (.str []),.nils]]] e.name
   have hmp:∀nm:List UInt8,AC Tryz.prog G aK [.p (exL e.kids),.fn (.func bR) [.ptr (2+scL ch) 1 0 0,.ptr (2+scL ch+2) 1 0 0]] (RH b0 n ch++[.row 1 [[.ptr 1 1 0 0]],.row 4 [[.p (.int .i64 e.op),.p (.int .i64 e.n),.p (.str nm),.p (exL e.kids)]],.row 1 [[upV ch]],.row 4 [[.p (.int .i64 0),.p (.int .i64 0),.p (.str []),.nils]]])
    fun x h=>x= .ret (.p (exL (e.kids.map (irE (sco ch)))))∧h=RH b0 n ch++[.row 1 [[.ptr 1 1 0 0]],.row 4 [[.p (.int .i64 e.op),.p (.int .i64 e.n),.p (.str nm),.p (exL e.kids)]],.row 1 [[upV ch]],.row 4 [[.p (.int .i64 0),.p (.int .i64 0),.p (.str []),.nils]]]:=by
    intro nm
    have hI:RH b0 n ch++[.row 1 [[.ptr 1 1 0 0]],.row 4 [[.p (.int .i64 e.op),.p (.int .i64 e.n),.p (.str nm),.p (exL e.kids)]],.row 1 [[upV ch]],.row 4 [[.p (.int .i64 0),.p (.int .i64 0),.p (.str []),.nils]]]=(CN hb n ch [.int .i64 e.op,.int .i64 e.n,.str nm,exL e.kids] hs).I ():=rfl
    have hm2:=uF G (CN hb n ch [.int .i64 e.op,.int .i64 e.n,.str nm,exL e.kids] hs) (fun st x=>(irE (sco ch) x,st)) (fun _ _=>True) e.kids (by omega) (by show 0<2+scL ch+4;omega) (fun i st hi _=>⟨trivial,?_⟩) () trivial
    ·rw[pE] at hm2
     exact hm2
    have hks:=bm (List.getElem_mem hi)
    have hx:=ih e.kids[i] (by omega) (by omega)
    generalize e.kids[i]=x at hx
    have hxc:=x.cs_eq
    have hyc:=(irE (sco ch) x).cs_eq
    refine(CN hb n ch _ hs).trim G (AC.go lQ ?_) (by simp[below])
    rw[←hI]
    have hx2:=Dn G hb hx hs rfl [.row 1 [[.ptr 1 1 0 0]],.row 4 [[.p (.int .i64 e.op),.p (.int .i64 e.n),.p (.str nm),.p (exL e.kids)]],.row 1 [[upV ch]],.row 4 [[.p (.int .i64 0),.p (.int .i64 0),.p (.str []),.nils]],.row 4 [[.p (.int .i64 x.op),.p (.int .i64 x.n),.p (.str x.name),.p (exL x.kids)]],.row 4 [[.p (.int .i64 0),.p (.int .i64 0),.p (.str []),.nils]]] ⟨by simp only[below];omega,by simp,dy ch (Nat.le_refl _),trivial⟩
    have hcaps:(CN hb n ch [.int .i64 e.op,.int .i64 e.n,.str nm,exL e.kids] hs).caps=[.ptr (2+scL ch) 1 0 0,.ptr (2+scL ch+2) 1 0 0]:=rfl
    rw[hxc] at hx2
    rw[hcaps]
    simp-implicitDefEqProofs[gB,hxc,hlen]
    refine hx2.mono ?_
    rintro r h ⟨rfl,rfl⟩
    rw[hyc]
    simp-implicitDefEqProofs[aa,hlen,CN,rBx]
   rw[hec]
   have hub:below (2+scL ch) (upV ch):=dy ch (Nat.le_refl _)
   generalize upV ch=u at hup hub hfind hmp⊢
   have hmp:=hmp (if e.op=2 then irN (sco ch) e.name else e.name)
   have hD:=hm.getD e.name
   have hirn:irN (sco ch) e.name=vnm ((er (sco ch) e.name).getD 0):=rfl
   rw[hre]
   clear hre ih
   have hsame:∀(op:Int) (nm:List UInt8) (r1:List (Nat × AV)),Aw.look r1 3= .ptr (2+scL ch) 1 0 0→Aw.look r1 4= .ptr (2+scL ch+1) 4 0 0→Aw.look r1 5= .ptr (2+scL ch+2) 1 0 0→Aw.look r1 6= .ptr (2+scL ch+3) 4 0 0→
    Wk (2+scL ch) (al 29 r1) (RH b0 n ch++[.row 1 [[.ptr 1 1 0 0]],.row 4 [[.p (.int .i64 op),.p (.int .i64 e.n),.p (.str nm),.p (exL e.kids)]],.row 1 [[u]],.row 4 [[.p (.int .i64 0),.p (.int .i64 0),.p (.str []),.nils]]])
     (al 29 [(3,.ptr (2+scL ch) 1 0 0),(4,.ptr (2+scL ch+1) 4 0 0),(5,.ptr (2+scL ch+2) 1 0 0),(6,.ptr (2+scL ch+3) 4 0 0)]) (RH b0 n ch++[.row 1 [[.ptr 1 1 0 0]],.row 4 [[.p (.int .i64 op),.p (.int .i64 e.n),.p (.str nm),.p (exL e.kids)]],.row 1 [[u]],.row 4 [[.p (.int .i64 0),.p (.int .i64 0),.p (.str []),.nils]]]):=by
    intro op nm r1 e3 e4 e5 e6
    refine nj (r:=[_,_,_,_]) (s:=[]) hlen (Nat.le_add_right _ _) (rg hb hs (Nat.le_refl _)) ?_ (by simp[below,e3,e4,e5,e6])
    refine ae (by intro x hx;rw[List.mem_singleton.1 hx];exact⟨by simp only[below];omega,trivial⟩) (ae (bO (by simp[okO])) (ae (by intro x hx;rw[List.mem_singleton.1 hx];exact⟨(aH (Nat.le_add_right _ _) [u] ⟨hub,trivial⟩).1,trivial⟩) (ae (bO (by simp[okO])) dg)))
   rcases hup with rfl|⟨i,rfl⟩
   ·simp-implicitDefEqProofs[K_impl_renamer_expr,F_impl_renamer_expr,hlen]
    refine kf (al 29 [(3,.ptr (2+scL ch) 1 0 0),(4,.ptr (2+scL ch+1) 4 0 0),(5,.ptr (2+scL ch+2) 1 0 0),(6,.ptr (2+scL ch+3) 4 0 0)]) (RH b0 n ch++[.row 1 [[.ptr 1 1 0 0]],.row 4 [[.p (.int .i64 e.op),.p (.int .i64 e.n),.p (.str (if e.op=2 then irN (sco ch) e.name else e.name)),.p (exL e.kids)]],.row 1 [[.nilp]],.row 4 [[.p (.int .i64 0),.p (.int .i64 0),.p (.str []),.nils]]]) ?_ ?_
    ·by_cases o2:e.op=2
     ·rw[o2] at hfind
      simp-implicitDefEqProofs[o2,hlen]
      refine hfind.mono ?_
      rintro r h ⟨rfl,rfl⟩
      simp-implicitDefEqProofs[aa,hlen]
      refine(wm G _ hD _ _).mono ?_
      rintro r h ⟨rfl,rfl⟩
      rw[hirn]
      simp-implicitDefEqProofs[aa,hlen]
      exact hsame 2 _ _ (by simp) (by simp) (by simp) (by simp)
     ·simp-implicitDefEqProofs[o2,hlen]
      exact hsame e.op _ _ (by simp) (by simp) (by simp) (by simp)
    ·simp-implicitDefEqProofs[hlen]
     refine hmp.mono ?_
     rintro r h ⟨rfl,rfl⟩
     simp-implicitDefEqProofs[aa,hlen]
   ·simp-implicitDefEqProofs[K_impl_renamer_expr,F_impl_renamer_expr,hlen]
    refine kf (al 29 [(3,.ptr (2+scL ch) 1 0 0),(4,.ptr (2+scL ch+1) 4 0 0),(5,.ptr (2+scL ch+2) 1 0 0),(6,.ptr (2+scL ch+3) 4 0 0)]) (RH b0 n ch++[.row 1 [[.ptr 1 1 0 0]],.row 4 [[.p (.int .i64 e.op),.p (.int .i64 e.n),.p (.str (if e.op=2 then irN (sco ch) e.name else e.name)),.p (exL e.kids)]],.row 1 [[.ptr i 2 0 0]],.row 4 [[.p (.int .i64 0),.p (.int .i64 0),.p (.str []),.nils]]]) ?_ ?_
    ·by_cases o2:e.op=2
     ·rw[o2] at hfind
      simp-implicitDefEqProofs[o2,hlen]
      refine hfind.mono ?_
      rintro r h ⟨rfl,rfl⟩
      simp-implicitDefEqProofs[aa,hlen]
      refine(wm G _ hD _ _).mono ?_
      rintro r h ⟨rfl,rfl⟩
      rw[hirn]
      simp-implicitDefEqProofs[aa,hlen]
      exact hsame 2 _ _ (by simp) (by simp) (by simp) (by simp)
     ·simp-implicitDefEqProofs[o2,hlen]
      exact hsame e.op _ _ (by simp) (by simp) (by simp) (by simp)
    ·simp-implicitDefEqProofs[hlen]
     refine hmp.mono ?_
     rintro r h ⟨rfl,rfl⟩
     simp-implicitDefEqProofs[aa,hlen]
  exact zV G hcl rfl (by rw[hlen];exact rg hb hs (Nat.le_refl _)) (by simp[below])
end Go.Proofs.YtiojgfhdcpppcaaGreatDoor
namespace Go.Proofs.YtiojgfhdcpppcaaGreatDoor
open Go Go.Aw
set_option maxRecDepth 100000
set_option maxHeartbeats 4000000
def K_impl_renamer_block_1:AK:= .seq (.reg [oJ 3 (.box 5 (.t 0)),oJ 4 (.alloc [(.p (.int .i64 0)),(.p (.str [])),.nils,.nils,.nils])]) (.seq (.reg [oF 7 2 3,oL 8 7,oJ 9 (.mkf (.func bz) [(.t 1),(.t 2)]),oJ 10 (.call aK [(.t 8),(.t 9)]),oF 11 2 3,oS 11 10]) (.cut (.seq (.reg [oF 12 0 3,oL 13 12]) (.blk 0 (.seq (.reg [oJ 15 (.bin .eql (.t 13) (.c (.p (.int .i64 1)))),oM 14 15]) (.cond (.t 14) (.reg [oL 16 1,oL 17 2,oF 18 1 3,oL 19 18,oJ 20 (.call cu [(.t 16),(.t 17),(.t 19)]),oF 21 1 3,oS 21 20]) (.seq (.reg [oJ 23 (.bin .eql (.t 13) (.c (.p (.int .i64 2)))),oM 22 23]) (.cond (.t 22) (.seq (.reg [oL 25 2,oF 26 1 3,oL 27 26,oJ 28 (.call aN [(.t 25),(.t 27)]),oM 24 28,oJ 29 (.ext 0 (.t 24)),oJ 30 (.ext 1 (.t 24)),oM 5 29,oM 6 30]) (.reg [oL 31 1,oM 32 5,oJ 33 (.call bv [(.t 31),(.t 32)]),oF 34 1 3,oS 34 33])) (.skip))))))) (.seq (.reg [oF 36 3 3,oL 35 1,oL 37 36,oL 38 2,oJ 39 (.call aJ [(.t 38)]),⟨none,none,.chk none 1 35⟩,⟨none,none,.chk none 36 37⟩,oJ 40 (.call bc [(.t 35),(.t 37),(.t 39)]),oF 41 3 3,oS 41 40]) (.seq (.reg [oF 43 4 3,oL 42 1,oL 44 43,oL 45 2,oJ 46 (.call aJ [(.t 45)]),⟨none,none,.chk none 1 42⟩,⟨none,none,.chk none 43 44⟩,oJ 47 (.call bc [(.t 42),(.t 44),(.t 46)]),oF 48 4 3,oS 48 47]) (.seq (.reg [oJ 49 (.ld (some 5) (.t 3)),⟨none,none,.st 5 (.t 4) (.t 49)⟩]) (.ret))))))
theorem le:K_impl_renamer_block_1.whole=F_impl_renamer_block_1.ak:=rfl
def irG(up:List Scp)(st:Scp × Nat)(s:Sm):Sm × (Scp × Nat):=((irS s st.1 up st.2).1,((irS s st.1 up st.2).2.1,(irS s st.1 up st.2).2.2))
theorem Ao(up:List Scp):∀(l:List Sm) (m:Scp) (n:Nat),aS (irG up) (m,n) l=((dF l m up n).1,((dF l m up n).2.1,(dF l m up n).2.2))
 |[],m,n=>rfl
 |s::r,m,n=>by
  rw[aS,dF]
  have:=Ao up r (irS s m up n).2.1 (irS s m up n).2.2
  simp only[irG] at this⊢
  rw[this]
theorem zH:∀(s:Sm) (m:Scp) (up:List Scp) (n:Nat),(irS s m up n).2.2=n+kF s∧(irS s m up n).2.1=opS s.op s.name m n:=by
 have key:∀N:Nat,(∀s:Sm,s.sz<N→∀m up n,(irS s m up n).2.2=n+kF s∧(irS s m up n).2.1=opS s.op s.name m n)∧∀l:List Sm,ay l<N→∀m up n,(dF l m up n).2.2=n+cV l:=by
  intro N
  induction N with
  |zero=>exact⟨fun s h=>by omega,fun l h=>by omega⟩
  |succ N ih=>
   have one:∀s:Sm,s.sz<N+1→∀m up n,(irS s m up n).2.2=n+kF s∧(irS s m up n).2.1=opS s.op s.name m n:=by
    intro s hs m up n
    obtain⟨o,nme,a,bd,el⟩:=s
    rw[Sm.sz] at hs
    rw[irS,kF]
    simp only
    refine⟨?_,rfl⟩
    rw[ih.2 el (by omega),ih.2 bd (by omega)]
    split<;>omega
   refine⟨one,fun l hl m up n=>?_⟩
   induction l generalizing m n with
   |nil=>rfl
   |cons s r ihl=>
    rw[ay] at hl
    rw[dF,cV]
    simp only
    rw[ihl (by omega),(one s (by omega) m up n).1]
    omega
 exact fun s=>(key (s.sz+1)).1 s (by omega)
theorem Db{l:List Sm}{i:Nat}(h:i<l.length):cV (l.drop i)=kF l[i]+cV (l.drop (i+1)):=by
 rw[List.drop_eq_getElem_cons h,cV]
def sBx(ch:List GS):List AO:=[.row 1 [[.ptr 1 1 0 0]],.row 1 [[upV ch]]]
theorem CM(ch:List GS){n:Nat}(h:2+scL ch≤n):∀o∈sBx ch,okO n o:=by
 intro o ho
 simp only[sBx,List.mem_cons,List.not_mem_nil,or_false] at ho
 rcases ho with rfl|rfl
 ·intro e he;rw[List.mem_singleton.1 he];exact⟨by simp only[below];omega,trivial⟩
 ·intro e he;rw[List.mem_singleton.1 he];exact⟨dy ch h,trivial⟩
theorem qp(gap:List AO)(m:Scp)(up:List GS):scL (⟨gap,m⟩::up)=scL up+gap.length+2:=rfl
def uc{b0:AO}(hb:okO 0 b0)(gap:List AO)(up:List GS)(hs:∀m,kS (⟨gap,m⟩::up)):Vis (Scp × Nat) where
 I:=fun st=>RH b0 st.2 (⟨gap,st.1⟩::up)++sBx (⟨gap,[]⟩::up)
 n:=2+(scL up+gap.length+2)+2
 F:=bJ
 caps:=[.ptr (2+(scL up+gap.length+2)) 1 0 0,.ptr (2+(scL up+gap.length+2)+1) 1 0 0]
 len:=fun st=>by rw[List.length_append,jA b0];rfl
 ok:=fun st o ho=>by
  rcases List.mem_append.1 ho with h|h
  ·exact rg hb (hs _) (by rw[qp];omega) o h
  ·exact CM (⟨gap,[]⟩::up) (by rw[qp];omega) o h
 capsOk:=by simp[below]
def wt{b0:AO}(hb:okO 0 b0)(n:Nat)(ch:List GS)(x:List PV)(hs:kS ch):Vis Unit where
 I:=fun _=>RH b0 n ch++(sBx ch++[.row 5 [x.map .p],.row 5 [[.p (.int .i64 0),.p (.str []),.nils,.nils,.nils]]])
 n:=2+scL ch+4
 F:=bz
 caps:=[.ptr (2+scL ch) 1 0 0,.ptr (2+scL ch+1) 1 0 0]
 len:=fun _=>by rw[List.length_append,jA b0];rfl
 ok:=fun _ o ho=>by
  rcases List.mem_append.1 ho with h|h
  ·exact rg hb hs (by omega) o h
  ·rcases List.mem_append.1 h with h|h
   ·exact CM ch (by omega) o h
   ·simp only[List.mem_cons,List.not_mem_nil,or_false] at h
    rcases h with rfl|rfl
    ·intro e he;rw[List.mem_singleton.1 he];exact aH (Nat.zero_le _) _ (by simp)
    ·intro e he;rw[List.mem_singleton.1 he];exact aH (Nat.zero_le _) _ (by simp)
 capsOk:=by simp[below]
variable (G:aG)
theorem EX{b0:AO}(hb:okO 0 b0)(n:Nat)(gap:List AO)(m:Scp)(up:List GS)(hs:kS (⟨gap,m⟩::up))(hm:Sml (m::sco up))(x:List PV)(hx5:x.length=5)(a:List Ex)(hz:aX a≤1073741824):
 AC Tryz.prog G aK [.p (exL a),.fn (.func bz) [.ptr (2+scL (⟨gap,m⟩::up)) 1 0 0,.ptr (2+scL (⟨gap,m⟩::up)+1) 1 0 0]] ((wt hb n (⟨gap,m⟩::up) x hs).I ()) fun y h=>y= .ret (.p (exL (kV (m::sco up) a)))∧h=(wt hb n (⟨gap,m⟩::up) x hs).I ():=by
 have hal:=bn a
 have hm2:=uF G (wt hb n (⟨gap,m⟩::up) x hs) (fun st x=>(irE (m::sco up) x,st)) (fun _ _=>True) a (by omega) (by show 0<2+scL (⟨gap,m⟩::up)+4;omega) (fun i st hi _=>⟨trivial,?_⟩) () trivial
 ·rw[pE] at hm2
  rw[sR]
  exact hm2
 have hks:=bm (List.getElem_mem hi)
 have hx:=FE G hb n (⟨gap,m⟩::up) hs hm a[i].sz a[i] (Nat.le_refl _) (by omega)
 rw[show sco (⟨gap,m⟩::up)=m::sco up from rfl] at hx
 generalize a[i]=e at hx
 have hxc:=e.cs_eq
 have hyc:=(irE (m::sco up) e).cs_eq
 have hup:upV (⟨gap,m⟩::up)= .ptr (2+scL up+gap.length+1) 2 0 0:=rfl
 generalize hch:(GS.mk gap m::up)=ch at*
 have hlen:=jA b0 n ch
 refine(wt hb n ch x hs).trim G (AC.go ku ?_) (by simp[below])
 have hI:(wt hb n ch x hs).I ()=RH b0 n ch++[.row 1 [[.ptr 1 1 0 0]],.row 1 [[.ptr (2+scL up+gap.length+1) 2 0 0]],.row 5 [x.map .p],.row 5 [[.p (.int .i64 0),.p (.str []),.nils,.nils,.nils]]]:=by
  simp only[wt,sBx,hup];rfl
 have hx2:=Dn G hb hx hs rfl [.row 1 [[.ptr 1 1 0 0]],.row 1 [[.ptr (2+scL up+gap.length+1) 2 0 0]],.row 5 [x.map .p],.row 5 [[.p (.int .i64 0),.p (.str []),.nils,.nils,.nils]],.row 4 [[.p (.int .i64 e.op),.p (.int .i64 e.n),.p (.str e.name),.p (exL e.kids)]],.row 4 [[.p (.int .i64 0),.p (.int .i64 0),.p (.str []),.nils]]] ⟨by simp only[below];omega,by simp,dy ch (Nat.le_refl _),trivial⟩
 have hcaps:(wt hb n ch x hs).caps=[.ptr (2+scL ch) 1 0 0,.ptr (2+scL ch+1) 1 0 0]:=rfl
 rw[hxc,hup] at hx2
 rw[hcaps,hI]
 simp-implicitDefEqProofs[fc,hxc,hlen]
 refine hx2.mono ?_
 rintro r h ⟨rfl,rfl⟩
 rw[hyc]
 simp-implicitDefEqProofs[aa,hlen]
end Go.Proofs.YtiojgfhdcpppcaaGreatDoor
namespace Go.Proofs.YtiojgfhdcpppcaaGreatDoor
open Go Go.Aw
set_option maxRecDepth 100000
set_option maxHeartbeats 4000000
variable (G:aG)
theorem CA(o:Int)(s:List UInt8)(a:List Ex)(bd el:List Sm)(m:Scp)(up:List Scp)(n:Nat):
 (irS ⟨o,s,a,bd,el⟩ m up n).1=⟨o,if o=1 then vnm n else if o=2 then irN (m::up) s else s,kV (m::up) a,(dF bd [] (opS o s m n::up) (if o=1 then n+1 else n)).1,(dF el [] (opS o s m n::up) (dF bd [] (opS o s m n::up) (if o=1 then n+1 else n)).2.2).1⟩:=rfl
theorem wV:∀(l:List Sm) (m:Scp) (up:List Scp) (n:Nat),(dF l m up n).2.2=n+cV l
 |[],m,up,n=>rfl
 |s::r,m,up,n=>by
  rw[dF,cV]
  simp only
  rw[wV r,(zH s m up n).1]
  omega
def Fb(b0:AO)(l:List Sm):Prop:=∀(gap:List AO) (m:Scp) (up:List GS) (n:Nat),(∀m,kS (⟨gap,m⟩::up))→Sml (m::sco up)→n+cV l≤26→
 AC Tryz.prog G bc [.ptr 1 1 0 0,.p (smL l),.ptr (2+scL up+gap.length+1) 2 0 0] (RH b0 n (⟨gap,m⟩::up)) fun x h=>x= .ret (.p (smL (dF l m (sco up) n).1))∧h=RH b0 (dF l m (sco up) n).2.2 (⟨gap,(dF l m (sco up) n).2.1⟩::up)
theorem Gy{b0:AO}(hb:okO 0 b0){o:Int}{nme:List UInt8}{a:List Ex}{bd el:List Sm}(hz:aX a≤1073741824)(ib:Fb G b0 bd)(ie:Fb G b0 el)(gap:List AO)(m:Scp)(up:List GS)(n:Nat)(hs:∀m,kS (⟨gap,m⟩::up))(hm:Sml (m::sco up))(hc:n+kF ⟨o,nme,a,bd,el⟩≤26):
 AC Tryz.prog G bJ (.agg ((Sm.mk o nme a bd el).cs.map .p)::(uc hb gap up hs).caps) ((uc hb gap up hs).I (m,n)) fun x h=>x= .ret (.agg ((irG (sco up) (m,n) ⟨o,nme,a,bd,el⟩).1.cs.map .p))∧h=(uc hb gap up hs).I (irG (sco up) (m,n) ⟨o,nme,a,bd,el⟩).2:=by
 refine(uc hb gap up hs).trim G (AC.goK lc le ?_) (by simp[below])
 have hse:(Sm.mk o nme a bd el).cs=[.int .i64 o,.str nme,exL a,smL bd,smL el]:=Sm.cs_eq _
 have hcaps:(uc hb gap up hs).caps=[.ptr (2+(scL up+gap.length+2)) 1 0 0,.ptr (2+(scL up+gap.length+2)+1) 1 0 0]:=rfl
 have hI:∀n m,(uc hb gap up hs).I (m,n)=RH b0 n (⟨gap,m⟩::up)++[.row 1 [[.ptr 1 1 0 0]],.row 1 [[.ptr (2+scL up+gap.length+1) 2 0 0]]]:=fun _ _=>rfl
 have hA:=EX G hb n gap m up (hs m) hm [.int .i64 o,.str nme,exL a,smL bd,smL el] rfl a hz
 have hIA:(wt hb n (⟨gap,m⟩::up) [.int .i64 o,.str nme,exL a,smL bd,smL el] (hs m)).I ()=RH b0 n (⟨gap,m⟩::up)++[.row 1 [[.ptr 1 1 0 0]],.row 1 [[.ptr (2+scL up+gap.length+1) 2 0 0]],.row 5 [[.p (.int .i64 o),.p (.str nme),.p (exL a),.p (smL bd),.p (smL el)]],.row 5 [[.p (.int .i64 0),.p (.str []),.nils,.nils,.nils]]]:=rfl
 rw[hIA,qp] at hA
 have hlen:∀n m,(RH b0 n (⟨gap,m⟩::up)).length=2+(scL up+gap.length+2):=fun n m=>by rw[jA b0];rfl
 have hgS:(irG (sco up) (m,n) ⟨o,nme,a,bd,el⟩).2=(opS o nme m n,(dF el [] (opS o nme m n::sco up) (dF bd [] (opS o nme m n::sco up) (if o=1 then n+1 else n)).2.2).2.2):=rfl
 have hg1:(irG (sco up) (m,n) ⟨o,nme,a,bd,el⟩).1.cs=[.int .i64 o,.str (if o=1 then vnm n else if o=2 then irN (m::sco up) nme else nme),exL (kV (m::sco up) a),smL (dF bd [] (opS o nme m n::sco up) (if o=1 then n+1 else n)).1,smL (dF el [] (opS o nme m n::sco up) (dF bd [] (opS o nme m n::sco up) (if o=1 then n+1 else n)).2.2).1]:=by
  show(irS ⟨o,nme,a,bd,el⟩ m (sco up) n).1.cs=_
  rw[CA,Sm.cs_eq];rfl
 rw[hgS,hg1,hcaps,hI,hI,hse]
 have hfind:=fun rest=>zo G b0 n (⟨gap,m⟩::up) rest nme
 have hbind:=fun(hn:n<26) rest=>Du G b0 gap m up nme n hn rest
 have hup:∀m,upV (⟨gap,m⟩::up)= .ptr (2+scL up+gap.length+1) 2 0 0:=fun _=>rfl
 simp only[hup] at hfind hbind
 have hblk:∀(l':List Sm) (hl:Fb G b0 l') (n2:Nat) (m2:Scp) (gap2:List AO),Sml (m2::sco up)→n2+cV l'≤26→(∀o∈gap2,okO (2+(scL up+gap.length+2)+gap2.length) o)→
  AC Tryz.prog G bc [.ptr 1 1 0 0,.p (smL l'),.ptr (2+(scL up+gap.length+2)+gap2.length+1) 2 0 0] (RH b0 n2 (⟨gap,m2⟩::up)++(gap2++[.mp [],.row 2 [[.mp (2+(scL up+gap.length+2)+gap2.length),.ptr (2+scL up+gap.length+1) 2 0 0]]]))
   fun x h=>x= .ret (.p (smL (dF l' [] (m2::sco up) n2).1))∧∃m',h=RH b0 (dF l' [] (m2::sco up) n2).2.2 (⟨gap,m2⟩::up)++(gap2++[.mp (mpE m'),.row 2 [[.mp (2+(scL up+gap.length+2)+gap2.length),.ptr (2+scL up+gap.length+1) 2 0 0]]]):=by
  intro l' hl n2 m2 gap2 h1 h2 h3
  have e2:∀n m',RH b0 n (⟨gap2,m'⟩::⟨gap,m2⟩::up)=RH b0 n (⟨gap,m2⟩::up)++(gap2++[.mp (mpE m'),.row 2 [[.mp (2+(scL up+gap.length+2)+gap2.length),.ptr (2+scL up+gap.length+1) 2 0 0]]]):=by
   intro n m'
   simp[RH,scH,upV,scL]
  have:=hl gap2 [] (⟨gap,m2⟩::up) n2 (fun _=>⟨h3,hs m2⟩) h1.open h2
  rw[e2] at this
  refine this.mono ?_
  rintro x h ⟨hx,hh⟩
  exact⟨hx,(dF l' [] (sco (⟨gap,m2⟩::up)) n2).2.1,by rw[hh,e2];rfl⟩
 have hmO:Sml (opS o nme m n::sco up):=hm.opS o nme (fun h1=>by rw[kF,if_pos h1] at hc;omega)
 have hcb:(if o=1 then n+1 else n)+cV bd+cV el≤26:=by
  rw[kF] at hc
  split<;>rename_i h1
  ·rw[if_pos h1] at hc;omega
  ·rw[if_neg h1] at hc;omega
 have hn26:o=1→n<26:=fun h1=>by rw[kF,if_pos h1] at hc;omega
 generalize hK:2+scL up+gap.length=K at*
 have hKL:2+(scL up+gap.length+2)=K+2:=by omega
 rw[hKL] at hA hlen hblk⊢
 simp-implicitDefEqProofs[K_impl_renamer_block_1,F_impl_renamer_block_1,hlen]
 refine hA.mono ?_
 rintro r h ⟨rfl,rfl⟩
 simp-implicitDefEqProofs[aa,hlen]
 generalize hmO':opS o nme m n=m2 at hmO hfind⊢
 have hsame:∀(nm:List UInt8) (n2:Nat) (r1:List (Nat × AV)),Aw.look r1 1= .ptr (K+2) 1 0 0→Aw.look r1 2= .ptr (K+2+1) 1 0 0→Aw.look r1 3= .ptr (K+2+2) 5 0 0→Aw.look r1 4= .ptr (K+2+3) 5 0 0→
  Wk (K+2+2) (al 50 r1) (RH b0 n2 (⟨gap,m2⟩::up)++[.row 1 [[.ptr 1 1 0 0]],.row 1 [[.ptr (K+1) 2 0 0]],.row 5 [[.p (.int .i64 o),.p (.str nm),.p (exL (kV (m::sco up) a)),.p (smL bd),.p (smL el)]],.row 5 [[.p (.int .i64 0),.p (.str []),.nils,.nils,.nils]]])
   (al 50 [(1,.ptr (K+2) 1 0 0),(2,.ptr (K+2+1) 1 0 0),(3,.ptr (K+2+2) 5 0 0),(4,.ptr (K+2+3) 5 0 0)]) (RH b0 n2 (⟨gap,m2⟩::up)++[.row 1 [[.ptr 1 1 0 0]],.row 1 [[.ptr (K+1) 2 0 0]],.row 5 [[.p (.int .i64 o),.p (.str nm),.p (exL (kV (m::sco up) a)),.p (smL bd),.p (smL el)]],.row 5 [[.p (.int .i64 0),.p (.str []),.nils,.nils,.nils]]]):=by
  intro nm n2 r1 e1 e2 e3 e4
  refine nj (r:=[_,_,_,_]) (s:=[]) (hlen n2 m2) (Nat.add_le_add_left (by simp) _) (rg hb (hs m2) (by rw[qp];omega)) ?_ (by simp[below,e1,e2,e3,e4])
  refine ae (by intro x hx;rw[List.mem_singleton.1 hx];exact⟨by simp only[below];omega,trivial⟩) (ae (by intro x hx;rw[List.mem_singleton.1 hx];exact⟨by simp only[below];omega,trivial⟩) (ae (bO (by simp[okO])) (ae (bO (by simp[okO])) dg)))
 refine kf (al 50 [(1,.ptr (K+2) 1 0 0),(2,.ptr (K+2+1) 1 0 0),(3,.ptr (K+2+2) 5 0 0),(4,.ptr (K+2+3) 5 0 0)]) (RH b0 (if o=1 then n+1 else n) (⟨gap,m2⟩::up)++[.row 1 [[.ptr 1 1 0 0]],.row 1 [[.ptr (K+1) 2 0 0]],.row 5 [[.p (.int .i64 o),.p (.str (if o=1 then vnm n else if o=2 then irN (m::sco up) nme else nme)),.p (exL (kV (m::sco up) a)),.p (smL bd),.p (smL el)]],.row 5 [[.p (.int .i64 0),.p (.str []),.nils,.nils,.nils]]]) ?_ ?_
 ·by_cases o1:o=1
  ·subst o1
   have e:m2=eK m nme n:=by rw[←hmO'];exact if_pos rfl
   subst e
   simp-implicitDefEqProofs[hlen]
   refine(hbind (hn26 rfl) _).mono ?_
   rintro r h ⟨rfl,rfl⟩
   simp-implicitDefEqProofs[aa,hlen]
   exact hsame _ _ _ (by simp) (by simp) (by simp) (by simp)
  have e:m2=m:=by rw[←hmO'];exact if_neg o1
  subst e
  by_cases o2:o=2
  ·subst o2
   have hD:=hm.getD nme
   have hirn:irN (m2::sco up) nme=vnm ((er (m2::sco up) nme).getD 0):=rfl
   rw[hirn]
   simp-implicitDefEqProofs[hlen]
   refine(hfind _).mono ?_
   rintro r h ⟨rfl,rfl⟩
   simp-implicitDefEqProofs[aa,hlen]
   refine(wm G _ hD _ _).mono ?_
   rintro r h ⟨rfl,rfl⟩
   simp-implicitDefEqProofs[aa,hlen]
   exact hsame _ _ _ (by simp) (by simp) (by simp) (by simp)
  ·simp-implicitDefEqProofs[o1,o2,hlen]
   exact hsame _ _ _ (by simp) (by simp) (by simp) (by simp)
 generalize (if o=1 then vnm n else if o=2 then irN (m::sco up) nme else nme)=nm at*
 generalize (if o=1 then n+1 else n)=n2 at*
 have hb2:=wV bd [] (m2::sco up) n2
 simp-implicitDefEqProofs[hlen]
 refine(mg G (.ptr (K+1) 2 0 0) (.inr ⟨_,rfl⟩) _).mono ?_
 rintro r h ⟨rfl,rfl⟩
 simp-implicitDefEqProofs[aa,hlen]
 have okg:∀(b' e':AV),below 0 b'→below 0 e'→∀x∈[AO.row 1 [[.ptr 1 1 0 0]],.row 1 [[.ptr (K+1) 2 0 0]],.row 5 [[.p (.int .i64 o),.p (.str nm),.p (exL (kV (m::sco up) a)),b',e']],.row 5 [[.p (.int .i64 0),.p (.str []),.nils,.nils,.nils]]],okO (K+2) x:=by
  intro b' e' hb' he'
  refine ae (by intro x hx;rw[List.mem_singleton.1 hx];exact⟨by simp only[below];omega,trivial⟩) (ae (by intro x hx;rw[List.mem_singleton.1 hx];exact⟨by simp only[below];omega,trivial⟩) (ae (bO ?_) (ae (bO (by simp[okO])) dg)))
  intro x hx;rw[List.mem_singleton.1 hx];exact⟨by simp,by simp,by simp,hb',he',trivial⟩
 refine(hblk bd ib n2 m2 [.row 1 [[.ptr 1 1 0 0]],.row 1 [[.ptr (K+1) 2 0 0]],.row 5 [[.p (.int .i64 o),.p (.str nm),.p (exL (kV (m::sco up) a)),.p (smL bd),.p (smL el)]],.row 5 [[.p (.int .i64 0),.p (.str []),.nils,.nils,.nils]]] hmO (by omega) (fun x hx=>kI (by omega) (okg _ _ (by simp) (by simp) x hx))).mono ?_
 rintro r h ⟨rfl,m3,rfl⟩
 simp-implicitDefEqProofs[aa,hlen]
 refine(mg G (.ptr (K+1) 2 0 0) (.inr ⟨_,rfl⟩) _).mono ?_
 rintro r h ⟨rfl,rfl⟩
 simp-implicitDefEqProofs[aa,hlen]
 refine(hblk el ie _ m2 [.row 1 [[.ptr 1 1 0 0]],.row 1 [[.ptr (K+1) 2 0 0]],.row 5 [[.p (.int .i64 o),.p (.str nm),.p (exL (kV (m::sco up) a)),.p (smL (dF bd [] (m2::sco up) n2).1),.p (smL el)]],.row 5 [[.p (.int .i64 0),.p (.str []),.nils,.nils,.nils]],.mp (mpE m3),.row 2 [[.mp (K+2+4),.ptr (K+1) 2 0 0]]] hmO (by omega) ?_).mono ?_
 ·intro x hx
  rcases List.mem_append.1 (show x∈[AO.row 1 [[.ptr 1 1 0 0]],.row 1 [[.ptr (K+1) 2 0 0]],.row 5 [[.p (.int .i64 o),.p (.str nm),.p (exL (kV (m::sco up) a)),.p (smL (dF bd [] (m2::sco up) n2).1),.p (smL el)]],.row 5 [[.p (.int .i64 0),.p (.str []),.nils,.nils,.nils]]]++[.mp (mpE m3),.row 2 [[.mp (K+2+4),.ptr (K+1) 2 0 0]]] from hx) with h|h
  ·exact kI (by omega) (okg _ _ (by simp) (by simp) x h)
  ·simp only[List.mem_cons,List.not_mem_nil,or_false] at h
   rcases h with rfl|rfl
   ·exact tP _ _
   ·intro e he;rw[List.mem_singleton.1 he]
    exact⟨by simp only[below];simp,by simp only[below];omega,trivial⟩
 rintro r h ⟨rfl,m4,rfl⟩
 simp-implicitDefEqProofs[aa,hlen]
theorem DM{b0:AO}(hb:okO 0 b0):∀(N:Nat) (l:List Sm),ay l<N→ay l≤1073741824→Fb G b0 l:=by
 intro N
 induction N with
 |zero=>intro l h;omega
 |succ N ih=>
  intro l hl hz gap m up n hs hm hc
  have hll:=bA l
  have hup:upV (⟨gap,m⟩::up)= .ptr (2+scL up+gap.length+1) 2 0 0:=rfl
  have hlen:∀n m,(RH b0 n (⟨gap,m⟩::up)).length=2+(scL up+gap.length+2):=fun n m=>by rw[jA b0];rfl
  have hM:=AA G (uc hb gap up hs) (irG (sco up)) (fun i st=>Sml (st.1::sco up)∧st.2+cV (l.drop i)≤26) l (by omega) (by show 0<2+(scL up+gap.length+2)+2;omega) (fun i st hi hv=>?_) (m,n) ⟨hm,by simpa using hc⟩
  ·rw[Ao] at hM
   refine zV G (AC.go mR ?_) (by rw[hlen,hlen]) (by rw[hlen];exact rg hb (hs _) (by rw[qp];omega)) (by simp[below])
   have hcaps:(uc hb gap up hs).caps=[.ptr (2+(scL up+gap.length+2)) 1 0 0,.ptr (2+(scL up+gap.length+2)+1) 1 0 0]:=rfl
   have hF:(uc hb gap up hs).F=bJ:=rfl
   have hI:∀n m,(uc hb gap up hs).I (m,n)=RH b0 n (⟨gap,m⟩::up)++[.row 1 [[.ptr 1 1 0 0]],.row 1 [[.ptr (2+scL up+gap.length+1) 2 0 0]]]:=fun _ _=>rfl
   rw[hcaps,hF,hI,hI] at hM
   simp-implicitDefEqProofs[iA,hlen]
   refine hM.mono ?_
   rintro r h ⟨rfl,rfl⟩
   simp-implicitDefEqProofs[aa,hlen]
  ·obtain⟨h1,h2⟩:=hv
   have hat:=Db hi
   have hks:=bT (List.getElem_mem hi)
   obtain⟨mi,ni⟩:=st
   simp only at h1 h2
   generalize l[i]=s at hat hks
   have hcs:=zH s mi (sco up) ni
   obtain⟨o,nme,a,bd,el⟩:=s
   rw[Sm.sz] at hks
   refine⟨⟨?_,?_⟩,?_⟩
   ·show Sml ((irS _ mi (sco up) ni).2.1::sco up)
    rw[hcs.2]
    exact h1.opS _ _ (fun ho=>by
     have ho':o=1:=ho
     rw[kF,if_pos ho'] at hat;omega)
   ·show(irS _ mi (sco up) ni).2.2+_≤26
    rw[hcs.1];omega
   ·exact Gy G hb (by omega) (ih bd (by omega) (by omega)) (ih el (by omega) (by omega)) gap mi up ni hs h1 (by omega)
end Go.Proofs.YtiojgfhdcpppcaaGreatDoor
namespace Go.Proofs.YtiojgfhdcpppcaaGreatDoor
open Go Go.Aw
set_option maxRecDepth 100000
set_option maxHeartbeats 4000000
noncomputable def eqX {α:Type} (a b:α):Bool:= @decide (a=b) (Classical.propDecidable _)
theorem dp{α:Type}{a b:α}(h:a=b):eqX a b=true:=by unfold eqX;exact @decide_eq_true _ (Classical.propDecidable _) h
theorem aY{α:Type}{a b:α}(h:¬a=b):eqX a b=false:=by unfold eqX;exact @decide_eq_false _ (Classical.propDecidable _) h
theorem Dx{α:Type}(a b:α):eqX a b=eqX b a:=by
 by_cases h:a=b
 ·rw[dp h,dp h.symm]
 ·rw[aY h,aY fun e=>h e.symm]
theorem Ex.ext'{a b:Ex}(h1:a.op=b.op)(h2:a.n=b.n)(h3:a.name=b.name)(h4:a.kids=b.kids):a=b:=by
 cases a;cases b;simp only[Ex.op,Ex.n,Ex.name,Ex.kids] at*;subst h1 h2 h3 h4;rfl
theorem Sm.ext'{a b:Sm}(h1:a.op=b.op)(h2:a.name=b.name)(h3:a.args=b.args)(h4:a.body=b.body)(h5:a.els=b.els):a=b:=by
 cases a;cases b;simp only[Sm.op,Sm.name,Sm.args,Sm.body,Sm.els] at*;subst h1 h2 h3 h4 h5;rfl
theorem cC{α:Type}{a b:List α}{i:Nat}(h:a.take i=b.take i)(ha:i<a.length)(hb:i<b.length)(e:a[i]=b[i]):a.take (i+1)=b.take (i+1):=by
 rw[an ha,an hb,h,e]
theorem dJ{α:Type}{a b:List α}(h:a.take a.length=b.take a.length)(hl:a.length=b.length):a=b:=by
 rw[List.take_length] at h
 rw[h,hl,List.take_length]
theorem pV{α:Type}{a b:List α}{i:Nat}(ha:i<a.length)(hb:i<b.length)(e:¬a[i]=b[i]):¬a=b:=fun h=>by
 subst h;exact e rfl
variable (G:aG)
theorem BF(a b:List (List UInt8))(ha:a.length≤1099511627776)(hb:b.length≤1099511627776):VF Tryz.prog G jp [.p (aq a),.p (aq b)] (.p (.bool (eqX a b))):=by
 refine AC.go tt ?_
 have hsl:∀l,aq l= .lst 1 (l.map fun w=>[.str w]):=fun _=>rfl
 by_cases hl:a.length=b.length
 case neg=>
  have hl':¬(a.length:Int)=b.length:=by omega
  rw[aY fun e=>hl (by rw[e])]
  simp-implicitDefEqProofs[js,hsl,hl']
 simp-implicitDefEqProofs[js,hsl,hl]
 refine aR (fun i:Nat=>al 26 [(0,.p (aq a)),(1,.p (aq b)),(5,.p (.int .i64 i))]) (fun _=>[]) (fun i=>i≤a.length∧a.take i=b.take i) (fun i=>a.length-i) 0 (by simp) (bp rfl (by simp[below,hsl])) ?_
 rintro i ⟨hi,he⟩
 simp-implicitDefEqProofs[hsl,hl]
 refine bf (fun h=>?_) (fun h=>?_)
 ·simp at h
  have h2:i<a.length:=by omega
  have g1:=List.getElem?_eq_getElem h2
  have g2:=List.getElem?_eq_getElem h
  have nx:=cC he h2 h
  have nn:=pV h2 h
  generalize a[i]=x at g1 nx nn
  generalize b[i]=y at g2 nx nn
  by_cases e:x=y
  ·simp-implicitDefEqProofs[g1,g2,e]
   exact⟨i+1,⟨by omega,nx e⟩,by omega,bp rfl (by simp[below,hsl,w1 (i:=i) (by omega)])⟩
  ·rw[aY (nn e)]
   simp-implicitDefEqProofs[g1,g2,e]
 ·simp at h
  have hie:i=a.length:=by omega
  subst hie
  rw[dp (dJ he hl)]
  simp-implicitDefEqProofs[]
theorem DA(a b:List (List UInt8))(ha:a.length≤1099511627776)(hb:b.length≤1099511627776):VF Tryz.prog G dY [.p (aq a),.p (aq b)] (.p (.bool (eqX a b))):=by
 refine AC.go lX ?_
 have hsl:∀l,aq l= .lst 1 (l.map fun w=>[.str w]):=fun _=>rfl
 by_cases hl:a.length=b.length
 case neg=>
  have hl':¬(a.length:Int)=b.length:=by omega
  rw[aY fun e=>hl (by rw[e])]
  simp-implicitDefEqProofs[dV,hsl,hl']
 simp-implicitDefEqProofs[dV,hsl,hl]
 refine aR (fun i:Nat=>al 26 [(0,.p (aq a)),(1,.p (aq b)),(12,.p (.int .i64 b.length)),(13,.p (.int .i64 i))]) (fun _=>[]) (fun i=>i≤a.length∧a.take i=b.take i) (fun i=>a.length-i) 0 (by simp) (bp rfl (by simp[below,hsl])) ?_
 rintro i ⟨hi,he⟩
 simp-implicitDefEqProofs[hsl]
 refine bf (fun h=>?_) (fun h=>?_)
 ·simp at h
  have h2:i<a.length:=by omega
  have g1:=List.getElem?_eq_getElem h2
  have g2:=List.getElem?_eq_getElem h
  have nx:=cC he h2 h
  have nn:=pV h2 h
  generalize a[i]=x at g1 nx nn
  generalize b[i]=y at g2 nx nn
  by_cases e:x=y
  ·simp-implicitDefEqProofs[g1,g2,e]
   exact⟨i+1,⟨by omega,nx e⟩,by omega,bp rfl (by simp[below,hsl,w1 (i:=i) (by omega)])⟩
  ·rw[aY (nn e)]
   simp-implicitDefEqProofs[g1,g2,e]
 ·simp at h
  have hie:i=a.length:=by omega
  subst hie
  rw[dp (dJ he hl)]
  simp-implicitDefEqProofs[]
theorem ou(F:FuncId)(a b:List Ex)(ha:a.length≤1099511627776)(hb:b.length≤1099511627776)(H:∀x∈a,∀y∈b,VF Tryz.prog G F [.agg (x.cs.map .p),.agg (y.cs.map .p)] (.p (.bool (eqX x y)))):VF Tryz.prog G bg [.p (exL a),.p (exL b),.fn (.func F) []] (.p (.bool (eqX a b))):=by
 refine AC.go iK ?_
 have hsl:∀l,exL l= .lst 4 (l.map Ex.cs):=fun _=>rfl
 by_cases hl:a.length=b.length
 case neg=>
  have hl':¬(a.length:Int)=b.length:=by omega
  rw[aY fun e=>hl (by rw[e])]
  simp-implicitDefEqProofs[cn,hsl,hl']
 simp-implicitDefEqProofs[cn,hsl,hl]
 refine aR (fun i:Nat=>al 32 [(0,.p (exL a)),(1,.p (exL b)),(2,.fn (.func F) []),(15,.p (exL a)),(16,.p (.int .i64 b.length)),(17,.p (.int .i64 i))]) (fun _=>[]) (fun i=>i≤a.length∧a.take i=b.take i) (fun i=>a.length-i) 0 (by simp) (bp rfl (by simp[below,ag,hsl])) ?_
 rintro i ⟨hi,he⟩
 simp-implicitDefEqProofs[hsl]
 refine bf (fun h=>?_) (fun h=>?_)
 ·simp at h
  have h2:i<a.length:=by omega
  have g1:=List.getElem?_eq_getElem h2
  have g2:=List.getElem?_eq_getElem h
  have nx:=cC he h2 h
  have nn:=pV h2 h
  have hh:=H _ (List.getElem_mem h2) _ (List.getElem_mem h)
  generalize a[i]=x at g1 nx nn hh
  generalize b[i]=y at g2 nx nn hh
  have c1:=x.cs_eq
  have c2:=y.cs_eq
  rw[c1,c2] at hh
  simp-implicitDefEqProofs[g1,g2,c1,c2]
  refine hh.use ?_
  by_cases e:x=y
  ·rw[dp e]
   simp-implicitDefEqProofs[]
   exact⟨i+1,⟨by omega,nx e⟩,by omega,bp rfl (by simp[below,ag,hsl,w1 (i:=i) (by omega)])⟩
  ·rw[aY e,aY (nn e)]
   simp-implicitDefEqProofs[]
 ·simp at h
  have hie:i=a.length:=by omega
  subst hie
  rw[dp (dJ he hl)]
  simp-implicitDefEqProofs[]
theorem oy(F:FuncId)(a b:List Sm)(ha:a.length≤1099511627776)(hb:b.length≤1099511627776)(H:∀x∈a,∀y∈b,VF Tryz.prog G F [.agg (x.cs.map .p),.agg (y.cs.map .p)] (.p (.bool (eqX x y)))):VF Tryz.prog G aT [.p (smL a),.p (smL b),.fn (.func F) []] (.p (.bool (eqX a b))):=by
 refine AC.go iN ?_
 have hsl:∀l,smL l= .lst 5 (l.map Sm.cs):=fun _=>rfl
 by_cases hl:a.length=b.length
 case neg=>
  have hl':¬(a.length:Int)=b.length:=by omega
  rw[aY fun e=>hl (by rw[e])]
  simp-implicitDefEqProofs[ct,hsl,hl']
 simp-implicitDefEqProofs[ct,hsl,hl]
 refine aR (fun i:Nat=>al 32 [(0,.p (smL a)),(1,.p (smL b)),(2,.fn (.func F) []),(15,.p (smL a)),(16,.p (.int .i64 b.length)),(17,.p (.int .i64 i))]) (fun _=>[]) (fun i=>i≤a.length∧a.take i=b.take i) (fun i=>a.length-i) 0 (by simp) (bp rfl (by simp[below,ag,hsl])) ?_
 rintro i ⟨hi,he⟩
 simp-implicitDefEqProofs[hsl]
 refine bf (fun h=>?_) (fun h=>?_)
 ·simp at h
  have h2:i<a.length:=by omega
  have g1:=List.getElem?_eq_getElem h2
  have g2:=List.getElem?_eq_getElem h
  have nx:=cC he h2 h
  have nn:=pV h2 h
  have hh:=H _ (List.getElem_mem h2) _ (List.getElem_mem h)
  generalize a[i]=x at g1 nx nn hh
  generalize b[i]=y at g2 nx nn hh
  have c1:=x.cs_eq
  have c2:=y.cs_eq
  rw[c1,c2] at hh
  simp-implicitDefEqProofs[g1,g2,c1,c2]
  refine hh.use ?_
  by_cases e:x=y
  ·rw[dp e]
   simp-implicitDefEqProofs[]
   exact⟨i+1,⟨by omega,nx e⟩,by omega,bp rfl (by simp[below,ag,hsl,w1 (i:=i) (by omega)])⟩
  ·rw[aY e,aY (nn e)]
   simp-implicitDefEqProofs[]
 ·simp at h
  have hie:i=a.length:=by omega
  subst hie
  rw[dp (dJ he hl)]
  simp-implicitDefEqProofs[]
theorem wP(F:FuncId)(a b:List Fd)(ha:a.length≤1099511627776)(hb:b.length≤1099511627776)(H:∀x∈a,∀y∈b,VF Tryz.prog G F [.agg (x.cs.map .p),.agg (y.cs.map .p)] (.p (.bool (eqX x y)))):VF Tryz.prog G cQ [.p (fdL a),.p (fdL b),.fn (.func F) []] (.p (.bool (eqX a b))):=by
 refine AC.go jw ?_
 have hsl:∀l,fdL l= .lst 3 (l.map Fd.cs):=fun _=>rfl
 by_cases hl:a.length=b.length
 case neg=>
  have hl':¬(a.length:Int)=b.length:=by omega
  rw[aY fun e=>hl (by rw[e])]
  simp-implicitDefEqProofs[cM,hsl,hl']
 simp-implicitDefEqProofs[cM,hsl,hl]
 refine aR (fun i:Nat=>al 32 [(0,.p (fdL a)),(1,.p (fdL b)),(2,.fn (.func F) []),(15,.p (fdL a)),(16,.p (.int .i64 b.length)),(17,.p (.int .i64 i))]) (fun _=>[]) (fun i=>i≤a.length∧a.take i=b.take i) (fun i=>a.length-i) 0 (by simp) (bp rfl (by simp[below,ag,hsl])) ?_
 rintro i ⟨hi,he⟩
 simp-implicitDefEqProofs[hsl]
 refine bf (fun h=>?_) (fun h=>?_)
 ·simp at h
  have h2:i<a.length:=by omega
  have g1:=List.getElem?_eq_getElem h2
  have g2:=List.getElem?_eq_getElem h
  have nx:=cC he h2 h
  have nn:=pV h2 h
  have hh:=H _ (List.getElem_mem h2) _ (List.getElem_mem h)
  generalize a[i]=x at g1 nx nn hh
  generalize b[i]=y at g2 nx nn hh
  have c1:=x.cs_eq'
  have c2:=y.cs_eq'
  rw[c1,c2] at hh
  simp-implicitDefEqProofs[g1,g2,c1,c2]
  refine hh.use ?_
  by_cases e:x=y
  ·rw[dp e]
   simp-implicitDefEqProofs[]
   exact⟨i+1,⟨by omega,nx e⟩,by omega,bp rfl (by simp[below,ag,hsl,w1 (i:=i) (by omega)])⟩
  ·rw[aY e,aY (nn e)]
   simp-implicitDefEqProofs[]
 ·simp at h
  have hie:i=a.length:=by omega
  subst hie
  rw[dp (dJ he hl)]
  simp-implicitDefEqProofs[]
theorem yJ:∀(N:Nat) (a:Ex),a.sz≤N→a.sz≤1073741824→∀b:Ex,b.sz≤1073741824→VF Tryz.prog G ck [.agg (a.cs.map .p),.agg (b.cs.map .p)] (.p (.bool (eqX a b))):=by
 intro N
 induction N with
 |zero=>intro e he;have:=e.sz_eq;omega
 |succ N ih=>
  intro a ha hz b hb
  have c1:=a.cs_eq
  have c2:=b.cs_eq
  have z1:=a.sz_eq
  have z2:=b.sz_eq
  have l1:=bn a.kids
  have l2:=bn b.kids
  refine AC.go rA ?_
  by_cases h1:a.op=b.op
  case neg=>
   rw[aY fun e=>h1 (by rw[e])]
   simp-implicitDefEqProofs[dL,c1,c2,h1]
  by_cases h2:a.n=b.n
  case neg=>
   rw[aY fun e=>h2 (by rw[e])]
   simp-implicitDefEqProofs[dL,c1,c2,h1,h2]
  by_cases h3:a.name=b.name
  case neg=>
   rw[aY fun e=>h3 (by rw[e])]
   simp-implicitDefEqProofs[dL,c1,c2,h1,h2,h3]
  have hE:eqX a b=eqX a.kids b.kids:=by
   by_cases h4:a.kids=b.kids
   ·rw[dp h4,dp (Ex.ext' h1 h2 h3 h4)]
   ·rw[aY h4,aY fun e=>h4 (by rw[e])]
  rw[hE]
  simp-implicitDefEqProofs[dL,c1,c2,h1,h2,h3]
  refine(ou G ck a.kids b.kids (by omega) (by omega) fun x hx y hy=>?_).use ?_
  ·have:=bm hx
   have:=bm hy
   exact ih x (by omega) (by omega) y (by omega)
  simp-implicitDefEqProofs[]
theorem xw(a b:List Ex)(ha:aX a≤1073741824)(hb:aX b≤1073741824):VF Tryz.prog G bg [.p (exL a),.p (exL b),.fn (.func ck) []] (.p (.bool (eqX a b))):=by
 have:=bn a
 have:=bn b
 exact ou G ck a b (by omega) (by omega) fun x hx y hy=>yJ G x.sz x (Nat.le_refl _) (by have:=bm hx;omega) y (by have:=bm hy;omega)
theorem yE:∀(N:Nat) (a:Sm),a.sz≤N→a.sz≤1073741824→∀b:Sm,b.sz≤1073741824→VF Tryz.prog G bK [.agg (a.cs.map .p),.agg (b.cs.map .p)] (.p (.bool (eqX a b))):=by
 intro N
 induction N with
 |zero=>intro e he;have:=e.sz_eq;omega
 |succ N ih=>
  intro a ha hz b hb
  have c1:=a.cs_eq
  have c2:=b.cs_eq
  have z1:=a.sz_eq
  have z2:=b.sz_eq
  have sub:∀x y:List Sm,ay x≤N→ay x≤1073741824→ay y≤1073741824→VF Tryz.prog G aT [.p (smL x),.p (smL y),.fn (.func bK) []] (.p (.bool (eqX x y))):=fun x y h1 h2 h3=>
   oy G bK x y (by have:=bA x;omega) (by have:=bA y;omega) fun u hu v hv=>ih u (by have:=bT hu;omega) (by have:=bT hu;omega) v (by have:=bT hv;omega)
  refine AC.go rC ?_
  by_cases h1:a.op=b.op
  case neg=>
   rw[aY fun e=>h1 (by rw[e])]
   simp-implicitDefEqProofs[fx,c1,c2,h1]
  by_cases h2:a.name=b.name
  case neg=>
   rw[aY fun e=>h2 (by rw[e])]
   simp-implicitDefEqProofs[fx,c1,c2,h1,h2]
  simp-implicitDefEqProofs[fx,c1,c2,h1,h2]
  refine(xw G a.args b.args (by omega) (by omega)).use ?_
  by_cases h3:a.args=b.args
  case neg=>
   rw[aY h3,aY fun e=>h3 (by rw[e])]
   simp-implicitDefEqProofs[]
  rw[dp h3]
  simp-implicitDefEqProofs[]
  refine(sub a.body b.body (by omega) (by omega) (by omega)).use ?_
  by_cases h4:a.body=b.body
  case neg=>
   rw[aY h4,aY fun e=>h4 (by rw[e])]
   simp-implicitDefEqProofs[]
  rw[dp h4]
  simp-implicitDefEqProofs[]
  refine(sub a.els b.els (by omega) (by omega) (by omega)).use ?_
  by_cases h5:a.els=b.els
  case neg=>
   rw[aY h5,aY fun e=>h5 (by rw[e])]
   simp-implicitDefEqProofs[]
  rw[dp h5,dp (Sm.ext' h1 h2 h3 h4 h5)]
  simp-implicitDefEqProofs[]
theorem qC(a b:Fd)(ha:a.sz≤1073741824)(hb:b.sz≤1073741824):VF Tryz.prog G cT [.agg (a.cs.map .p),.agg (b.cs.map .p)] (.p (.bool (eqX a b))):=by
 have c1:=a.cs_eq'
 have c2:=b.cs_eq'
 have z1:a.sz=1+a.name.length+(a.params.length+(a.params.map List.length).sum)+ay a.body:=rfl
 have z2:b.sz=1+b.name.length+(b.params.length+(b.params.map List.length).sum)+ay b.body:=rfl
 refine AC.go lU ?_
 by_cases h1:a.name=b.name
 case neg=>
  rw[aY fun e=>h1 (by rw[e])]
  simp-implicitDefEqProofs[dU,c1,c2,h1]
 simp-implicitDefEqProofs[dU,c1,c2,h1]
 refine(DA G a.params b.params (by omega) (by omega)).use ?_
 by_cases h2:a.params=b.params
 case neg=>
  rw[aY h2,aY fun e=>h2 (by rw[e])]
  simp-implicitDefEqProofs[]
 rw[dp h2]
 simp-implicitDefEqProofs[]
 refine(oy G bK a.body b.body (by have:=bA a.body;omega) (by have:=bA b.body;omega) fun u hu v hv=>yE G u.sz u (Nat.le_refl _) (by have:=bT hu;omega) v (by have:=bT hv;omega)).use ?_
 by_cases h3:a.body=b.body
 case neg=>
  rw[aY h3,aY fun e=>h3 (by rw[e])]
  simp-implicitDefEqProofs[]
 rw[dp h3,dp (by cases a;cases b;simp only at h1 h2 h3;subst h1 h2 h3;rfl)]
 simp-implicitDefEqProofs[]
theorem mO(a b:List Fd)(ha:aQ a≤1073741824)(hb:aQ b≤1073741824):VF Tryz.prog G dv [.agg [.p (fdL a)],.agg [.p (fdL b)]] (.p (.bool (eqX a b))):=by
 refine AC.go nV ?_
 simp-implicitDefEqProofs[iU]
 refine(wP G cT a b (by have:=dd a;omega) (by have:=dd b;omega) fun u hu v hv=>qC G u v (by have:=cP hu;omega) (by have:=cP hv;omega)).use ?_
 simp-implicitDefEqProofs[]
theorem yI:∀(N:Nat) (a:Ex),a.sz≤N→a.sz≤1073741824→∀b:Ex,b.sz≤1073741824→VF Tryz.prog G fw [.agg (a.cs.map .p),.agg (b.cs.map .p)] (.p (.bool (eqX a b))):=by
 intro N
 induction N with
 |zero=>intro e he;have:=e.sz_eq;omega
 |succ N ih=>
  intro a ha hz b hb
  have c1:=a.cs_eq
  have c2:=b.cs_eq
  have z1:=a.sz_eq
  have z2:=b.sz_eq
  have l1:=bn a.kids
  have l2:=bn b.kids
  have hsl:∀l,exL l= .lst 4 (l.map Ex.cs):=fun _=>rfl
  refine AC.go rT ?_
  by_cases h1:a.op=b.op
  case neg=>
   rw[aY fun e=>h1 (by rw[e])]
   simp-implicitDefEqProofs[da,c1,c2,h1]
  by_cases h2:a.n=b.n
  case neg=>
   rw[aY fun e=>h2 (by rw[e])]
   simp-implicitDefEqProofs[da,c1,c2,h1,h2]
  by_cases h3:a.name=b.name
  case neg=>
   rw[aY fun e=>h3 (by rw[e])]
   simp-implicitDefEqProofs[da,c1,c2,h1,h2,h3]
  by_cases hl:a.kids.length=b.kids.length
  case neg=>
   have hl':¬(a.kids.length:Int)=b.kids.length:=by omega
   rw[aY fun e=>hl (by rw[e])]
   simp-implicitDefEqProofs[da,c1,c2,h1,h2,h3,hsl,hl']
  simp-implicitDefEqProofs[da,c1,c2,h1,h2,h3,hsl,hl]
  refine aR (fun i:Nat=>al 53 [(2,.ptr 0 4 0 0),(3,.ptr 1 4 0 0),(5,.p (.int .i64 i))]) (fun _=>[.row 4 [[.p (.int .i64 b.op),.p (.int .i64 b.n),.p (.str b.name),.p (.lst 4 (a.kids.map Ex.cs))]],.row 4 [[.p (.int .i64 b.op),.p (.int .i64 b.n),.p (.str b.name),.p (.lst 4 (b.kids.map Ex.cs))]]]) (fun i=>i≤a.kids.length∧a.kids.take i=b.kids.take i) (fun i=>a.kids.length-i) 0 (by simp) (af (by simp) (by simp[okO,below]) (by simp[below])) ?_
  rintro i ⟨hi,he⟩
  simp-implicitDefEqProofs[hl]
  refine bf (fun h=>?_) (fun h=>?_)
  ·simp at h
   have h2':i<a.kids.length:=by omega
   have g1:=List.getElem?_eq_getElem h2'
   have g2:=List.getElem?_eq_getElem h
   have nx:=cC he h2' h
   have nn:=pV h2' h
   have s1:=bm (List.getElem_mem h2')
   have s2:=bm (List.getElem_mem h)
   generalize a.kids[i]=x at g1 nx nn s1
   generalize b.kids[i]=y at g2 nx nn s2
   simp-implicitDefEqProofs[g1,g2]
   refine(ih x (by omega) (by omega) y (by omega)).use ?_
   by_cases e:x=y
   ·rw[dp e]
    simp-implicitDefEqProofs[]
    exact⟨i+1,⟨by omega,nx e⟩,by omega,af (by simp) (by simp[okO,below]) (by simp[below,w1 (i:=i) (by omega)])⟩
   ·rw[aY e,aY fun e=>nn ‹_› (by rw[e])]
    simp-implicitDefEqProofs[]
  ·simp at h
   have hie:i=a.kids.length:=by omega
   subst hie
   rw[dp (Ex.ext' h1 h2 h3 (dJ he hl))]
   simp-implicitDefEqProofs[]
theorem wc:∀(N:Nat) (a:List Sm),ay a<N→ay a≤1073741824→∀b:List Sm,ay b≤1073741824→VF Tryz.prog G db [.p (smL a),.p (smL b)] (.p (.bool (eqX a b))):=by
 intro N
 induction N with
 |zero=>intro a ha;omega
 |succ N ih=>
  intro a ha hza b hzb
  have l1:=bA a
  have l2:=bA b
  have hsl:∀l,smL l= .lst 5 (l.map Sm.cs):=fun _=>rfl
  have hxl:∀l,exL l= .lst 4 (l.map Ex.cs):=fun _=>rfl
  refine AC.go qu ?_
  by_cases hl:a.length=b.length
  case neg=>
   have hl':¬(a.length:Int)=b.length:=by omega
   rw[aY fun e=>hl (by rw[e])]
   simp-implicitDefEqProofs[gr,hsl,hl']
  simp-implicitDefEqProofs[gr,hsl,hl]
  refine aR (fun i:Nat=>al 111 [(0,.p (smL a)),(1,.p (smL b)),(5,.p (.int .i64 i))]) (fun _=>[]) (fun i=>i≤a.length∧a.take i=b.take i) (fun i=>a.length-i) 0 (by simp) (bp rfl (by simp[below,hsl])) ?_
  rintro i ⟨hi,he⟩
  simp-implicitDefEqProofs[hsl,hl]
  refine bf (fun h=>?_) (fun h=>?_)
  case _=>
   simp at h
   have h2:i<a.length:=by omega
   have g1:=List.getElem?_eq_getElem h2
   have g2:=List.getElem?_eq_getElem h
   have nx:=cC he h2 h
   have nn:=pV h2 h
   have m1:=bT (List.getElem_mem h2)
   have m2:=bT (List.getElem_mem h)
   generalize a[i]=x at g1 nx nn m1
   generalize b[i]=y at g2 nx nn m2
   have c1:=x.cs_eq
   have c2:=y.cs_eq
   have z1:=x.sz_eq
   have z2:=y.sz_eq
   have q1:=bn x.args
   have q2:=bn y.args
   by_cases h1:x.op=y.op
   case neg=>
    rw[aY (nn fun e=>h1 (by rw[e]))]
    simp-implicitDefEqProofs[g1,g2,c1,c2,h1]
   by_cases h3:x.name=y.name
   case neg=>
    rw[aY (nn fun e=>h3 (by rw[e]))]
    simp-implicitDefEqProofs[g1,g2,c1,c2,h1,h3]
   by_cases h4:x.args.length=y.args.length
   case neg=>
    have h4':¬(x.args.length:Int)=y.args.length:=by omega
    rw[aY (nn fun e=>h4 (by rw[e]))]
    simp-implicitDefEqProofs[g1,g2,c1,c2,h1,h3,hxl,h4']
   simp-implicitDefEqProofs[g1,g2,c1,c2,h1,h3,hxl,h4]
   refine aR (fun j:Nat=>al 111 [(0,.p (smL a)),(1,.p (smL b)),(5,.p (.int .i64 i)),(6,.p (.int .i64 j))]) (fun _=>[]) (fun j=>j≤x.args.length∧x.args.take j=y.args.take j) (fun j=>x.args.length-j) 0 (by simp) (bp rfl (by simp[below,hsl])) ?_
   rintro j ⟨hj,hej⟩
   simp-implicitDefEqProofs[hsl,g1,g2,c1,c2,hxl,h4]
   refine bf (fun hc=>?_) (fun hc=>?_)
   ·simp at hc
    have hc2:j<x.args.length:=by omega
    have a1:=List.getElem?_eq_getElem hc2
    have a2:=List.getElem?_eq_getElem hc
    have nx2:=cC hej hc2 hc
    have nn2:=pV hc2 hc
    have u1:=bm (List.getElem_mem hc2)
    have u2:=bm (List.getElem_mem hc)
    generalize x.args[j]=v at a1 nx2 nn2 u1
    generalize y.args[j]=w at a2 nx2 nn2 u2
    simp-implicitDefEqProofs[hsl,g1,g2,c1,c2,hxl,a1,a2]
    refine(yI G v.sz v (Nat.le_refl _) (by omega) w (by omega)).use ?_
    by_cases e:v=w
    ·rw[dp e]
     simp-implicitDefEqProofs[]
     exact⟨j+1,⟨by omega,nx2 e⟩,by omega,bp rfl (by simp[below,hsl,w1 (i:=j) (by omega)])⟩
    ·rw[aY e,aY (nn fun q=>nn2 e (by rw[q]))]
     simp-implicitDefEqProofs[]
   ·simp at hc
    have hje:j=x.args.length:=by omega
    subst hje
    have hA:=dJ hej h4
    simp-implicitDefEqProofs[g1,g2,c1,c2]
    refine(ih x.body (by omega) (by omega) y.body (by omega)).use ?_
    by_cases h5:x.body=y.body
    case neg=>
     rw[aY h5,aY (nn fun e=>h5 (by rw[e]))]
     simp-implicitDefEqProofs[]
    rw[dp h5]
    simp-implicitDefEqProofs[g1,g2,c1,c2]
    refine(ih x.els (by omega) (by omega) y.els (by omega)).use ?_
    by_cases h6:x.els=y.els
    case neg=>
     rw[aY h6,aY (nn fun e=>h6 (by rw[e]))]
     simp-implicitDefEqProofs[]
    rw[dp h6]
    simp-implicitDefEqProofs[]
    exact⟨i+1,⟨by omega,nx (Sm.ext' h1 h3 hA h5 h6)⟩,by omega,bp rfl (by simp[below,hsl,w1 (i:=i) (by omega)])⟩
  case _=>
   simp at h
   have hie:i=a.length:=by omega
   subst hie
   rw[dp (dJ he hl)]
   simp-implicitDefEqProofs[]
theorem tH(a b:List Fd)(ha:aQ a≤1073741824)(hb:aQ b≤1073741824):VF Tryz.prog G eV [.agg [.p (fdL a)],.agg [.p (fdL b)]] (.p (.bool (eqX a b))):=by
 have hll1:=dd a
 have hll2:=dd b
 have hfl:∀l,fdL l= .lst 3 (l.map Fd.cs):=fun _=>rfl
 refine AC.go nM ?_
 by_cases hl:a.length=b.length
 case neg=>
  have hl':¬(a.length:Int)=b.length:=by omega
  rw[aY fun e=>hl (by rw[e])]
  simp-implicitDefEqProofs[eX,hfl,hl']
 simp-implicitDefEqProofs[eX,hfl,hl]
 refine aR (fun i:Nat=>al 65 [(2,.ptr 0 1 0 0),(3,.ptr 1 1 0 0),(5,.p (.int .i64 i))]) (fun _=>[.row 1 [[.p (fdL a)]],.row 1 [[.p (fdL b)]]]) (fun i=>i≤a.length∧a.take i=b.take i) (fun i=>a.length-i) 0 (by simp) (af (by simp) (by simp[okO,below]) (by simp[below])) ?_
 rintro i ⟨hi,he⟩
 simp-implicitDefEqProofs[hfl,hl]
 refine bf (fun h=>?_) (fun h=>?_)
 case _=>
  simp at h
  have h2:i<a.length:=by omega
  have g1:=List.getElem?_eq_getElem h2
  have g2:=List.getElem?_eq_getElem h
  have nx:=cC he h2 h
  have nn:=pV h2 h
  have m1:=cP (List.getElem_mem h2)
  have m2:=cP (List.getElem_mem h)
  generalize a[i]=x at g1 nx nn m1
  generalize b[i]=y at g2 nx nn m2
  have c1:=x.cs_eq'
  have c2:=y.cs_eq'
  have z1:x.sz=1+x.name.length+(x.params.length+(x.params.map List.length).sum)+ay x.body:=rfl
  have z2:y.sz=1+y.name.length+(y.params.length+(y.params.map List.length).sum)+ay y.body:=rfl
  by_cases h1:x.name=y.name
  case neg=>
   rw[aY (nn fun e=>h1 (by rw[e]))]
   simp-implicitDefEqProofs[g1,g2,c1,c2,h1]
  simp-implicitDefEqProofs[g1,g2,c1,c2,h1]
  refine(BF G x.params y.params (by omega) (by omega)).use ?_
  by_cases h3:x.params=y.params
  case neg=>
   rw[aY h3,aY (nn fun e=>h3 (by rw[e]))]
   simp-implicitDefEqProofs[]
  rw[dp h3]
  simp-implicitDefEqProofs[g1,g2,c1,c2]
  refine(wc G (ay x.body+1) x.body (by omega) (by omega) y.body (by omega)).use ?_
  by_cases h4:x.body=y.body
  case neg=>
   rw[aY h4,aY (nn fun e=>h4 (by rw[e]))]
   simp-implicitDefEqProofs[]
  rw[dp h4]
  simp-implicitDefEqProofs[]
  exact⟨i+1,⟨by omega,nx (by cases x;cases y;simp only at h1 h3 h4;subst h1 h3 h4;rfl)⟩,by omega,af (h:=[.row 1 [[.p (fdL a)]],.row 1 [[.p (fdL b)]]]) (by simp) (by simp[okO,below]) (by simp[below,w1 (i:=i) (by omega)])⟩
 case _=>
  simp at h
  have hie:i=a.length:=by omega
  subst hie
  rw[dp (dJ he hl)]
  simp-implicitDefEqProofs[]
end Go.Proofs.YtiojgfhdcpppcaaGreatDoor
namespace Go.Proofs.YtiojgfhdcpppcaaGreatDoor
open Go Go.Aw
set_option maxRecDepth 100000
theorem rv(fns:List Fd):∀(l:List Fd) (k:Nat),gL fns k l=0↔∀(i:Nat) (f:Fd),l[i]?=some f→(fnW fns (k+i) f).code=0
 |[],k=>by simp[gL]
 |f::r,k=>by
  rw[gL]
  have ih:=rv fns r (k+1)
  constructor
  ·intro h i g hg
   by_cases h0:(fnW fns k f).code=0
   ·rw[if_pos h0] at h
    cases i with
    |zero=>cases hg;exact h0
    |succ i=>have:=ih.1 h i g (by simpa using hg);rwa[show k+(i+1)=k+1+i by omega]
   ·rw[if_neg h0] at h;exact absurd h h0
  ·intro h
   rw[if_pos (by have:=h 0 f rfl;rwa[Nat.add_zero] at this)]
   exact ih.2 fun i g hg=>by have:=h (i+1) g (by simpa using hg);rwa[show k+(i+1)=k+1+i by omega] at this
theorem Ah(l:List Fd):dI l=0↔bu l=true∧∀(k:Nat) (f:Fd),l[k]?=some f→(fnW l k f).code=0:=by
 unfold dI
 by_cases h:bu l=true
 ·rw[if_pos h,rv];simp[h]
 ·rw[if_neg h];simp[h]
theorem lA(l:List Fd):bu l=true↔(1≤l.length∧l.length≤4)∧(∀f∈l,iF f=true)∧jc l≤40:=by
 simp only[bu,inR,Bool.and_eq_true,decide_eq_true_eq,List.all_eq_true]
 constructor
 ·rintro⟨⟨⟨h1,h2⟩,h3⟩,h4⟩;exact⟨⟨by omega,by omega⟩,h3,h4⟩
 ·rintro⟨⟨h1,h2⟩,h3,h4⟩;exact⟨⟨⟨by omega,by omega⟩,h3⟩,h4⟩
def Fd.cut(f:Fd)(n:Nat):Fd:=⟨f.name,f.params,f.body.take n⟩
end Go.Proofs.YtiojgfhdcpppcaaGreatDoor
namespace Go.Proofs.YtiojgfhdcpppcaaGreatDoor
open Go Go.Aw
set_option maxRecDepth 100000
set_option maxHeartbeats 4000000
def lB(l:List Fd):Nat→List Fd
 |0=>[]
 |i+1=>lB l i++(match l[i]? with|some f=>[rnF l i f]|none=>[])
def pL(l:List Fd):Bool:=l.all fun f=>decide (my f≤26)
def fT(l:List Fd):Bool:=decide (dI l=0)&&pL l
def ki(l:List Fd):List Fd:=if fT l=true then l.map irF else[]
theorem wJ(l:List Fd):∀i,i≤l.length→(lB l i).length=i
 |0,_=>rfl
 |i+1,h=>by
  have hg:=List.getElem?_eq_getElem (show i<l.length by omega)
  rw[lB,List.length_append,wJ l i (by omega),hg];rfl
theorem Ac{l:List Fd}(h:dI l=0):∀i,i≤l.length→lB l i=(l.take i).map irF
 |0,_=>by simp[lB]
 |i+1,hi=>by
  have hl:i<l.length:=by omega
  have hg:=List.getElem?_eq_getElem hl
  rw[lB,Ac h i (by omega),hg,an hl,List.map_append]
  simp only
  rw[Hq l i l[i] (((Ah l).1 h).2 i l[i] hg)];rfl
variable (G:aG)
theorem lO(l:List Fd)(hz:aQ l≤1073741824):VF Tryz.prog G bZ [.agg [.p (fdL l)]] (.tup [.agg [.p (fdL (ki l))],.p (.bool (fT l))]):=by
 have hll:=dd l
 have hfl:∀l,fdL l= .lst 3 (l.map Fd.cs):=fun _=>rfl
 have key:AC Tryz.prog G bZ [.agg [.p (fdL l)]] [] fun x h=>∃v,x= .ret (.tup [.agg [v],.p (.bool (fT l))])∧View h v (fdL (ki l)):=by
  refine AC.go mG ?_
  simp-implicitDefEqProofs[iq]
  refine(CV G l hz).use ?_
  by_cases h0:dI l=0
  case neg=>
   have hr:fT l=false:=by simp[fT,h0]
   have hp:ki l=[]:=by simp[ki,hr]
   rw[hr,hp]
   simp-implicitDefEqProofs[h0]
   exact .nils 3
  have hro:fT l=pL l:=by simp[fT,h0]
  have hrp:ki l=if pL l=true then l.map irF else[]:=by rw[ki,hro]
  rw[hro,hrp]
  simp-implicitDefEqProofs[h0]
  have hE:∀i,okO 0 (bk 3 (aI (lB l i))):=fun i=>Af (je _)
  have hok:∀i,∀o∈[AO.row 1 [[.p (fdL l)]],.row 1 [[.nils]],.row 1 [[slE 3 3 (aI (lB l i))]],bk 3 (aI (lB l i))],okO 4 o:=fun i=>
   ae (by simp[okO,below]) (ae (by simp[okO,below]) (ae (by intro e he;rw[List.mem_singleton.1 he];exact⟨lF (by omega),trivial⟩) (ae (bO (hE i)) dg)))
  refine aR (fun i:Nat=>al 38 [(1,.ptr 0 1 0 0),(2,.ptr 1 1 0 0),(4,.ptr 2 1 0 0),(5,.p (.int .i64 i))]) (fun i=>[.row 1 [[.p (fdL l)]],.row 1 [[.nils]],.row 1 [[slE 3 3 (aI (lB l i))]],bk 3 (aI (lB l i))]) (fun i=>i≤l.length∧∀f∈l.take i,my f≤26) (fun i=>l.length-i) 0 (by simp) ?_ ?_
  ·have e1:slE 3 3 (aI (lB l 0))= .nils:=rfl
   have e2:bk 3 (aI (lB l 0))= .dead:=rfl
   rw[e1,e2]
   exact gk (h:=[AO.row 1 [[.p (fdL l)]],.row 1 [[.nils]],.row 1 [[.nils]]]) (by simp) (by simp) (by simp[okO,below]) (by simp[below])
  rintro i ⟨hi,hf⟩
  simp-implicitDefEqProofs[hfl]
  refine bf (fun h=>?_) (fun h=>?_)
  ·simp at h
   have hg:=List.getElem?_eq_getElem h
   have hT:lB l (i+1)=lB l i++[rnF l i l[i]]:=by rw[lB,hg]
   have hol:=wJ l i (by omega)
   have hmem:=List.getElem_mem h
   have htk:=an h
   generalize l[i]=f at hg hT hmem htk
   have hcw:=AS l i f
   have hrc:=za l i f
   have hrl:(aI (lB l i)).length=i:=by simp[aI,hol]
   generalize lB l i=out at hT hol hrl
   simp-implicitDefEqProofs[]
   refine(Ee G hg hz).use ?_
   have hvn:(fnW l i f).count=my f:=hcw
   by_cases h26:my f≤26
   case neg=>
    have hfw:pL l=false:=by
     cases e:pL l with
     |false=>rfl
     |true=>
      rw[pL,List.all_eq_true] at e
      have:=e f hmem
      exact absurd (by simpa using this) h26
    have h26':(26:Int)<(my f:Int):=by omega
    rw[hfw]
    simp-implicitDefEqProofs[hrc,hvn,h26']
    exact .nils 3
   have h26':¬(26:Int)<(my f:Int):=by omega
   simp-implicitDefEqProofs[hrc,hvn,h26']
   refine⟨by omega,i+1,⟨h,fun g hgm=>?_⟩,by omega,?_⟩
   ·rw[htk] at hgm
    rcases List.mem_append.1 hgm with h|h
    ·exact hf g h
    ·rw[List.mem_singleton.1 h];exact h26
   ·rw[hT]
    have hR:aI (out++[rnF l i f])=aI out++[[.p (.str f.name),.p (aq (lG f.params (w0 l i f))),.p (smL (fM l i 0 f.body (cw f.params (w0 l i f))))]]:=by
     rw[aI,List.map_append,List.map_singleton,hrc];rfl
    rw[hR,lE _ (by simp),jG _ (by simp)]
    refine xA [0,1,2,6] rfl (by decide) (bl rfl (by simp) (bl rfl (by simp) (cf (es:=[[.sl 3 3 0 ((aI out).length+1)]]) (by simp[below]) (by simp[ren,bh]) (bl rfl (fun x hx=>?_) cG)))) (by simp[below,ren,hfl,w1 (i:=i) (by omega)])
    rcases List.mem_append.1 hx with h|h
    ·exact je _ x h
    ·rw[List.mem_singleton.1 h];simp
  ·simp at h
   have hie:i=l.length:=by omega
   subst hie
   rw[List.take_length] at hf
   have hfw:pL l=true:=by
    rw[pL,List.all_eq_true];exact fun f hm=>by simpa using hf f hm
   have hmm:lB l l.length=l.map irF:=by rw[Ac h0 _ (Nat.le_refl _),List.take_length]
   rw[hfw,if_pos rfl,hmm]
   simp-implicitDefEqProofs[]
   have hh:aI (l.map irF)=((l.map irF).map Fd.cs).map (·.map .p):=by simp[aI]
   rw[hh]
   have:=qH (h:=[AO.row 1 [[AV.p (PV.lst 3 (List.map Fd.cs l))]],AO.row 1 [[slE 3 3 (((l.map irF).map Fd.cs).map (·.map .p))]],AO.row 1 [[slE 3 3 (((l.map irF).map Fd.cs).map (·.map .p))]],bk 3 (((l.map irF).map Fd.cs).map (·.map .p))]) (id:=3) (sz:=3) (ls:=(l.map irF).map Fd.cs) rfl (fun x hx=>by obtain⟨b,_,rfl⟩:=List.mem_map.1 hx;rfl)
   rw[List.map_map (l:=l)] at this
   simpa using this
 refine key.freezeR (fun t v h ⟨_,e,_⟩=>by cases e) fun v h ⟨u,e1,e2⟩=>?_
 cases e1
 exact .tup (.agg (.one e2 .nil) (.keep (by simp) .nil)) .nil
theorem xE(l:List Fd)(hz:aQ l≤1073741824)(hr:aQ (ki l)≤1073741824):VF Tryz.prog G gU [.agg [.p (fdL l)]] (.p (.bool (fT l&&eqX (ki l) l))):=by
 refine AC.go qF ?_
 simp-implicitDefEqProofs[kP]
 refine(lO G l hz).use ?_
 cases h:fT l with
 |false=>simp-implicitDefEqProofs[]
 |true=>
  simp-implicitDefEqProofs[]
  refine(tH G (ki l) l hr hz).use ?_
  simp-implicitDefEqProofs[]
end Go.Proofs.YtiojgfhdcpppcaaGreatDoor
