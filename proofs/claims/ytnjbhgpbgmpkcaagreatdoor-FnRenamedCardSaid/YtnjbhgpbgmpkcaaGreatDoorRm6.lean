/-
  Contracts and lemmas that the card needs, part 6.
-/
import Derived.Test.YtnjbhgpbgmpkcaaGreatDoorRm5
import Derived.Test.YtnjbhgpbgmpkcaaGreatDoorChecked
import Derived.Shelf.Sort.AssemblyIn
import Derived.Shelf.Slices.CompactI
import Derived.Sort.Grow
import Derived.Shelf.Sort.Plain
namespace Go.Proofs.YtnjbhgpbgmpkcaaGreatDoor
open Go Go.Aw
set_option maxRecDepth 100000
set_option maxHeartbeats 4000000
def K_impl_checker_block:AK:= .seq (.reg [oM 14 1,oJ 15 (.len false (.t 14)),oK 16 0]) (.blk 0 (.loop (.seq (.reg [oJ 17 (.bin .lss (.t 16) (.t 15))]) (.seq (.cond (.t 17) (.skip) (.exit 0)) (.seq (.blk 1 (.seq (.reg [oJ 18 (.idxS 5 (.t 14) (.t 16)),oJ 19 (.ld (some 5) (.t 18)),oJ 7 (.alloc [(.p (.int .i64 0)),(.p (.str [])),.nils,.nils,.nils]),⟨none,none,.st 5 (.t 7) (.t 19)⟩]) (.seq (.seq (.reg [oF 20 2 7,oL 21 20,oJ 22 (.len false (.t 21)),oK 23 0]) (.blk 2 (.loop (.seq (.reg [oJ 24 (.bin .lss (.t 23) (.t 22))]) (.seq (.cond (.t 24) (.skip) (.exit 2)) (.seq (.blk 3 (.seq (.reg [oJ 25 (.idxS 4 (.t 21) (.t 23)),oJ 26 (.ld (some 4) (.t 25)),oJ 9 (.alloc [(.p (.int .i64 0)),(.p (.int .i64 0)),(.p (.str [])),.nils]),⟨none,none,.st 4 (.t 9) (.t 26)⟩]) (.reg [oM 27 0,oJ 28 (.ld (some 4) (.t 9)),oM 29 2,oJ 30 (.call cL [(.t 27),(.t 28),(.t 29)])]))) (.reg [oJ 31 (.bin .add (.t 23) (.c (.p (.int .i64 1)))),oM 23 31]))))))) (.cut (.seq (.reg [oF 32 0 7,oL 33 32]) (.blk 4 (.seq (.reg [oJ 35 (.bin .eql (.t 33) (.c (.p (.int .i64 1)))),oM 34 35]) (.cond (.t 34) (.seq (.seq (.reg [oM 37 2,oN 38 37,oF 39 0 38,oF 41 1 7,oL 40 39,oL 42 41,oJ 43 (.lk 1 (.p (.int .i64 0)) true (.t 40) (.t 42)),oM 36 43,oJ 44 (.ext 0 (.t 36)),oJ 45 (.ext 1 (.t 36)),oM 10 44,oM 11 45]) (.seq (.reg [oM 46 11]) (.cond (.t 46) (.reg [oM 47 0,oJ 48 (.call ay [(.t 47),(.c (.p (.int .i64 2)))])]) (.skip)))) (.reg [oM 49 2,oN 50 49,oF 51 0 50,oF 53 1 7,oL 52 51,oL 54 53,⟨none,none,.mup 1 (.t 52) (.t 54) (.c (.p (.int .i64 0)))⟩])) (.seq (.reg [oJ 56 (.bin .eql (.t 33) (.c (.p (.int .i64 2)))),oM 55 56]) (.cond (.t 55) (.seq (.reg [oM 58 2,oF 59 1 7,oL 60 59,oJ 61 (.call aP [(.t 58),(.t 60)]),oM 57 61,oJ 62 (.ext 0 (.t 57)),oJ 63 (.ext 1 (.t 57)),oM 12 62,oM 13 63]) (.seq (.reg [oM 64 13,oJ 65 (.not (.t 64))]) (.cond (.t 65) (.reg [oM 66 0,oJ 67 (.call ay [(.t 66),(.c (.p (.int .i64 3)))])]) (.skip)))) (.skip))))))) (.seq (.reg [oF 68 0 7,oL 69 68,oJ 70 (.bin .eql (.t 69) (.c (.p (.int .i64 5)))),oM 71 70,⟨(some 72),some (71,false),.fldA 0 (.t 7)⟩,⟨(some 73),some (71,false),.ld none (.t 72)⟩,⟨(some 74),some (71,false),.bin .eql (.t 73) (.c (.p (.int .i64 6)))⟩,oJ 75 (.pick (.t 71) (.c (.p (.bool true))) (.t 74))]) (.cond (.t 75) (.seq (.reg [oM 76 0,oF 77 3 7,oM 79 2,oL 78 77,oJ 80 (.call aK [(.t 79)]),⟨none,none,.chk none 77 78⟩,oJ 81 (.call aV [(.t 76),(.t 78),(.t 80)])]) (.reg [oM 82 0,oF 83 4 7,oM 85 2,oL 84 83,oJ 86 (.call aK [(.t 85)]),⟨none,none,.chk none 83 84⟩,oJ 87 (.call aV [(.t 82),(.t 84),(.t 86)])])) (.skip))))))) (.reg [oJ 88 (.bin .add (.t 16) (.c (.p (.int .i64 1)))),oM 16 88]))))))
theorem nq:K_impl_checker_block.whole=F_impl_checker_block.ak:=rfl
theorem yb(fns:List Fd)(k:Nat):∀(a b:List Sm) (m:Scp) (up:List Scp) (c:Int),ij fns k (a++b) m up c=ij fns k b (ij fns k a m up c).1 up (ij fns k a m up c).2
 |[],b,m,up,c=>rfl
 |s::r,b,m,up,c=>by rw[List.cons_append,ij,ij,yb fns k r]
theorem CL{fns:List Fd}{k:Nat}{l:List Sm}{m:Scp}{up:List Scp}{c:Int}{i:Nat}(h:i<l.length):ij fns k (l.take (i+1)) m up c=icS fns k l[i] (ij fns k (l.take i) m up c).1 up (ij fns k (l.take i) m up c).2:=by
 rw[an h,yb];rfl
def AX(b0:AO)(fns:List Fd)(k:Nat)(up:List GS)(gap:List AO)(c:Int):List AO:=b0::cO fns k c::(scH up++gap)
theorem Ju(b0:AO)(fns:List Fd)(k:Nat)(up:List GS)(gap:List AO)(c:Int):(AX b0 fns k up gap c).length=2+scL up+gap.length:=by
 simp only[AX,List.length_cons,List.length_append,iT];omega
theorem Fr(b0:AO)(fns:List Fd)(k:Nat)(up:List GS)(gap:List AO)(m:Scp)(c:Int)(rest:List AO):CH b0 fns k c (⟨gap,m⟩::up)++rest=AX b0 fns k up gap c++(.mp (mpE m):: .row 2 [[.mp (2+scL up+gap.length),upV up]]::rest):=by
 simp[CH,AX,scH]
theorem EU(b0:AO)(fns:List Fd)(k:Nat)(up:List GS)(gap:List AO)(m:Scp)(c:Int):CH b0 fns k c (⟨gap,m⟩::up)=AX b0 fns k up gap c++[.mp (mpE m),.row 2 [[.mp (2+scL up+gap.length),upV up]]]:=by
 have:=Fr b0 fns k up gap m c []
 rwa[List.append_nil] at this
theorem Mz{b0:AO}{fns:List Fd}{k:Nat}{up:List GS}{gap:List AO}(hb:okO 0 b0)(hs:lq up)(hg:∀o∈gap,okO (2+scL up+gap.length) o)(c:Int):∀o∈AX b0 fns k up gap c,okO (2+scL up+gap.length) o:=by
 refine ae (bU hb) (ae (by intro e he;rw[List.mem_singleton.1 he];simp[below]) ?_)
 intro o ho
 rcases List.mem_append.1 ho with h|h
 ·exact xI up hs (by omega) o h
 ·exact hg o h
theorem ov{kk L n:Nat}{A r s:List AO}{l l1:List (Nat × AV)}(hl:A.length=L)(hk:kk≤L+r.length)(ha:∀o∈A,okO L o)(hr:∀o∈r,okO (L+r.length) o)(H:FgA (L+r.length) l l1):Wk kk (al n l) (A++(r++s)) (al n l1) (A++r):=by
 have hll:(A++r).length=L+r.length:=by rw[List.length_append,hl]
 refine gH (m:=L+r.length) hk (dQ ?_ hll ?_) H
 ·rw[←List.append_assoc,←hll,List.take_left'];rfl
 ·intro o ho
  rcases List.mem_append.1 ho with h|h
  ·exact lJ (by omega) (ha o h)
  ·exact hr o h
theorem tX(m:Scp)(n:Nat):okO n (.mp (mpE m)):=by
 intro e he
 obtain⟨x,_,rfl⟩:=List.mem_map.1 he
 simp[below]
variable (G:aC)
theorem Ia(b0:AO){fns:List Fd}{k:Nat}(hf:fns.length≤1073741824)(hk:k≤fns.length)(hb:okO 0 b0):∀(N:Nat) (l:List Sm),am l<N→am l≤1073741824→∀(gap:List AO) (m:Scp) (up:List GS) (c:Int),lq (⟨gap,m⟩::up)→
 AC Tryz.prog G aV [.ptr 1 3 0 0,.p (smL l),upV (⟨gap,m⟩::up)] (CH b0 fns k c (⟨gap,m⟩::up)) fun x h=>x= .ret (.tup [])∧h=CH b0 fns k (ij fns k l m (sco up) c).2 (⟨gap,(ij fns k l m (sco up) c).1⟩::up):=by
 intro N
 induction N with
 |zero=>intro l h;omega
 |succ N ih=>
  intro l hl hz gap m up c hs
  have hll:=bA l
  have hsl:∀l,smL l= .lst 5 (l.map Sm.cs):=fun _=>rfl
  have hs':∀m,lq (⟨gap,m⟩::up):=fun _=>hs
  have hscl:∀m,scL (⟨gap,m⟩::up)=scL up+gap.length+2:=fun _=>rfl
  refine Bq G (AC.goK nS nq ?_) (by rw[iG,iG];rfl) (by rw[iG];exact yL hb (hs' _) (by rw[hscl];exact Nat.le_of_eq (by rfl))) (by simp[below])
  have hup:upV (⟨gap,m⟩::up)= .ptr (2+scL up+gap.length+1) 2 0 0:=rfl
  have hlenC:∀c m,(CH b0 fns k c (⟨gap,m⟩::up)).length=2+scL up+gap.length+2:=fun c m=>by rw[iG,hscl];omega
  have hokC:∀c m,∀o∈CH b0 fns k c (⟨gap,m⟩::up),okO (2+scL up+gap.length+2) o:=fun c m=>yL hb (hs' m) (by rw[hscl];omega)
  have hlenA:∀c,(AX b0 fns k up gap c).length=2+scL up+gap.length:=Ju b0 fns k up gap
  simp-implicitDefEqProofs[K_impl_checker_block,F_impl_checker_block,hsl,hup]
  refine aN (fun i:Nat=>al 89 [(0,.ptr 1 3 0 0),(2,.ptr (2+scL up+gap.length+1) 2 0 0),(14,.p (smL l)),(15,.p (.int .i64 l.length)),(16,.p (.int .i64 i))])
   (fun i=>CH b0 fns k (ij fns k (l.take i) m (sco up) c).2 (⟨gap,(ij fns k (l.take i) m (sco up) c).1⟩::up)) (fun i=>i≤l.length) (fun i=>l.length-i) 0 (by simp) ?_ ?_
  ·refine ab (h:=CH b0 fns k c (⟨gap,m⟩::up)) (Nat.le_refl _) (by rw[hlenC];exact hokC _ _) ?_
   rw[hlenC]
   simp[below,hsl]
  intro i hi
  have eT:=fun h=>CL (fns:=fns) (k:=k) (l:=l) (m:=m) (up:=sco up) (c:=c) (i:=i) h
  rw[hlenC]
  generalize hst:ij fns k (l.take i) m (sco up) c=st at eT⊢
  obtain⟨mi,ci⟩:=st
  simp only at eT⊢
  simp-implicitDefEqProofs[hsl]
  refine bc (fun h=>?_) (fun h=>?_)
  ·simp at h
   have hg:=List.getElem?_eq_getElem h
   have hse:=l[i].cs_eq
   have hsz:=l[i].sz_eq
   have hks:=bY (List.getElem_mem h)
   have eT:=eT h
   generalize l[i]=s at hg hse hsz hks eT
   obtain⟨o,nme,a,bd,el⟩:=s
   simp only[Sm.op,Sm.name,Sm.args,Sm.body,Sm.els] at hse hsz
   have hxl:exL a= .lst 4 (a.map Ex.cs):=rfl
   have hal:=bi a
   simp-implicitDefEqProofs[hg,hse,hlenC,hxl]
   have hexpr:∀(c:Int) (e:Ex) (rest:List AO),e.sz≤1073741824→AC Tryz.prog G cL [.ptr 1 3 0 0,.agg (e.cs.map .p),.ptr (2+scL up+gap.length+1) 2 0 0] (AX b0 fns k up gap c++(.mp (mpE mi):: .row 2 [[.mp (2+scL up+gap.length),upV up]]::rest)) fun x h=>x= .ret (.tup [])∧h=AX b0 fns k up gap (e.pre.foldl (gw fns k (mi::sco up)) c)++(.mp (mpE mi):: .row 2 [[.mp (2+scL up+gap.length),upV up]]::rest):=by
    intro c e rest he
    have:=KG G (JY G b0 hf hk (⟨gap,mi⟩::up) hb (hs' mi) c e he) hb (hs' mi) rfl rest (by refine⟨by simp only[below];omega,by simp,dS _ (Nat.le_refl _),trivial⟩)
    simp only[Fr] at this
    exact this
   have hfail:∀(c e:Int) (t:List AO),AC Tryz.prog G ay [.ptr 1 3 0 0,.p (.int .i64 e)] (AX b0 fns k up gap c++t) fun x h=>x= .ret (.tup [])∧h=AX b0 fns k up gap (fl c e)++t:=fun c e t=>xC G b0 fns k c e _
   have hfind:∀(c:Int) (m:Scp) (s:List UInt8) (rest:List AO),AC Tryz.prog G aP [.ptr (2+scL up+gap.length+1) 2 0 0,.p (.str s)] (AX b0 fns k up gap c++(.mp (mpE m):: .row 2 [[.mp (2+scL up+gap.length),upV up]]::rest)) fun x h=>x= .ret (.tup [.p (.int .i64 (((eS (m::sco up) s).getD 0:Nat):Int)),.p (.bool (eS (m::sco up) s).isSome)])∧h=AX b0 fns k up gap c++(.mp (mpE m):: .row 2 [[.mp (2+scL up+gap.length),upV up]]::rest):=by
    intro c m s rest
    have:=zV G b0 (cO fns k c) (⟨gap,m⟩::up) rest s
    have e:b0::cO fns k c::(scH (⟨gap,m⟩::up)++rest)=CH b0 fns k c (⟨gap,m⟩::up)++rest:=rfl
    rw[e,Fr] at this
    exact this
   have hblk:∀(c:Int) (m2:Scp) (l':List Sm) (gap2:List AO),am l'<N→am l'≤1073741824→(∀o∈gap2,okO (2+scL up+gap.length+2+gap2.length) o)→
    AC Tryz.prog G aV [.ptr 1 3 0 0,.p (smL l'),.ptr (2+scL up+gap.length+2+gap2.length+1) 2 0 0] (AX b0 fns k up gap c++(.mp (mpE m2):: .row 2 [[.mp (2+scL up+gap.length),upV up]]::(gap2++[.mp [],.row 2 [[.mp (2+scL up+gap.length+2+gap2.length),.ptr (2+scL up+gap.length+1) 2 0 0]]])))
     fun x h=>x= .ret (.tup [])∧∃m',h=AX b0 fns k up gap (ij fns k l' [] (m2::sco up) c).2++(.mp (mpE m2):: .row 2 [[.mp (2+scL up+gap.length),upV up]]::(gap2++[.mp (mpE m'),.row 2 [[.mp (2+scL up+gap.length+2+gap2.length),.ptr (2+scL up+gap.length+1) 2 0 0]]])):=by
    intro c m2 l' gap2 h1 h2 h3
    have e1:2+scL (⟨gap,m2⟩::up)+gap2.length=2+scL up+gap.length+2+gap2.length:=by rw[hscl];omega
    have e2:∀c m',CH b0 fns k c (⟨gap2,m'⟩::⟨gap,m2⟩::up)=AX b0 fns k up gap c++(.mp (mpE m2):: .row 2 [[.mp (2+scL up+gap.length),upV up]]::(gap2++[.mp (mpE m'),.row 2 [[.mp (2+scL up+gap.length+2+gap2.length),.ptr (2+scL up+gap.length+1) 2 0 0]]])):=by
     intro c m'
     rw[←e1]
     simp[CH,AX,scH,upV]
    have:=ih l' h1 h2 gap2 [] (⟨gap,m2⟩::up) c ⟨by rw[e1];exact h3,hs' m2⟩
    rw[show upV (⟨gap2,[]⟩::⟨gap,m2⟩::up)= .ptr (2+scL up+gap.length+2+gap2.length+1) 2 0 0 by rw[←e1];rfl] at this
    rw[e2] at this
    refine this.mono ?_
    rintro x h ⟨hx,hh⟩
    exact⟨hx,(ij fns k l' [] (sco (⟨gap,m2⟩::up)) c).1,by rw[hh,e2];rfl⟩
   rw[EU b0 fns k up gap mi ci,List.append_assoc]
   simp only[List.cons_append,List.nil_append]
   have hokA:=Mz (fns:=fns) (k:=k) hb hs.2 hs.1
   generalize hL:2+scL up+gap.length=L at hexpr hfind hblk hlenA hlenC hokC hokA⊢
   have hR:okO (L+2) (.row 2 [[.mp L,upV up]]):=by
    intro e he;rw[List.mem_singleton.1 he]
    exact⟨by simp only[below];omega,dS up (by omega),trivial⟩
   have hX:okO 0 (.row 5 [[AV.p (.int .i64 o),.p (.str nme),.p (.lst 4 (a.map Ex.cs)),.p (smL bd),.p (smL el)]]):=by simp[okO]
   have ok3:∀(m:Scp),∀x∈[AO.mp (mpE m),.row 2 [[.mp L,upV up]],.row 5 [[AV.p (.int .i64 o),.p (.str nme),.p (.lst 4 (a.map Ex.cs)),.p (smL bd),.p (smL el)]]],okO (L+3) x:=fun m=>
    ae (tX _ _) (ae (lJ (by omega) hR) (ae (bU hX) dv))
   refine aN (fun j:Nat=>al 89 [(0,.ptr 1 3 0 0),(2,.ptr (L+1) 2 0 0),(7,.ptr (L+2) 5 0 0),(14,.p (smL l)),(15,.p (.int .i64 l.length)),(16,.p (.int .i64 i)),(21,.p (exL a)),(22,.p (.int .i64 a.length)),(23,.p (.int .i64 j))])
    (fun j=>AX b0 fns k up gap ((ca (a.take j)).foldl (gw fns k (mi::sco up)) ci)++[.mp (mpE mi),.row 2 [[.mp L,upV up]],.row 5 [[AV.p (.int .i64 o),.p (.str nme),.p (.lst 4 (a.map Ex.cs)),.p (smL bd),.p (smL el)]]])
    (fun j=>j≤a.length) (fun j=>a.length-j) 0 (by simp) ?_ ?_
   ·refine ov (s:=[]) (hlenA _) (by simp) (hokA _) (ok3 _) ?_
    simp[below,hsl,hxl]
   intro j hj
   simp-implicitDefEqProofs[hxl]
   refine bc (fun hc=>?_) (fun hc=>?_)
   ·simp at hc
    have hga:=List.getElem?_eq_getElem hc
    have hka:=bj (List.getElem_mem hc)
    have hkc:=a[j].cs_eq
    have hE:=hexpr ((ca (a.take j)).foldl (gw fns k (mi::sco up)) ci) a[j] [.row 5 [[AV.p (.int .i64 o),.p (.str nme),.p (.lst 4 (a.map Ex.cs)),.p (smL bd),.p (smL el)]],.row 4 [[.p (.int .i64 a[j].op),.p (.int .i64 a[j].n),.p (.str a[j].name),.p (exL a[j].kids)]]] (by omega)
    rw[hkc] at hE
    simp-implicitDefEqProofs[hga,hkc,hlenA]
    refine hE.mono ?_
    rintro r h ⟨rfl,rfl⟩
    simp-implicitDefEqProofs[aa]
    refine⟨j+1,hc,by omega,?_⟩
    have hf2:(ca (a.take (j+1))).foldl (gw fns k (mi::sco up)) ci=a[j].pre.foldl (gw fns k (mi::sco up)) ((ca (a.take j)).foldl (gw fns k (mi::sco up)) ci):=by
     rw[an hc,lP,List.foldl_append,ca,ca,List.append_nil]
    rw[hf2]
    refine ov (r:=[_,_,_]) (s:=[_]) (hlenA _) (by simp) (hokA _) (ok3 _) ?_
    simp[below,hsl,hxl,w1 (i:=j) (by omega)]
   simp at hc
   have hje:j=a.length:=by omega
   subst hje
   rw[List.take_length]
   have hic:icS fns k ⟨o,nme,a,bd,el⟩ mi (sco up) ci=(opS o nme mi 0,if o=5∨o=6 then(ij fns k el [] (opS o nme mi 0::sco up) (ij fns k bd [] (opS o nme mi 0::sco up) (opC o nme mi (sco up) (AR fns k (mi::sco up) a ci))).2).2 else opC o nme mi (sco up) (AR fns k (mi::sco up) a ci)):=rfl
   rw[hic] at eT
   clear hic
   rw[show(ca a).foldl (gw fns k (mi::sco up)) ci=AR fns k (mi::sco up) a ci from rfl]
   generalize AR fns k (mi::sco up) a ci=c1 at eT⊢
   simp-implicitDefEqProofs[]
   refine lg (al 89 [(0,.ptr 1 3 0 0),(2,.ptr (L+1) 2 0 0),(7,.ptr (L+2) 5 0 0),(14,.p (smL l)),(15,.p (.int .i64 l.length)),(16,.p (.int .i64 i))])
    (AX b0 fns k up gap (opC o nme mi (sco up) c1)++[.mp (mpE (opS o nme mi 0)),.row 2 [[.mp L,upV up]],.row 5 [[AV.p (.int .i64 o),.p (.str nme),.p (.lst 4 (a.map Ex.cs)),.p (smL bd),.p (smL el)]]]) ?_ ?_
   ·have fin:∀(r1:List (Nat × AV)) (c2:Int) (m2:Scp),Aw.look r1 0= .ptr 1 3 0 0→Aw.look r1 2= .ptr (L+1) 2 0 0→Aw.look r1 7= .ptr (L+2) 5 0 0→Aw.look r1 14= .p (smL l)→Aw.look r1 15= .p (.int .i64 l.length)→Aw.look r1 16= .p (.int .i64 i)→
     Wk (L+2) (al 89 r1) (AX b0 fns k up gap c2++[.mp (mpE m2),.row 2 [[.mp L,upV up]],.row 5 [[AV.p (.int .i64 o),.p (.str nme),.p (.lst 4 (a.map Ex.cs)),.p (smL bd),.p (smL el)]]])
      (al 89 [(0,.ptr 1 3 0 0),(2,.ptr (L+1) 2 0 0),(7,.ptr (L+2) 5 0 0),(14,.p (smL l)),(15,.p (.int .i64 l.length)),(16,.p (.int .i64 i))])
      (AX b0 fns k up gap c2++[.mp (mpE m2),.row 2 [[.mp L,upV up]],.row 5 [[AV.p (.int .i64 o),.p (.str nme),.p (.lst 4 (a.map Ex.cs)),.p (smL bd),.p (smL el)]]]):=by
     intro r1 c2 m2 e0 e2 e7 e14 e15 e16
     refine ov (s:=[]) (hlenA _) (by simp) (hokA _) (ok3 _) ?_
     simp[below,e0,e2,e7,e14,e15,e16]
    by_cases o1:o=1
    ·have hmg:=qw nme mi
     have hms:jr (.str nme) (.p (.int .i64 0)) (mpE mi)=some (mpE (fm mi nme 0)):=by simpa using rg nme 0 mi
     have e2:opS o nme mi 0=fm mi nme 0:=if_pos o1
     rw[e2]
     cases hh:iK mi nme with
     |none=>
      have e1:opC o nme mi (sco up) c1=c1:=by rw[opC,if_pos o1,hh];rfl
      rw[hh] at hmg
      rw[e1]
      subst o1
      simp-implicitDefEqProofs[hlenA,hmg,hms]
      exact fin _ _ _ (by simp) (by simp) (by simp) (by simp[hsl]) (by simp) (by simp)
     |some n=>
      have e1:opC o nme mi (sco up) c1=fl c1 2:=by rw[opC,if_pos o1,hh];rfl
      rw[hh] at hmg
      rw[e1]
      subst o1
      simp-implicitDefEqProofs[hlenA,hmg,hms]
      refine(hfail c1 2 _).mono ?_
      rintro r h ⟨rfl,rfl⟩
      simp-implicitDefEqProofs[aa,hlenA,hms]
      exact fin _ _ _ (by simp) (by simp) (by simp) (by simp[hsl]) (by simp) (by simp)
    have e2:opS o nme mi 0=mi:=if_neg o1
    rw[e2]
    by_cases o2:o=2
    ·cases hh:eS (mi::sco up) nme with
     |none=>
      have e1:opC o nme mi (sco up) c1=fl c1 3:=by rw[opC,if_neg o1,if_pos o2,hh];rfl
      rw[e1]
      subst o2
      have hF:=hfind c1 mi nme [.row 5 [[AV.p (.int .i64 2),.p (.str nme),.p (.lst 4 (a.map Ex.cs)),.p (smL bd),.p (smL el)]]]
      rw[hh] at hF
      simp-implicitDefEqProofs[hlenA]
      refine hF.mono ?_
      rintro r h ⟨rfl,rfl⟩
      simp-implicitDefEqProofs[aa]
      refine(hfail c1 3 _).mono ?_
      rintro r h ⟨rfl,rfl⟩
      simp-implicitDefEqProofs[aa]
      exact fin _ _ _ (by simp) (by simp) (by simp) (by simp[hsl]) (by simp) (by simp)
     |some n=>
      have e1:opC o nme mi (sco up) c1=c1:=by rw[opC,if_neg o1,if_pos o2,hh];rfl
      rw[e1]
      subst o2
      have hF:=hfind c1 mi nme [.row 5 [[AV.p (.int .i64 2),.p (.str nme),.p (.lst 4 (a.map Ex.cs)),.p (smL bd),.p (smL el)]]]
      rw[hh] at hF
      simp-implicitDefEqProofs[hlenA]
      refine hF.mono ?_
      rintro r h ⟨rfl,rfl⟩
      simp-implicitDefEqProofs[aa]
      exact fin _ _ _ (by simp) (by simp) (by simp) (by simp[hsl]) (by simp) (by simp)
    ·have e1:opC o nme mi (sco up) c1=c1:=by rw[opC,if_neg o1,if_neg o2]
     rw[e1]
     simp-implicitDefEqProofs[hlenA,o1,o2]
     exact fin _ _ _ (by simp) (by simp) (by simp) (by simp[hsl]) (by simp) (by simp)
   generalize opC o nme mi (sco up) c1=c2 at eT⊢
   generalize opS o nme mi 0=m2 at eT⊢
   have hdrop:∀(r1:List (Nat × AV)) (c3:Int) (s:List AO),Aw.look r1 0= .ptr 1 3 0 0→Aw.look r1 2= .ptr (L+1) 2 0 0→Aw.look r1 14= .p (smL l)→Aw.look r1 15= .p (.int .i64 l.length)→Aw.look r1 16= .p (.int .i64 ((i:Int)+1))→
    Wk (L+2) (al 89 r1) (AX b0 fns k up gap c3++([.mp (mpE m2),.row 2 [[.mp L,upV up]]]++s)) (al 89 [(0,.ptr 1 3 0 0),(2,.ptr (L+1) 2 0 0),(14,.p (smL l)),(15,.p (.int .i64 l.length)),(16,.p (.int .i64 ((i:Int)+1)))]) (CH b0 fns k c3 (⟨gap,m2⟩::up)):=by
    intro r1 c3 s e0 e2 e14 e15 e16
    rw[EU,hL]
    refine ov (hlenA _) (by simp) (hokA _) (ae (tX _ _) (ae hR dv)) ?_
    simp[below,e0,e2,e14,e15,e16]
   by_cases ho:o=5∨o=6
   ·rw[if_pos ho] at eT
    rcases ho with o5|o6
    ·subst o5
     simp-implicitDefEqProofs[hlenA]
     refine(nD G (.ptr (L+1) 2 0 0) (.inr ⟨_,rfl⟩) _).mono ?_
     rintro r h ⟨rfl,rfl⟩
     simp-implicitDefEqProofs[aa,hlenA]
     refine(hblk c2 m2 bd [_] (by omega) (by omega) (fun x hx=>by rw[List.mem_singleton.1 hx];exact bU (by simp[okO]))).mono ?_
     rintro r h ⟨rfl,m3,rfl⟩
     simp-implicitDefEqProofs[aa,hlenA]
     refine(nD G (.ptr (L+1) 2 0 0) (.inr ⟨_,rfl⟩) _).mono ?_
     rintro r h ⟨rfl,rfl⟩
     simp-implicitDefEqProofs[aa,hlenA]
     refine(hblk _ m2 el [_,_,_] (by omega) (by omega) (ae (bU (by simp[okO])) (ae (tX _ _) (ae (by
      intro e he;rw[List.mem_singleton.1 he]
      exact⟨by simp only[below];simp,by simp only[below];simp,trivial⟩) dv)))).mono ?_
     rintro r h ⟨rfl,m4,rfl⟩
     simp-implicitDefEqProofs[aa,hlenA]
     refine⟨i+1,by omega,by omega,?_⟩
     rw[eT]
     refine hdrop _ _ _ (by simp) (by simp) (by simp[hsl]) (by simp) (by simp[w1 (i:=i) (by omega)])
    ·subst o6
     simp-implicitDefEqProofs[hlenA]
     refine(nD G (.ptr (L+1) 2 0 0) (.inr ⟨_,rfl⟩) _).mono ?_
     rintro r h ⟨rfl,rfl⟩
     simp-implicitDefEqProofs[aa,hlenA]
     refine(hblk c2 m2 bd [_] (by omega) (by omega) (fun x hx=>by rw[List.mem_singleton.1 hx];exact bU (by simp[okO]))).mono ?_
     rintro r h ⟨rfl,m3,rfl⟩
     simp-implicitDefEqProofs[aa,hlenA]
     refine(nD G (.ptr (L+1) 2 0 0) (.inr ⟨_,rfl⟩) _).mono ?_
     rintro r h ⟨rfl,rfl⟩
     simp-implicitDefEqProofs[aa,hlenA]
     refine(hblk _ m2 el [_,_,_] (by omega) (by omega) (ae (bU (by simp[okO])) (ae (tX _ _) (ae (by
      intro e he;rw[List.mem_singleton.1 he]
      exact⟨by simp only[below];simp,by simp only[below];simp,trivial⟩) dv)))).mono ?_
     rintro r h ⟨rfl,m4,rfl⟩
     simp-implicitDefEqProofs[aa,hlenA]
     refine⟨i+1,by omega,by omega,?_⟩
     rw[eT]
     refine hdrop _ _ _ (by simp) (by simp) (by simp[hsl]) (by simp) (by simp[w1 (i:=i) (by omega)])
   ·rw[if_neg ho] at eT
    have o5:¬o=5:=fun h=>ho (.inl h)
    have o6:¬o=6:=fun h=>ho (.inr h)
    simp-implicitDefEqProofs[hlenA,o5,o6]
    refine⟨i+1,by omega,by omega,?_⟩
    rw[eT]
    refine hdrop _ _ [_] (by simp) (by simp) (by simp[hsl]) (by simp) (by simp[w1 (i:=i) (by omega)])
  ·simp at h
   have hie:i=l.length:=by omega
   subst hie
   rw[List.take_length] at hst
   rw[hst]
   simp-implicitDefEqProofs[]
end Go.Proofs.YtnjbhgpbgmpkcaaGreatDoor
namespace Go.Proofs.YtnjbhgpbgmpkcaaGreatDoor
open Go Go.Aw
set_option maxRecDepth 100000
set_option maxHeartbeats 4000000
def K_impl_CheckProgram:AK:= .seq (.reg [oJ 1 (.box 1 (.t 0)),oK 2 0]) (.seq (.seq (.reg [oJ 11 (.ld (some 1) (.t 1)),oJ 12 (.call cK [(.t 11)]),oJ 13 (.not (.t 12))]) (.cond (.t 13) (.seq (.reg [oK 2 1]) (.ret)) (.skip))) (.seq (.reg [oJ 14 (.ld (some 1) (.t 1)),oJ 15 (.bld [.nils,(.p (.int .i64 0)),(.p (.int .i64 0))] [(0,1,(.t 14))]),oJ 16 (.box 3 (.t 15)),oM 3 16]) (.seq (.seq (.reg [oF 17 0 1,oL 18 17,oJ 19 (.len false (.t 18)),oK 20 0]) (.blk 0 (.loop (.seq (.reg [oJ 21 (.bin .lss (.t 20) (.t 19))]) (.seq (.cond (.t 21) (.skip) (.exit 0)) (.seq (.blk 1 (.seq (.reg [oM 22 20,oJ 23 (.idxS 3 (.t 18) (.t 20)),oJ 24 (.ld (some 3) (.t 23)),oJ 5 (.alloc [(.p (.str [])),.nils,.nils]),oM 4 22,⟨none,none,.st 3 (.t 5) (.t 24)⟩]) (.seq (.reg [oM 25 3,oM 26 4,oN 27 25,oF 28 1 27,oS 28 26]) (.cut (.seq (.reg [oJ 29 (.ld (some 1) (.t 1)),oF 30 0 5,oL 31 30,oJ 32 (.call gA [(.t 29),(.t 31)]),oM 33 4,oJ 34 (.bin .lss (.t 32) (.t 33))]) (.cond (.t 34) (.reg [oM 35 3,oJ 36 (.call ay [(.t 35),(.c (.p (.int .i64 2)))])]) (.skip))) (.seq (.reg [oJ 37 (.call aK [(.c .nilp)]),oM 6 37]) (.seq (.seq (.reg [oF 38 1 5,oL 39 38,oJ 40 (.len false (.t 39)),oK 41 0]) (.blk 2 (.loop (.seq (.reg [oJ 42 (.bin .lss (.t 41) (.t 40))]) (.seq (.cond (.t 42) (.skip) (.exit 2)) (.seq (.blk 3 (.seq (.reg [oJ 43 (.idxS 1 (.t 39) (.t 41)),oL 44 43,oM 8 44]) (.seq (.seq (.reg [oM 46 6,oN 47 46,oF 48 0 47,oL 49 48,oM 50 8,oJ 51 (.lk 1 (.p (.int .i64 0)) true (.t 49) (.t 50)),oM 45 51,oJ 52 (.ext 0 (.t 45)),oJ 53 (.ext 1 (.t 45)),oM 9 52,oM 10 53]) (.seq (.reg [oM 54 10]) (.cond (.t 54) (.reg [oM 55 3,oJ 56 (.call ay [(.t 55),(.c (.p (.int .i64 2)))])]) (.skip)))) (.reg [oM 57 6,oN 58 57,oF 59 0 58,oL 60 59,oM 61 8,⟨none,none,.mup 1 (.t 60) (.t 61) (.c (.p (.int .i64 0)))⟩])))) (.reg [oJ 62 (.bin .add (.t 41) (.c (.p (.int .i64 1)))),oM 41 62]))))))) (.reg [oM 63 3,oF 64 2 5,oL 65 64,oM 66 6,oJ 67 (.call aV [(.t 63),(.t 65),(.t 66)])]))))))) (.reg [oJ 68 (.bin .add (.t 20) (.c (.p (.int .i64 1)))),oM 20 68]))))))) (.seq (.reg [oM 69 3,oN 70 69,oF 71 2 70,oL 72 71,oM 2 72]) (.ret)))))
theorem oY:K_impl_CheckProgram.whole=F_impl_CheckProgram.ak:=rfl
theorem wH(fns:List Fd):∀(a b:List Fd) (k:Nat) (c:Int),kb fns k (a++b) c=kb fns (k+a.length) b (kb fns k a c)
 |[],b,k,c=>rfl
 |f::r,b,k,c=>by rw[List.cons_append,kb,kb,wH fns r];congr 1;simp only[List.length_cons];omega
theorem Av{fns l:List Fd}{i:Nat}{c:Int}(h:i<l.length):kb fns 0 (l.take (i+1)) c=icF fns i l[i] (kb fns 0 (l.take i) c):=by
 rw[an h,wH,List.length_take,Nat.min_eq_left (Nat.le_of_lt h),Nat.zero_add];rfl
theorem GK(a b:List (List UInt8))(m:Scp)(c:Int):kZ (a++b) m c=kZ b (kZ a m c).1 (kZ a m c).2:=by simp[kZ]
theorem DI{l:List (List UInt8)}{i:Nat}{m:Scp}{c:Int}(h:i<l.length):kZ (l.take (i+1)) m c=(fm (kZ (l.take i) m c).1 l[i] 0,if(iK (kZ (l.take i) m c).1 l[i]).isSome then fl (kZ (l.take i) m c).2 2 else(kZ (l.take i) m c).2):=by
 rw[an h,GK];rfl
variable (G:aC) (hK:G fC=some ff) (hS:G db=some [.tbl opK opV])
include hK hS
theorem mX(l:List Fd)(hl:aO l≤1073741824):VF Tryz.prog G dI [.agg [.p (fdL l)]] (.p (.int .i64 (bD l))):=by
 have hll:=bX l
 have hfl:∀l,fdL l= .lst 3 (l.map Fd.cs):=fun _=>rfl
 rw[Au]
 refine AC.goK pf oY ?_
 simp-implicitDefEqProofs[K_impl_CheckProgram,F_impl_CheckProgram]
 refine(nY G hK hS l hl).use ?_
 by_cases hv:bu l=true
 case neg=>
  have hv':bu l=false:=by simpa using hv
  simp-implicitDefEqProofs[hv']
 rw[if_pos hv]
 simp-implicitDefEqProofs[hv,hfl]
 refine aN (fun i:Nat=>al 73 [(1,.ptr 0 1 0 0),(3,.ptr 1 3 0 0),(18,.p (fdL l)),(19,.p (.int .i64 l.length)),(20,.p (.int .i64 i))])
  (fun i=>[.row 1 [[.p (fdL l)]],cO l (i-1) (kb l 0 (l.take i) 0)]) (fun i=>i≤l.length) (fun i=>l.length-i) 0 (by simp) ?_ ?_
 ·refine ab (h:=[.row 1 [[.p (fdL l)]],cO l 0 0]) (by simp) (by simp[okO,below,cO]) (by simp[below,hfl])
 intro i hi
 have hbo:okO 0 (.row 1 [[.p (fdL l)]]):=by simp[okO]
 simp-implicitDefEqProofs[hfl]
 refine bc (fun h=>?_) (fun h=>?_)
 ·simp at h
  have hg:=List.getElem?_eq_getElem h
  have hks:=cg (List.getElem_mem h)
  have eT:=Av (fns:=l) (c:=0) h
  obtain⟨j,ej,ejl⟩:=wW hg
  generalize l[i]=f at*
  have hcs:f.cs=[.str f.name,au f.params,smL f.body]:=rfl
  have hfz:f.sz=1+f.name.length+(f.params.length+(f.params.map List.length).sum)+am f.body:=rfl
  have hst:au f.params= .lst 1 (f.params.map fun w=>[.str w]):=rfl
  generalize kb l 0 (l.take i) 0=c0 at eT⊢
  simp-implicitDefEqProofs[hg,hcs,cO]
  have hic:icF l i f c0=(ij l i f.body (kZ f.params [] (if j<i then fl c0 2 else c0)).1 [] (kZ f.params [] (if j<i then fl c0 2 else c0)).2).2:=by
   rw[icF,ej];simp
  rw[hic] at eT
  clear hic
  refine lg (al 73 [(1,.ptr 0 1 0 0),(3,.ptr 1 3 0 0),(4,.p (.int .i64 i)),(5,.ptr 2 3 0 0),(18,.p (fdL l)),(19,.p (.int .i64 l.length)),(20,.p (.int .i64 i))])
   [.row 1 [[.p (fdL l)]],cO l i (if j<i then fl c0 2 else c0),.row 3 [[.p (.str f.name),.p (au f.params),.p (smL f.body)]]] ?_ ?_
  ·simp-implicitDefEqProofs[]
   refine(AD G l f.name (by omega)).use ?_
   rw[ej]
   by_cases hj:j<i
   ·have hj':(j:Int)<(i:Int):=by omega
    rw[if_pos hj]
    simp-implicitDefEqProofs[ixI,hj']
    refine(xC G (.row 1 [[.p (fdL l)]]) l i c0 2 [.row 3 [[.p (.str f.name),.p (au f.params),.p (smL f.body)]]]).mono ?_
    rintro r h ⟨rfl,rfl⟩
    simp-implicitDefEqProofs[aa]
    exact ab (by simp) (by simp[okO,below,cO]) (by simp[below,hfl])
   ·have hj':¬(j:Int)<(i:Int):=by omega
    rw[if_neg hj]
    simp-implicitDefEqProofs[ixI,hj']
    exact ab (h:=[.row 1 [[.p (fdL l)]],cO l i c0,.row 3 [[.p (.str f.name),.p (au f.params),.p (smL f.body)]]]) (by simp) (by simp[okO,below,cO]) (by simp[below,hfl])
  generalize (if j<i then fl c0 2 else c0)=c1 at eT⊢
  have hCH:∀(c:Int) (m:Scp),CH (.row 1 [[.p (fdL l)]]) l i c [⟨[.row 3 [[.p (.str f.name),.p (au f.params),.p (smL f.body)]]],m⟩]=[.row 1 [[.p (fdL l)]],cO l i c,.row 3 [[.p (.str f.name),.p (au f.params),.p (smL f.body)]],.mp (mpE m),.row 2 [[.mp 3,.nilp]]]:=fun _ _=>rfl
  simp-implicitDefEqProofs[]
  refine(nD G .nilp (.inl rfl) _).mono ?_
  rintro r h ⟨rfl,rfl⟩
  simp-implicitDefEqProofs[aa,hst]
  refine aN (fun q:Nat=>al 73 [(1,.ptr 0 1 0 0),(3,.ptr 1 3 0 0),(4,.p (.int .i64 i)),(5,.ptr 2 3 0 0),(6,.ptr 4 2 0 0),(18,.p (fdL l)),(19,.p (.int .i64 l.length)),(20,.p (.int .i64 i)),(39,.p (au f.params)),(40,.p (.int .i64 f.params.length)),(41,.p (.int .i64 q))])
   (fun q=>[.row 1 [[.p (fdL l)]],cO l i (kZ (f.params.take q) [] c1).2,.row 3 [[.p (.str f.name),.p (au f.params),.p (smL f.body)]],.mp (mpE (kZ (f.params.take q) [] c1).1),.row 2 [[.mp 3,.nilp]]])
   (fun q=>q≤f.params.length) (fun q=>f.params.length-q) 0 (by simp) ?_ ?_
  ·exact ab (h:=[.row 1 [[.p (fdL l)]],cO l i c1,.row 3 [[.p (.str f.name),.p (au f.params),.p (smL f.body)]],.mp [],.row 2 [[.mp 3,.nilp]]]) (by simp) (by simp[okO,below,cO]) (by simp[below,hfl,hst])
  intro q hq
  have eP:=fun h=>DI (l:=f.params) (i:=q) (m:=[]) (c:=c1) h
  generalize hP:kZ (f.params.take q) [] c1=st at eP⊢
  obtain⟨mq,cq⟩:=st
  simp only at eP⊢
  simp-implicitDefEqProofs[hst]
  refine bc (fun hc=>?_) (fun hc=>?_)
  ·simp at hc
   have hga:=List.getElem?_eq_getElem hc
   have eP:=eP hc
   generalize f.params[q]=nme at hga eP
   have hmg:=qw nme mq
   have hms:jr (.str nme) (.p (.int .i64 0)) (mpE mq)=some (mpE (fm mq nme 0)):=by simpa using rg nme 0 mq
   have fin:∀(r1:List (Nat × AV)) (c2:Int),Aw.look r1 1= .ptr 0 1 0 0→Aw.look r1 3= .ptr 1 3 0 0→Aw.look r1 4= .p (.int .i64 i)→Aw.look r1 5= .ptr 2 3 0 0→Aw.look r1 6= .ptr 4 2 0 0→Aw.look r1 18= .p (fdL l)→Aw.look r1 19= .p (.int .i64 l.length)→Aw.look r1 20= .p (.int .i64 i)→Aw.look r1 39= .p (au f.params)→Aw.look r1 40= .p (.int .i64 f.params.length)→Aw.look r1 41= .p (.int .i64 ((q:Int)+1))→
    Wk 0 (al 73 r1) [.row 1 [[.p (fdL l)]],cO l i c2,.row 3 [[.p (.str f.name),.p (au f.params),.p (smL f.body)]],.mp (mpE (fm mq nme 0)),.row 2 [[.mp 3,.nilp]]]
     (al 73 [(1,.ptr 0 1 0 0),(3,.ptr 1 3 0 0),(4,.p (.int .i64 i)),(5,.ptr 2 3 0 0),(6,.ptr 4 2 0 0),(18,.p (fdL l)),(19,.p (.int .i64 l.length)),(20,.p (.int .i64 i)),(39,.p (au f.params)),(40,.p (.int .i64 f.params.length)),(41,.p (.int .i64 ((q:Int)+1)))])
     [.row 1 [[.p (fdL l)]],cO l i c2,.row 3 [[.p (.str f.name),.p (au f.params),.p (smL f.body)]],.mp (mpE (fm mq nme 0)),.row 2 [[.mp 3,.nilp]]]:=by
    intro r1 c2 e1 e3 e4 e5 e6 e18 e19 e20 e39 e40 e41
    refine ab (by simp) (ae (by simp[okO]) (ae (by simp[okO,cO]) (ae (by simp[okO]) (ae (tX _ _) (ae (by simp[okO,below]) dv))))) ?_
    simp[below,e1,e3,e4,e5,e6,e18,e19,e20,e39,e40,e41]
   cases hh:iK mq nme with
   |none=>
    rw[hh] at hmg eP
    simp-implicitDefEqProofs[hga,hmg,hms]
    refine⟨q+1,by omega,by omega,?_⟩
    rw[eP]
    exact fin _ _ (by simp) (by simp) (by simp) (by simp) (by simp) (by simp[hfl]) (by simp) (by simp) (by simp[hst]) (by simp) (by simp[w1 (i:=q) (by omega)])
   |some n=>
    rw[hh] at hmg eP
    simp-implicitDefEqProofs[hga,hmg,hms]
    refine(xC G (.row 1 [[.p (fdL l)]]) l i cq 2 _).mono ?_
    rintro r h ⟨rfl,rfl⟩
    simp-implicitDefEqProofs[aa,hms]
    refine⟨q+1,by omega,by omega,?_⟩
    rw[eP]
    exact fin _ _ (by simp) (by simp) (by simp) (by simp) (by simp) (by simp[hfl]) (by simp) (by simp) (by simp[hst]) (by simp) (by simp[w1 (i:=q) (by omega)])
  ·simp at hc
   have hqe:q=f.params.length:=by omega
   subst hqe
   rw[List.take_length] at hP
   rw[hP] at eT
   simp only at eT
   have hB:=Ia G (.row 1 [[.p (fdL l)]]) (fns:=l) (k:=i) (by omega) (by omega) hbo (am f.body+1) f.body (by omega) (by omega) [.row 3 [[.p (.str f.name),.p (au f.params),.p (smL f.body)]]] mq [] cq ⟨by simp[okO],trivial⟩
   rw[hCH] at hB
   simp-implicitDefEqProofs[]
   refine hB.mono ?_
   rintro r h ⟨rfl,rfl⟩
   simp-implicitDefEqProofs[aa]
   refine⟨i+1,by omega,by omega,?_⟩
   rw[eT]
   refine gH (m:=2) (by omega) (dQ rfl rfl (by simp[okO,below,cO])) (by simp[below,hfl,w1 (i:=i) (by omega)])
 ·simp at h
  have hie:i=l.length:=by omega
  subst hie
  rw[List.take_length]
  simp-implicitDefEqProofs[cO]
end Go.Proofs.YtnjbhgpbgmpkcaaGreatDoor
namespace Go.Proofs.YtnjbhgpbgmpkcaaGreatDoor
open Go Go.Aw
set_option maxRecDepth 100000
set_option maxHeartbeats 4000000
theorem Fd.cs_eq'(f:Fd):f.cs=[.str f.name,au f.params,smL f.body]:=rfl
variable (G:aC)
end Go.Proofs.YtnjbhgpbgmpkcaaGreatDoor
namespace Go.Proofs.YtnjbhgpbgmpkcaaGreatDoor
open Go Go.Aw
set_option maxRecDepth 100000
set_option maxHeartbeats 4000000
def Byt(l:List Int):Prop:=∀n∈l,0≤n∧n≤255
def rdO(b:List Int)(p:Nat):AO:= .row 2 [[.p (sc b),.p (.int .i64 p)]]
theorem CM{a b:Int}(ha:0≤a)(ha2:a<4611686018427387904)(hb:0≤b)(hb2:b<4611686018427387904):∃n:Nat,IntKind.i64.wrap ((BitVec.ofInt IntKind.i64.bits a^^^BitVec.ofInt IntKind.i64.bits b).toNat:Int)=n:=by
 refine⟨(BitVec.ofInt IntKind.i64.bits a^^^BitVec.ofInt IntKind.i64.bits b).toNat,?_⟩
 obtain⟨x,rfl⟩:∃x:Nat,a=x:=⟨a.toNat,by omega⟩
 obtain⟨y,rfl⟩:∃y:Nat,b=y:=⟨b.toNat,by omega⟩
 have h1:(BitVec.ofInt 64 (x:Int)).toNat=x:=by simp;omega
 have h2:(BitVec.ofInt 64 (y:Int)).toNat=y:=by simp;omega
 have h3:(BitVec.ofInt 64 (x:Int)^^^BitVec.ofInt 64 (y:Int)).toNat<2^63:=by
  rw[BitVec.toNat_xor,h1,h2]
  exact Nat.xor_lt_two_pow (by omega) (by omega)
 have h4:(BitVec.ofInt IntKind.i64.bits (x:Int)^^^BitVec.ofInt IntKind.i64.bits (y:Int)).toNat<2^63:=h3
 exact ah (by omega) (by omega)
theorem Cm{a:Nat}{n:Int}(hn:1≤n):∃k:Nat,((a:Int).tmod n)=k∧(k:Int)<n:=by
 obtain⟨m,rfl⟩:∃m:Nat,n=m:=⟨n.toNat,by omega⟩
 refine⟨a%m,?_,?_⟩
 ·rfl
 ·have:a%m<m:=Nat.mod_lt _ (by omega)
  omega
variable (G:aC)
theorem JH(l:List Int):AC Tryz.prog G kq [.p (sc l)] [] fun x h=>x= .ret (.ptr 0 2 0 0)∧h=[rdO (l.take 2000) 0]:=by
 refine AC.go tE ?_
 have hbl:sc l= .lst 1 (l.map fun n=>[.int .u8 n]):=rfl
 simp-implicitDefEqProofs[nk,hbl]
 refine bc (fun h=>?_) (fun h=>?_)
 ·simp at h
  have:2000≤l.length:=by omega
  simp-implicitDefEqProofs[this,rdO,sc,List.map_take]
 ·simp at h
  have:l.take 2000=l:=List.take_of_length_le (by omega)
  simp-implicitDefEqProofs[rdO,this,sc]
theorem Kx(b:List Int)(hb:Byt b)(hl:b.length≤2000)(p:Nat)(hp:p≤1099511627776)(n:Int):AC Tryz.prog G af [.ptr 0 2 0 0,.p (.int .i64 n)] [rdO b p] fun x h=>∃k:Nat,x= .ret (.p (.int .i64 k))∧h=[rdO b (p+1)]∧((k:Int)<n∨k=0):=by
 refine AC.go qG ?_
 have hbl:sc b= .lst 1 (b.map fun n=>[.int .u8 n]):=rfl
 have hw:IntKind.i64.wrap ((p:Int)+1)=((p+1:Nat):Int):=w1 (by omega)
 by_cases hn:n<1
 ·simp-implicitDefEqProofs[eN,rdO,hbl,hw,hn]
  exact⟨0,rfl,.inr rfl⟩
 by_cases hbn:b=[]
 ·subst hbn
  have hb0:sc []= .lst 1 []:=rfl
  simp-implicitDefEqProofs[eN,rdO,hb0,hw,hn]
  exact⟨0,rfl,.inr rfl⟩
 have hpos:0<b.length:=List.length_pos_iff.2 hbn
 have hlb:¬b.length=0:=by omega
 have hn0:¬n=0:=by omega
 have hw2:IntKind.i64.wrap (p:Int)=(p:Int):=ah (by omega) (by omega)
 have at_:∀q:Nat,∃c:Int,b[q%b.length]?=some c∧0≤c∧c≤255:=fun q=>by
  have h:=Nat.mod_lt q hpos
  exact⟨_,List.getElem?_eq_getElem h,hb _ (List.getElem_mem h)⟩
 simp-implicitDefEqProofs[eN,rdO,hbl,hw,hn,hbn,hw2]
 refine bc (fun h1=>?_) (fun h1=>?_)
 ·simp at h1
  obtain⟨c,e1,e2,e3⟩:=at_ p
  rw[Nat.mod_eq_of_lt h1] at e1
  obtain⟨d,rfl⟩:∃d:Nat,c=d:=⟨c.toNat,by omega⟩
  obtain⟨k,q1,q2⟩:=Cm (a:=d) (n:=n) (by omega)
  have hw3:IntKind.i64.wrap (d:Int)=d:=ah (by omega) (by omega)
  simp-implicitDefEqProofs[e1,hw3,hn0,q1]
  exact⟨k,rfl,.inl q2⟩
 ·simp at h1
  obtain⟨c1,e1,e2,e3⟩:=at_ p
  obtain⟨c2,f1,f2,f3⟩:=at_ (p*7+3)
  have hq:p/b.length≤p:=Nat.div_le_self _ _
  have ht1:(p:Int).tmod (b.length:Int)=((p%b.length:Nat):Int):=rfl
  have ht2:((p:Int)*7+3).tmod (b.length:Int)=(((p*7+3)%b.length:Nat):Int):=rfl
  have ht3:(p:Int).tdiv (b.length:Int)=((p/b.length:Nat):Int):=rfl
  generalize p/b.length=q at hq ht3
  generalize p%b.length=r1 at e1 ht1
  generalize (p*7+3)%b.length=r2 at f1 ht2
  obtain⟨x1,rfl⟩:∃d:Nat,c1=d:=⟨c1.toNat,by omega⟩
  obtain⟨x2,rfl⟩:∃d:Nat,c2=d:=⟨c2.toNat,by omega⟩
  obtain⟨m,hx⟩:=CM (a:=x1*131+x2*1117+p*29+q*53) (b:=(x1*131+x2*1117+p*29+q*53)/64) (by omega) (by omega) (by omega) (by omega)
  obtain⟨k,q1,q2⟩:=Cm (a:=m) (n:=n) (by omega)
  have ht4:((x1:Int)*131+x2*1117+p*29+q*53).tdiv 64=((x1:Int)*131+x2*1117+p*29+q*53)/64:=Int.tdiv_eq_ediv_of_nonneg (by omega)
  have w1:IntKind.i64.wrap ((p:Int)*7)=(p:Int)*7:=ah (by omega) (by omega)
  have w2:IntKind.i64.wrap ((p:Int)*7+3)=(p:Int)*7+3:=ah (by omega) (by omega)
  have w3:IntKind.i64.wrap ((p:Int)*29)=(p:Int)*29:=ah (by omega) (by omega)
  have w4:IntKind.i64.wrap (x1:Int)=x1:=ah (by omega) (by omega)
  have w5:IntKind.i64.wrap (x2:Int)=x2:=ah (by omega) (by omega)
  have w6:IntKind.i64.wrap ((x1:Int)*131)=(x1:Int)*131:=ah (by omega) (by omega)
  have w7:IntKind.i64.wrap ((x2:Int)*1117)=(x2:Int)*1117:=ah (by omega) (by omega)
  have w8:IntKind.i64.wrap ((x1:Int)*131+x2*1117)=(x1:Int)*131+x2*1117:=ah (by omega) (by omega)
  have w9:IntKind.i64.wrap ((x1:Int)*131+x2*1117+p*29)=(x1:Int)*131+x2*1117+p*29:=ah (by omega) (by omega)
  have w10:IntKind.i64.wrap (q:Int)=q:=ah (by omega) (by omega)
  have w11:IntKind.i64.wrap ((q:Int)*53)=(q:Int)*53:=ah (by omega) (by omega)
  have w12:IntKind.i64.wrap ((x1:Int)*131+x2*1117+p*29+q*53)=(x1:Int)*131+x2*1117+p*29+q*53:=ah (by omega) (by omega)
  have w13:IntKind.i64.wrap (((x1:Int)*131+x2*1117+p*29+q*53)/64)=((x1:Int)*131+x2*1117+p*29+q*53)/64:=ah (by omega) (by omega)
  simp-implicitDefEqProofs[hlb,ht1,ht2,ht3,e1,f1,w1,w2,w3,w4,w5,w6,w7,w8,w9,w10,w11,w12,w13,ht4,hx,hn0,q1]
  simp-implicitDefEqProofs[] at hx
  rw[hx]
  exact⟨k,q1,.inl q2⟩
theorem bz(b:List Int)(p n:Nat):okO n (rdO b p):=by simp[okO,rdO]
theorem bl(b:List Int)(hb:Byt b)(hl:b.length≤2000)(p:Nat)(hp:p≤1099511627776)(n:Int)(rest:List AO):AC Tryz.prog G af [.ptr 0 2 0 0,.p (.int .i64 n)] (rdO b p::rest) fun x h=>∃k:Nat,x= .ret (.p (.int .i64 k))∧h=rdO b (p+1)::rest∧((k:Int)<n∨k=0):=by
 refine((Kx G b hb hl p hp n).pre rest (by simp[below]) (fun o ho=>by rw[List.mem_singleton.1 ho];exact bz _ _ _) ?_).mono ?_
 ·rintro x h ⟨k,_,rfl,_⟩;rfl
 ·rintro x h ⟨h1,⟨k,e1,rfl,e3⟩,rfl⟩
  exact⟨k,e1,rfl,e3⟩
theorem Jf{f:FuncId}{args:List AV}{b:List Int}{p:Nat}{o:AO}{R:AV→Nat→Prop}(H:AC Tryz.prog G f (.ptr 0 2 0 0::args) [rdO b p,o] fun x h=>∃v q,x= .ret (.p v)∧h=[rdO b q,o]∧R (.p v) q)(ho:okO 0 o)
 {h:List AO}{k:Nat}{args':List AV}(hk:k≠0)(h0:h[0]?=some (rdO b p))(h1:h[k]?=some o)(hT:TW [0,k] args' args):AC Tryz.prog G f (.ptr 0 2 0 0::args') h fun x h'=>∃v q,x= .ret (.p v)∧h'=h.set 0 (rdO b q)∧R (.p v) q:=by
 have nd:[0,k].Nodup:=by simp;omega
 refine(H.frame (args:= .ptr 0 2 0 0::args') [0,k] nd (by rw[tv];exact⟨.inr ⟨by simp[below],rfl⟩,hT⟩) (du h0 (bz _ _ _) (du h1 ho cQ))).mono ?_
 rintro x h' ⟨x0,h2,⟨v,q,rfl,rfl,r⟩,_,rfl,rfl⟩
 refine⟨v,q,by simp[uf,ren],?_,r⟩
 have e1:∀σ,fb σ (rdO b q)=rdO b q:=fun σ=>oa (n:=0) (fun i hi=>by omega) _ (bz _ _ _)
 have e2:∀σ,fb σ o=o:=fun σ=>oa (n:=0) (fun i hi=>by omega) _ ho
 simp only[List.take,List.length_cons,List.length_nil,List.map_cons,List.map_nil,e1,e2,mrg,List.drop,List.append_nil]
 refine List.ext_getElem? fun i=>?_
 rw[List.getElem?_set]
 split
 ·rename_i e;subst e
  rw[List.getElem?_set_ne (Ne.symm hk)]
  split
  ·exact h1.symm
  ·rename_i hl
   have:=(List.getElem?_eq_some_iff.1 h1).1
   simp at hl;omega
 ·rfl
theorem KF(b:List Int)(hb:Byt b)(hl:b.length≤2000)(p:Nat)(hp:p≤1099511627776)(l:List Int)(hne:l≠[])(hll:l.length≤1099511627776):AC Tryz.prog G aq [.ptr 0 2 0 0,.sl 1 1 0 l.length] [rdO b p,ug l] fun x h=>∃v q,x= .ret (.p v)∧h=[rdO b q,ug l]∧(∃n,v= .int .i64 n∧n∈l)∧q=p+1:=by
 refine AC.go lK ?_
 have hpos:0<l.length:=List.length_pos_iff.2 hne
 simp-implicitDefEqProofs[iA]
 refine(bl G b hb hl p hp l.length [ug l]).mono ?_
 rintro r h ⟨k,rfl,rfl,hk⟩
 have hkl:k<l.length:=by omega
 have hg:=List.getElem?_eq_getElem hkl
 have hn:ug l= .row 1 (l.map fun n=>[.p (.int .i64 n)]):=rfl
 simp-implicitDefEqProofs[aa,hkl,hn,hg]
theorem kw{b:List Int}(hb:Byt b)(hl:b.length≤2000){p:Nat}(hp:p≤1099511627776)(l:List Int){h:List AO}{k:Nat}(hne:l≠[])(hll:l.length≤1099511627776)(hk:k≠0)(h0:h[0]?=some (rdO b p))(h1:h[k]?=some (ug l)):
 AC Tryz.prog G aq [.ptr 0 2 0 0,.sl k 1 0 l.length] h fun x h'=>∃n,n∈l∧x= .ret (.p (.int .i64 n))∧h'=h.set 0 (rdO b (p+1)):=by
 refine(Jf G (args:=[.sl 1 1 0 l.length]) (R:=fun v q=>(∃n,v= .p (.int .i64 n)∧n∈l)∧q=p+1) ((KF G b hb hl p hp l hne hll).mono ?_) (by simp[okO,ug]) (args':=[.sl k 1 0 l.length]) hk h0 h1 (by simp[below,ren])).mono ?_
 ·rintro x h ⟨v,q,e1,e2,⟨n,rfl,e3⟩,e4⟩
  exact⟨_,q,e1,e2,⟨n,rfl,e3⟩,e4⟩
 ·rintro x h' ⟨v,q,e1,e2,⟨n,e3,e4⟩,e5⟩
  cases e3;subst e5
  exact⟨n,e4,e1,e2⟩
theorem Ly(b:List Int)(hb:Byt b)(hl:b.length≤2000)(p:Nat)(hp:p≤1099511627776)(l:List (List UInt8))(hne:l≠[])(hll:l.length≤1099511627776):AC Tryz.prog G aG [.ptr 0 2 0 0,.sl 1 1 0 l.length] [rdO b p,ga l] fun x h=>∃v q,x= .ret (.p v)∧h=[rdO b q,ga l]∧(∃s,v= .str s∧s∈l)∧q=p+1:=by
 refine AC.go mI ?_
 have hpos:0<l.length:=List.length_pos_iff.2 hne
 simp-implicitDefEqProofs[jp]
 refine(bl G b hb hl p hp l.length [ga l]).mono ?_
 rintro r h ⟨k,rfl,rfl,hk⟩
 have hkl:k<l.length:=by omega
 have hg:=List.getElem?_eq_getElem hkl
 have hn:ga l= .row 1 (l.map fun n=>[.p (.str n)]):=rfl
 simp-implicitDefEqProofs[aa,hkl,hn,hg]
theorem zi{b:List Int}(hb:Byt b)(hl:b.length≤2000){p:Nat}(hp:p≤1099511627776)(l:List (List UInt8)){h:List AO}{k:Nat}(hne:l≠[])(hll:l.length≤1099511627776)(hk:k≠0)(h0:h[0]?=some (rdO b p))(h1:h[k]?=some (ga l)):
 AC Tryz.prog G aG [.ptr 0 2 0 0,.sl k 1 0 l.length] h fun x h'=>∃s,s∈l∧x= .ret (.p (.str s))∧h'=h.set 0 (rdO b (p+1)):=by
 refine(Jf G (args:=[.sl 1 1 0 l.length]) (R:=fun v q=>(∃n,v= .p (.str n)∧n∈l)∧q=p+1) ((Ly G b hb hl p hp l hne hll).mono ?_) (by simp[okO,ga]) (args':=[.sl k 1 0 l.length]) hk h0 h1 (by simp[below,ren])).mono ?_
 ·rintro x h ⟨v,q,e1,e2,⟨n,rfl,e3⟩,e4⟩
  exact⟨_,q,e1,e2,⟨n,rfl,e3⟩,e4⟩
 ·rintro x h' ⟨v,q,e1,e2,⟨n,e3,e4⟩,e5⟩
  cases e3;subst e5
  exact⟨n,e4,e1,e2⟩
theorem Bt{b:List Int}(hb:Byt b)(hl:b.length≤2000){p:Nat}(hp:p≤1099511627776)(l:List (List UInt8))(hne:l≠[])(hll:l.length≤1099511627776)(rest:List AO):AC Tryz.prog G aG [.ptr 0 2 0 0,.p (au l)] (rdO b p::rest) fun x h=>∃s,s∈l∧x= .ret (.p (.str s))∧h=rdO b (p+1)::rest:=by
 have key:AC Tryz.prog G aG [.ptr 0 2 0 0,.p (au l)] [rdO b p] fun x h=>∃s,s∈l∧x= .ret (.p (.str s))∧h=[rdO b (p+1)]:=by
  refine AC.go mI ?_
  have hpos:0<l.length:=List.length_pos_iff.2 hne
  have hsl:au l= .lst 1 (l.map fun w=>[.str w]):=rfl
  simp-implicitDefEqProofs[jp,hsl]
  refine(bl G b hb hl p hp l.length []).mono ?_
  rintro r h ⟨k,rfl,rfl,hk⟩
  have hkl:k<l.length:=by omega
  have hg:=List.getElem?_eq_getElem hkl
  simp-implicitDefEqProofs[aa,hg]
 refine(key.pre rest (by simp[below]) (fun o ho=>by rw[List.mem_singleton.1 ho];exact bz _ _ _) ?_).mono ?_
 ·rintro x h ⟨k,_,_,rfl⟩;rfl
 ·rintro x h ⟨h1,⟨s,e1,e2,rfl⟩,rfl⟩
  exact⟨s,e1,e2,rfl⟩
def DP(b:List Int)(Q:AV→Nat→Prop)(x:ARes)(h:List AO):Prop:=∃v rest q v1,x= .ret v∧h=rdO b q::rest∧Fzs (.dead::rest) 1 [v] [v1]∧Q v1 q
theorem lX{f:FuncId}{args:List AV}{b:List Int}{p:Nat}{Q:AV→Nat→Prop}(H:AC Tryz.prog G f args [rdO b p] (DP b Q)):AC Tryz.prog G f args [rdO b p] fun x h=>∃v q,x= .ret v∧h=[rdO b q]∧Q v q:=by
 refine H.frz 1 (Nat.le_refl _) (fun t v h ⟨_,_,_,_,e,_⟩=>by cases e) ?_
 rintro v h ⟨v0,rest,q,v1,e,rfl,hf,r⟩
 cases e
 exact⟨v1,[rdO b q],by simp,rfl,hf,.same (bz _ _ _) (.nil _),v1,q,rfl,rfl,r⟩
theorem jj{f:FuncId}{args:List AV}{b:List Int}{p:Nat}{Q:AV→Nat→Prop}(H:AC Tryz.prog G f args [rdO b p] fun x h=>∃v q,x= .ret v∧h=[rdO b q]∧Q v q)(rest:List AO)(ha:ag 1 args):AC Tryz.prog G f args (rdO b p::rest) fun x h=>∃v q,x= .ret v∧h=rdO b q::rest∧Q v q:=by
 refine(H.pre rest ha (fun o ho=>by rw[List.mem_singleton.1 ho];exact bz _ _ _) ?_).mono ?_
 ·rintro x h ⟨k,_,_,rfl,_⟩;rfl
 ·rintro x h ⟨h1,⟨s,q,e1,rfl,e2⟩,rfl⟩
  exact⟨s,q,e1,rfl,e2⟩
end Go.Proofs.YtnjbhgpbgmpkcaaGreatDoor
namespace Go.Proofs.YtnjbhgpbgmpkcaaGreatDoor
open Go Go.Aw Go.ChangeShapes Go.WideShapes Go.ChangeAt Go.RowKit
set_option maxRecDepth 100000
abbrev Jp:TypeId:=24
abbrev LB:TypeId:=22
abbrev Ny:TypeId:=111
abbrev Jn:TypeId:=54
abbrev LC:TypeId:=9
abbrev GQ:TypeId:=109
abbrev KK:TypeId:=185
abbrev HA:TypeId:=183
abbrev KH:TypeId:=225
abbrev IX:TypeId:=3
abbrev JJ:TypeId:=4
abbrev Bh:TypeId:=177
abbrev FZ:TypeId:=232
abbrev Hr:TypeId:=233
abbrev Cp:TypeId:=38
abbrev xa:TypeId:=5
theorem MD:Kids Tryz.prog (· <Tryz.prog.types.size):=kids_rows (by kernel_rfl) (by kernel_rfl)
theorem LF:∀t e,t<Tryz.prog.types.size→Tryz.prog.underlying t=some (.slice e)→0<Tryz.prog.cellsOf e:=slices_full_of Tryz.prog (by kernel_rfl)
def FM:List TypeId:=[Jp,LB,Ny,Jn,LC,GQ,KK,HA,KH,IX,JJ,Bh,FZ]
theorem Ep:Plain Tryz.prog FM=true:=by kernel_rfl
theorem Oe:ownKnob Tryz.prog.godebug=none:=by kernel_rfl
theorem tW{H:Type}:∀l:List (DataW H),Rows.uptoBulkAll l=(l.map Rows.uptoBulk).sum
 |[]=>by simp[Rows.uptoBulkAll]
 |d::r=>by simp[Rows.uptoBulkAll,tW r]
theorem Hc{H:Type}:BulkOk (Rows.uptoBulk (H:=H)) where
 lit:=fun l=>by cases l<;>simp[Rows.uptoBulk]
 str:=fun s=>by simp[Rows.uptoBulk]
 nil:=by simp[Rows.uptoBulk]
 slice:=fun es sp=>by simp only[Rows.uptoBulk,tW];omega
 agg:=fun ps=>by simp only[Rows.uptoBulk,tW];omega
theorem FL{t e:TypeId}{vs:List PV}(h:Conf Tryz.prog t vs)(hu:Tryz.prog.underlying t=some (.slice e)):∃es,vs=[.lst (Tryz.prog.cellsOf e) es]∧es.length≤9223372036854775807∧∀x∈es,Conf Tryz.prog e x:=by
 cases h with
 |sl es e' hl hs=>rw[hu] at e';cases e';exact⟨es,rfl,hl,hs⟩
 |bool b e=>rw[e] at hu;cases hu
 |int n e=>rw[e] at hu;cases hu
 |str s e=>rw[e] at hu;cases hu
 |st vs e=>rw[e] at hu;cases hu
 |arr vs e=>rw[e] at hu;cases hu
def G0:aC:=fun g=>if g=fC then some ff else if g=db then some [.tbl opK opV] else none
theorem Ks:∀k,iD Tryz.prog (k+10) Bh (Rows.laid_loop_example_wholeway_impl_keys (H:=Unit))=ff:=fun k=>by kernel_rfl
theorem Oc{W:World}{laid:List (String × DataW Unit)}(hL:laidMet Tryz.prog laid W)(h1:("loop.example/wholeway/impl.keys",Rows.laid_loop_example_wholeway_impl_keys)∈laid)(h2:("loop.example/wholeway/impl.opSign",Rows.laid_loop_example_wholeway_impl_opSign)∈laid):
 ∀g cs,G0 g=some cs→g<W.heap.size∧∀(j:Nat) (c:PV),cs[j]?=some c→∃v,W.cell? ⟨g,j,none⟩=some v∧PRel W (· <W.heap.size) c v:=by
 intro g cs h
 unfold G0 at h
 split at h
 ·rename_i e;subst e;cases h
  exact DA Ep hL (n:= "loop.example/wholeway/impl.keys") (d:=Rows.laid_loop_example_wholeway_impl_keys) (t:=Bh) h1 (by kernel_rfl) (by kernel_rfl) (by decide) Ks
 ·split at h
  ·rename_i e;subst e;cases h
   exact Gw Ep hL (n:= "loop.example/wholeway/impl.opSign") h2 (t:=Hr) (k:=IX) (e:=FZ) (by kernel_rfl) (by kernel_rfl) (by kernel_rfl) (.inl ⟨.i64,by kernel_rfl⟩) (by decide) (by kernel_rfl) (by kernel_rfl) (fun m=>by kernel_rfl)
  ·cases h
def BQ:List TypeId:=Cp::xa::FM
theorem Ky:Plain Tryz.prog BQ=true:=by kernel_rfl
theorem zS{vs:List PV}(h:Conf Tryz.prog Cp vs):∃l:List Int,vs=[sc l]∧l.length≤9223372036854775807∧Byt l:=by
 obtain⟨es,rfl,hl,h4⟩:=FL h (e:=xa) (by kernel_rfl)
 have hk:∀x∈es,∃n:Int,x=[PV.int .u8 n]∧(Lit.int .u8 n).wf=true:=fun x hx=>Gd (h4 x hx) (by kernel_rfl)
 obtain⟨l,rfl⟩:=Ct (fun n:Int=>[PV.int .u8 n]) (fun x hx=>by obtain⟨n,e,_⟩:=hk x hx;exact⟨n,e⟩)
 rw[show Tryz.prog.cellsOf xa=1 by kernel_rfl]
 refine⟨l,rfl,by rwa[List.length_map] at hl,fun n hn=>?_⟩
 obtain⟨m,e,hw⟩:=hk [PV.int .u8 n] (List.mem_map.2 ⟨n,hn,rfl⟩)
 cases e
 simp[Lit.wf,IntKind.min,IntKind.max,IntKind.bits,IntKind.signed] at hw
 omega
end Go.Proofs.YtnjbhgpbgmpkcaaGreatDoor
namespace Go.Proofs.YtnjbhgpbgmpkcaaGreatDoor
open Go Go.Aw
set_option maxRecDepth 100000
set_option maxHeartbeats 4000000
noncomputable def eqX {α:Type} (a b:α):Bool:= @decide (a=b) (Classical.propDecidable _)
theorem dz{α:Type}{a b:α}(h:a=b):eqX a b=true:=by unfold eqX;exact @decide_eq_true _ (Classical.propDecidable _) h
theorem aZ{α:Type}{a b:α}(h:¬a=b):eqX a b=false:=by unfold eqX;exact @decide_eq_false _ (Classical.propDecidable _) h
theorem Fg{α:Type}(a b:α):eqX a b=eqX b a:=by
 by_cases h:a=b
 ·rw[dz h,dz h.symm]
 ·rw[aZ h,aZ fun e=>h e.symm]
theorem Ex.ext'{a b:Ex}(h1:a.op=b.op)(h2:a.n=b.n)(h3:a.name=b.name)(h4:a.kids=b.kids):a=b:=by
 cases a;cases b;simp only[Ex.op,Ex.n,Ex.name,Ex.kids] at*;subst h1 h2 h3 h4;rfl
theorem Sm.ext'{a b:Sm}(h1:a.op=b.op)(h2:a.name=b.name)(h3:a.args=b.args)(h4:a.body=b.body)(h5:a.els=b.els):a=b:=by
 cases a;cases b;simp only[Sm.op,Sm.name,Sm.args,Sm.body,Sm.els] at*;subst h1 h2 h3 h4 h5;rfl
theorem cR{α:Type}{a b:List α}{i:Nat}(h:a.take i=b.take i)(ha:i<a.length)(hb:i<b.length)(e:a[i]=b[i]):a.take (i+1)=b.take (i+1):=by
 rw[an ha,an hb,h,e]
theorem ee{α:Type}{a b:List α}(h:a.take a.length=b.take a.length)(hl:a.length=b.length):a=b:=by
 rw[List.take_length] at h
 rw[h,hl,List.take_length]
theorem qQ{α:Type}{a b:List α}{i:Nat}(ha:i<a.length)(hb:i<b.length)(e:¬a[i]=b[i]):¬a=b:=fun h=>by
 subst h;exact e rfl
variable (G:aC)
theorem Du(a b:List (List UInt8))(ha:a.length≤1099511627776)(hb:b.length≤1099511627776):VF Tryz.prog G jR [.p (au a),.p (au b)] (.p (.bool (eqX a b))):=by
 refine AC.go vt ?_
 have hsl:∀l,au l= .lst 1 (l.map fun w=>[.str w]):=fun _=>rfl
 by_cases hl:a.length=b.length
 case neg=>
  have hl':¬(a.length:Int)=b.length:=by omega
  rw[aZ fun e=>hl (by rw[e])]
  simp-implicitDefEqProofs[jL,hsl,hl']
 simp-implicitDefEqProofs[jL,hsl,hl]
 refine aN (fun i:Nat=>al 26 [(0,.p (au a)),(1,.p (au b)),(5,.p (.int .i64 i))]) (fun _=>[]) (fun i=>i≤a.length∧a.take i=b.take i) (fun i=>a.length-i) 0 (by simp) (bk rfl (by simp[below,hsl])) ?_
 rintro i ⟨hi,he⟩
 simp-implicitDefEqProofs[hsl,hl]
 refine bc (fun h=>?_) (fun h=>?_)
 ·simp at h
  have h2:i<a.length:=by omega
  have g1:=List.getElem?_eq_getElem h2
  have g2:=List.getElem?_eq_getElem h
  have nx:=cR he h2 h
  have nn:=qQ h2 h
  generalize a[i]=x at g1 nx nn
  generalize b[i]=y at g2 nx nn
  by_cases e:x=y
  ·simp-implicitDefEqProofs[g1,g2,e]
   exact⟨i+1,⟨by omega,nx e⟩,by omega,bk rfl (by simp[below,hsl,w1 (i:=i) (by omega)])⟩
  ·rw[aZ (nn e)]
   simp-implicitDefEqProofs[g1,g2,e]
 ·simp at h
  have hie:i=a.length:=by omega
  subst hie
  rw[dz (ee he hl)]
  simp-implicitDefEqProofs[]
theorem FQ(a b:List (List UInt8))(ha:a.length≤1099511627776)(hb:b.length≤1099511627776):VF Tryz.prog G eI [.p (au a),.p (au b)] (.p (.bool (eqX a b))):=by
 refine AC.go mM ?_
 have hsl:∀l,au l= .lst 1 (l.map fun w=>[.str w]):=fun _=>rfl
 by_cases hl:a.length=b.length
 case neg=>
  have hl':¬(a.length:Int)=b.length:=by omega
  rw[aZ fun e=>hl (by rw[e])]
  simp-implicitDefEqProofs[eG,hsl,hl']
 simp-implicitDefEqProofs[eG,hsl,hl]
 refine aN (fun i:Nat=>al 26 [(0,.p (au a)),(1,.p (au b)),(12,.p (.int .i64 b.length)),(13,.p (.int .i64 i))]) (fun _=>[]) (fun i=>i≤a.length∧a.take i=b.take i) (fun i=>a.length-i) 0 (by simp) (bk rfl (by simp[below,hsl])) ?_
 rintro i ⟨hi,he⟩
 simp-implicitDefEqProofs[hsl]
 refine bc (fun h=>?_) (fun h=>?_)
 ·simp at h
  have h2:i<a.length:=by omega
  have g1:=List.getElem?_eq_getElem h2
  have g2:=List.getElem?_eq_getElem h
  have nx:=cR he h2 h
  have nn:=qQ h2 h
  generalize a[i]=x at g1 nx nn
  generalize b[i]=y at g2 nx nn
  by_cases e:x=y
  ·simp-implicitDefEqProofs[g1,g2,e]
   exact⟨i+1,⟨by omega,nx e⟩,by omega,bk rfl (by simp[below,hsl,w1 (i:=i) (by omega)])⟩
  ·rw[aZ (nn e)]
   simp-implicitDefEqProofs[g1,g2,e]
 ·simp at h
  have hie:i=a.length:=by omega
  subst hie
  rw[dz (ee he hl)]
  simp-implicitDefEqProofs[]
theorem pI(F:FuncId)(a b:List Ex)(ha:a.length≤1099511627776)(hb:b.length≤1099511627776)(H:∀x∈a,∀y∈b,VF Tryz.prog G F [.agg (x.cs.map .p),.agg (y.cs.map .p)] (.p (.bool (eqX x y)))):VF Tryz.prog G bm [.p (exL a),.p (exL b),.fn (.func F) []] (.p (.bool (eqX a b))):=by
 refine AC.go jl ?_
 have hsl:∀l,exL l= .lst 4 (l.map Ex.cs):=fun _=>rfl
 by_cases hl:a.length=b.length
 case neg=>
  have hl':¬(a.length:Int)=b.length:=by omega
  rw[aZ fun e=>hl (by rw[e])]
  simp-implicitDefEqProofs[cC,hsl,hl']
 simp-implicitDefEqProofs[cC,hsl,hl]
 refine aN (fun i:Nat=>al 32 [(0,.p (exL a)),(1,.p (exL b)),(2,.fn (.func F) []),(15,.p (exL a)),(16,.p (.int .i64 b.length)),(17,.p (.int .i64 i))]) (fun _=>[]) (fun i=>i≤a.length∧a.take i=b.take i) (fun i=>a.length-i) 0 (by simp) (bk rfl (by simp[below,ag,hsl])) ?_
 rintro i ⟨hi,he⟩
 simp-implicitDefEqProofs[hsl]
 refine bc (fun h=>?_) (fun h=>?_)
 ·simp at h
  have h2:i<a.length:=by omega
  have g1:=List.getElem?_eq_getElem h2
  have g2:=List.getElem?_eq_getElem h
  have nx:=cR he h2 h
  have nn:=qQ h2 h
  have hh:=H _ (List.getElem_mem h2) _ (List.getElem_mem h)
  generalize a[i]=x at g1 nx nn hh
  generalize b[i]=y at g2 nx nn hh
  have c1:=x.cs_eq
  have c2:=y.cs_eq
  rw[c1,c2] at hh
  simp-implicitDefEqProofs[g1,g2,c1,c2]
  refine hh.use ?_
  by_cases e:x=y
  ·rw[dz e]
   simp-implicitDefEqProofs[]
   exact⟨i+1,⟨by omega,nx e⟩,by omega,bk rfl (by simp[below,ag,hsl,w1 (i:=i) (by omega)])⟩
  ·rw[aZ e,aZ (nn e)]
   simp-implicitDefEqProofs[]
 ·simp at h
  have hie:i=a.length:=by omega
  subst hie
  rw[dz (ee he hl)]
  simp-implicitDefEqProofs[]
theorem pE(F:FuncId)(a b:List Sm)(ha:a.length≤1099511627776)(hb:b.length≤1099511627776)(H:∀x∈a,∀y∈b,VF Tryz.prog G F [.agg (x.cs.map .p),.agg (y.cs.map .p)] (.p (.bool (eqX x y)))):VF Tryz.prog G aT [.p (smL a),.p (smL b),.fn (.func F) []] (.p (.bool (eqX a b))):=by
 refine AC.go ji ?_
 have hsl:∀l,smL l= .lst 5 (l.map Sm.cs):=fun _=>rfl
 by_cases hl:a.length=b.length
 case neg=>
  have hl':¬(a.length:Int)=b.length:=by omega
  rw[aZ fun e=>hl (by rw[e])]
  simp-implicitDefEqProofs[cF,hsl,hl']
 simp-implicitDefEqProofs[cF,hsl,hl]
 refine aN (fun i:Nat=>al 32 [(0,.p (smL a)),(1,.p (smL b)),(2,.fn (.func F) []),(15,.p (smL a)),(16,.p (.int .i64 b.length)),(17,.p (.int .i64 i))]) (fun _=>[]) (fun i=>i≤a.length∧a.take i=b.take i) (fun i=>a.length-i) 0 (by simp) (bk rfl (by simp[below,ag,hsl])) ?_
 rintro i ⟨hi,he⟩
 simp-implicitDefEqProofs[hsl]
 refine bc (fun h=>?_) (fun h=>?_)
 ·simp at h
  have h2:i<a.length:=by omega
  have g1:=List.getElem?_eq_getElem h2
  have g2:=List.getElem?_eq_getElem h
  have nx:=cR he h2 h
  have nn:=qQ h2 h
  have hh:=H _ (List.getElem_mem h2) _ (List.getElem_mem h)
  generalize a[i]=x at g1 nx nn hh
  generalize b[i]=y at g2 nx nn hh
  have c1:=x.cs_eq
  have c2:=y.cs_eq
  rw[c1,c2] at hh
  simp-implicitDefEqProofs[g1,g2,c1,c2]
  refine hh.use ?_
  by_cases e:x=y
  ·rw[dz e]
   simp-implicitDefEqProofs[]
   exact⟨i+1,⟨by omega,nx e⟩,by omega,bk rfl (by simp[below,ag,hsl,w1 (i:=i) (by omega)])⟩
  ·rw[aZ e,aZ (nn e)]
   simp-implicitDefEqProofs[]
 ·simp at h
  have hie:i=a.length:=by omega
  subst hie
  rw[dz (ee he hl)]
  simp-implicitDefEqProofs[]
theorem za(F:FuncId)(a b:List Fd)(ha:a.length≤1099511627776)(hb:b.length≤1099511627776)(H:∀x∈a,∀y∈b,VF Tryz.prog G F [.agg (x.cs.map .p),.agg (y.cs.map .p)] (.p (.bool (eqX x y)))):VF Tryz.prog G dd [.p (fdL a),.p (fdL b),.fn (.func F) []] (.p (.bool (eqX a b))):=by
 refine AC.go jT ?_
 have hsl:∀l,fdL l= .lst 3 (l.map Fd.cs):=fun _=>rfl
 by_cases hl:a.length=b.length
 case neg=>
  have hl':¬(a.length:Int)=b.length:=by omega
  rw[aZ fun e=>hl (by rw[e])]
  simp-implicitDefEqProofs[dc,hsl,hl']
 simp-implicitDefEqProofs[dc,hsl,hl]
 refine aN (fun i:Nat=>al 32 [(0,.p (fdL a)),(1,.p (fdL b)),(2,.fn (.func F) []),(15,.p (fdL a)),(16,.p (.int .i64 b.length)),(17,.p (.int .i64 i))]) (fun _=>[]) (fun i=>i≤a.length∧a.take i=b.take i) (fun i=>a.length-i) 0 (by simp) (bk rfl (by simp[below,ag,hsl])) ?_
 rintro i ⟨hi,he⟩
 simp-implicitDefEqProofs[hsl]
 refine bc (fun h=>?_) (fun h=>?_)
 ·simp at h
  have h2:i<a.length:=by omega
  have g1:=List.getElem?_eq_getElem h2
  have g2:=List.getElem?_eq_getElem h
  have nx:=cR he h2 h
  have nn:=qQ h2 h
  have hh:=H _ (List.getElem_mem h2) _ (List.getElem_mem h)
  generalize a[i]=x at g1 nx nn hh
  generalize b[i]=y at g2 nx nn hh
  have c1:=x.cs_eq'
  have c2:=y.cs_eq'
  rw[c1,c2] at hh
  simp-implicitDefEqProofs[g1,g2,c1,c2]
  refine hh.use ?_
  by_cases e:x=y
  ·rw[dz e]
   simp-implicitDefEqProofs[]
   exact⟨i+1,⟨by omega,nx e⟩,by omega,bk rfl (by simp[below,ag,hsl,w1 (i:=i) (by omega)])⟩
  ·rw[aZ e,aZ (nn e)]
   simp-implicitDefEqProofs[]
 ·simp at h
  have hie:i=a.length:=by omega
  subst hie
  rw[dz (ee he hl)]
  simp-implicitDefEqProofs[]
theorem zR:∀(N:Nat) (a:Ex),a.sz≤N→a.sz≤1073741824→∀b:Ex,b.sz≤1073741824→VF Tryz.prog G cD [.agg (a.cs.map .p),.agg (b.cs.map .p)] (.p (.bool (eqX a b))):=by
 intro N
 induction N with
 |zero=>intro e he;have:=e.sz_eq;omega
 |succ N ih=>
  intro a ha hz b hb
  have c1:=a.cs_eq
  have c2:=b.cs_eq
  have z1:=a.sz_eq
  have z2:=b.sz_eq
  have l1:=bi a.kids
  have l2:=bi b.kids
  refine AC.go tc ?_
  by_cases h1:a.op=b.op
  case neg=>
   rw[aZ fun e=>h1 (by rw[e])]
   simp-implicitDefEqProofs[ew,c1,c2,h1]
  by_cases h2:a.n=b.n
  case neg=>
   rw[aZ fun e=>h2 (by rw[e])]
   simp-implicitDefEqProofs[ew,c1,c2,h1,h2]
  by_cases h3:a.name=b.name
  case neg=>
   rw[aZ fun e=>h3 (by rw[e])]
   simp-implicitDefEqProofs[ew,c1,c2,h1,h2,h3]
  have hE:eqX a b=eqX a.kids b.kids:=by
   by_cases h4:a.kids=b.kids
   ·rw[dz h4,dz (Ex.ext' h1 h2 h3 h4)]
   ·rw[aZ h4,aZ fun e=>h4 (by rw[e])]
  rw[hE]
  simp-implicitDefEqProofs[ew,c1,c2,h1,h2,h3]
  refine(pI G cD a.kids b.kids (by omega) (by omega) fun x hx y hy=>?_).use ?_
  ·have:=bj hx
   have:=bj hy
   exact ih x (by omega) (by omega) y (by omega)
  simp-implicitDefEqProofs[]
theorem yY(a b:List Ex)(ha:aY a≤1073741824)(hb:aY b≤1073741824):VF Tryz.prog G bm [.p (exL a),.p (exL b),.fn (.func cD) []] (.p (.bool (eqX a b))):=by
 have:=bi a
 have:=bi b
 exact pI G cD a b (by omega) (by omega) fun x hx y hy=>zR G x.sz x (Nat.le_refl _) (by have:=bj hx;omega) y (by have:=bj hy;omega)
theorem Ah:∀(N:Nat) (a:Sm),a.sz≤N→a.sz≤1073741824→∀b:Sm,b.sz≤1073741824→VF Tryz.prog G bR [.agg (a.cs.map .p),.agg (b.cs.map .p)] (.p (.bool (eqX a b))):=by
 intro N
 induction N with
 |zero=>intro e he;have:=e.sz_eq;omega
 |succ N ih=>
  intro a ha hz b hb
  have c1:=a.cs_eq
  have c2:=b.cs_eq
  have z1:=a.sz_eq
  have z2:=b.sz_eq
  have sub:∀x y:List Sm,am x≤N→am x≤1073741824→am y≤1073741824→VF Tryz.prog G aT [.p (smL x),.p (smL y),.fn (.func bR) []] (.p (.bool (eqX x y))):=fun x y h1 h2 h3=>
   pE G bR x y (by have:=bA x;omega) (by have:=bA y;omega) fun u hu v hv=>ih u (by have:=bY hu;omega) (by have:=bY hu;omega) v (by have:=bY hv;omega)
  refine AC.go sW ?_
  by_cases h1:a.op=b.op
  case neg=>
   rw[aZ fun e=>h1 (by rw[e])]
   simp-implicitDefEqProofs[gk,c1,c2,h1]
  by_cases h2:a.name=b.name
  case neg=>
   rw[aZ fun e=>h2 (by rw[e])]
   simp-implicitDefEqProofs[gk,c1,c2,h1,h2]
  simp-implicitDefEqProofs[gk,c1,c2,h1,h2]
  refine(yY G a.args b.args (by omega) (by omega)).use ?_
  by_cases h3:a.args=b.args
  case neg=>
   rw[aZ h3,aZ fun e=>h3 (by rw[e])]
   simp-implicitDefEqProofs[]
  rw[dz h3]
  simp-implicitDefEqProofs[]
  refine(sub a.body b.body (by omega) (by omega) (by omega)).use ?_
  by_cases h4:a.body=b.body
  case neg=>
   rw[aZ h4,aZ fun e=>h4 (by rw[e])]
   simp-implicitDefEqProofs[]
  rw[dz h4]
  simp-implicitDefEqProofs[]
  refine(sub a.els b.els (by omega) (by omega) (by omega)).use ?_
  by_cases h5:a.els=b.els
  case neg=>
   rw[aZ h5,aZ fun e=>h5 (by rw[e])]
   simp-implicitDefEqProofs[]
  rw[dz h5,dz (Sm.ext' h1 h2 h3 h4 h5)]
  simp-implicitDefEqProofs[]
theorem rW(a b:Fd)(ha:a.sz≤1073741824)(hb:b.sz≤1073741824):VF Tryz.prog G dh [.agg (a.cs.map .p),.agg (b.cs.map .p)] (.p (.bool (eqX a b))):=by
 have c1:=a.cs_eq'
 have c2:=b.cs_eq'
 have z1:a.sz=1+a.name.length+(a.params.length+(a.params.map List.length).sum)+am a.body:=rfl
 have z2:b.sz=1+b.name.length+(b.params.length+(b.params.map List.length).sum)+am b.body:=rfl
 refine AC.go mQ ?_
 by_cases h1:a.name=b.name
 case neg=>
  rw[aZ fun e=>h1 (by rw[e])]
  simp-implicitDefEqProofs[eK,c1,c2,h1]
 simp-implicitDefEqProofs[eK,c1,c2,h1]
 refine(FQ G a.params b.params (by omega) (by omega)).use ?_
 by_cases h2:a.params=b.params
 case neg=>
  rw[aZ h2,aZ fun e=>h2 (by rw[e])]
  simp-implicitDefEqProofs[]
 rw[dz h2]
 simp-implicitDefEqProofs[]
 refine(pE G bR a.body b.body (by have:=bA a.body;omega) (by have:=bA b.body;omega) fun u hu v hv=>Ah G u.sz u (Nat.le_refl _) (by have:=bY hu;omega) v (by have:=bY hv;omega)).use ?_
 by_cases h3:a.body=b.body
 case neg=>
  rw[aZ h3,aZ fun e=>h3 (by rw[e])]
  simp-implicitDefEqProofs[]
 rw[dz h3,dz (by cases a;cases b;simp only at h1 h2 h3;subst h1 h2 h3;rfl)]
 simp-implicitDefEqProofs[]
theorem nU(a b:List Fd)(ha:aO a≤1073741824)(hb:aO b≤1073741824):VF Tryz.prog G dK [.agg [.p (fdL a)],.agg [.p (fdL b)]] (.p (.bool (eqX a b))):=by
 refine AC.go pn ?_
 simp-implicitDefEqProofs[jv]
 refine(za G dh a b (by have:=bX a;omega) (by have:=bX b;omega) fun u hu v hv=>rW G u v (by have:=cg hu;omega) (by have:=cg hv;omega)).use ?_
 simp-implicitDefEqProofs[]
theorem AL:∀(N:Nat) (a:Ex),a.sz≤N→a.sz≤1073741824→∀b:Ex,b.sz≤1073741824→VF Tryz.prog G gi [.agg (a.cs.map .p),.agg (b.cs.map .p)] (.p (.bool (eqX a b))):=by
 intro N
 induction N with
 |zero=>intro e he;have:=e.sz_eq;omega
 |succ N ih=>
  intro a ha hz b hb
  have c1:=a.cs_eq
  have c2:=b.cs_eq
  have z1:=a.sz_eq
  have z2:=b.sz_eq
  have l1:=bi a.kids
  have l2:=bi b.kids
  have hsl:∀l,exL l= .lst 4 (l.map Ex.cs):=fun _=>rfl
  refine AC.go sV ?_
  by_cases h1:a.op=b.op
  case neg=>
   rw[aZ fun e=>h1 (by rw[e])]
   simp-implicitDefEqProofs[dq,c1,c2,h1]
  by_cases h2:a.n=b.n
  case neg=>
   rw[aZ fun e=>h2 (by rw[e])]
   simp-implicitDefEqProofs[dq,c1,c2,h1,h2]
  by_cases h3:a.name=b.name
  case neg=>
   rw[aZ fun e=>h3 (by rw[e])]
   simp-implicitDefEqProofs[dq,c1,c2,h1,h2,h3]
  by_cases hl:a.kids.length=b.kids.length
  case neg=>
   have hl':¬(a.kids.length:Int)=b.kids.length:=by omega
   rw[aZ fun e=>hl (by rw[e])]
   simp-implicitDefEqProofs[dq,c1,c2,h1,h2,h3,hsl,hl']
  simp-implicitDefEqProofs[dq,c1,c2,h1,h2,h3,hsl,hl]
  refine aN (fun i:Nat=>al 53 [(2,.ptr 0 4 0 0),(3,.ptr 1 4 0 0),(5,.p (.int .i64 i))]) (fun _=>[.row 4 [[.p (.int .i64 b.op),.p (.int .i64 b.n),.p (.str b.name),.p (.lst 4 (a.kids.map Ex.cs))]],.row 4 [[.p (.int .i64 b.op),.p (.int .i64 b.n),.p (.str b.name),.p (.lst 4 (b.kids.map Ex.cs))]]]) (fun i=>i≤a.kids.length∧a.kids.take i=b.kids.take i) (fun i=>a.kids.length-i) 0 (by simp) (ab (by simp) (by simp[okO,below]) (by simp[below])) ?_
  rintro i ⟨hi,he⟩
  simp-implicitDefEqProofs[hl]
  refine bc (fun h=>?_) (fun h=>?_)
  ·simp at h
   have h2':i<a.kids.length:=by omega
   have g1:=List.getElem?_eq_getElem h2'
   have g2:=List.getElem?_eq_getElem h
   have nx:=cR he h2' h
   have nn:=qQ h2' h
   have s1:=bj (List.getElem_mem h2')
   have s2:=bj (List.getElem_mem h)
   generalize a.kids[i]=x at g1 nx nn s1
   generalize b.kids[i]=y at g2 nx nn s2
   simp-implicitDefEqProofs[g1,g2]
   refine(ih x (by omega) (by omega) y (by omega)).use ?_
   by_cases e:x=y
   ·rw[dz e]
    simp-implicitDefEqProofs[]
    exact⟨i+1,⟨by omega,nx e⟩,by omega,ab (by simp) (by simp[okO,below]) (by simp[below,w1 (i:=i) (by omega)])⟩
   ·rw[aZ e,aZ fun e=>nn ‹_› (by rw[e])]
    simp-implicitDefEqProofs[]
  ·simp at h
   have hie:i=a.kids.length:=by omega
   subst hie
   rw[dz (Ex.ext' h1 h2 h3 (ee he hl))]
   simp-implicitDefEqProofs[]
theorem xD:∀(N:Nat) (a:List Sm),am a<N→am a≤1073741824→∀b:List Sm,am b≤1073741824→VF Tryz.prog G dx [.p (smL a),.p (smL b)] (.p (.bool (eqX a b))):=by
 intro N
 induction N with
 |zero=>intro a ha;omega
 |succ N ih=>
  intro a ha hza b hzb
  have l1:=bA a
  have l2:=bA b
  have hsl:∀l,smL l= .lst 5 (l.map Sm.cs):=fun _=>rfl
  have hxl:∀l,exL l= .lst 4 (l.map Ex.cs):=fun _=>rfl
  refine AC.go qI ?_
  by_cases hl:a.length=b.length
  case neg=>
   have hl':¬(a.length:Int)=b.length:=by omega
   rw[aZ fun e=>hl (by rw[e])]
   simp-implicitDefEqProofs[gO,hsl,hl']
  simp-implicitDefEqProofs[gO,hsl,hl]
  refine aN (fun i:Nat=>al 111 [(0,.p (smL a)),(1,.p (smL b)),(5,.p (.int .i64 i))]) (fun _=>[]) (fun i=>i≤a.length∧a.take i=b.take i) (fun i=>a.length-i) 0 (by simp) (bk rfl (by simp[below,hsl])) ?_
  rintro i ⟨hi,he⟩
  simp-implicitDefEqProofs[hsl,hl]
  refine bc (fun h=>?_) (fun h=>?_)
  case _=>
   simp at h
   have h2:i<a.length:=by omega
   have g1:=List.getElem?_eq_getElem h2
   have g2:=List.getElem?_eq_getElem h
   have nx:=cR he h2 h
   have nn:=qQ h2 h
   have m1:=bY (List.getElem_mem h2)
   have m2:=bY (List.getElem_mem h)
   generalize a[i]=x at g1 nx nn m1
   generalize b[i]=y at g2 nx nn m2
   have c1:=x.cs_eq
   have c2:=y.cs_eq
   have z1:=x.sz_eq
   have z2:=y.sz_eq
   have q1:=bi x.args
   have q2:=bi y.args
   by_cases h1:x.op=y.op
   case neg=>
    rw[aZ (nn fun e=>h1 (by rw[e]))]
    simp-implicitDefEqProofs[g1,g2,c1,c2,h1]
   by_cases h3:x.name=y.name
   case neg=>
    rw[aZ (nn fun e=>h3 (by rw[e]))]
    simp-implicitDefEqProofs[g1,g2,c1,c2,h1,h3]
   by_cases h4:x.args.length=y.args.length
   case neg=>
    have h4':¬(x.args.length:Int)=y.args.length:=by omega
    rw[aZ (nn fun e=>h4 (by rw[e]))]
    simp-implicitDefEqProofs[g1,g2,c1,c2,h1,h3,hxl,h4']
   simp-implicitDefEqProofs[g1,g2,c1,c2,h1,h3,hxl,h4]
   refine aN (fun j:Nat=>al 111 [(0,.p (smL a)),(1,.p (smL b)),(5,.p (.int .i64 i)),(6,.p (.int .i64 j))]) (fun _=>[]) (fun j=>j≤x.args.length∧x.args.take j=y.args.take j) (fun j=>x.args.length-j) 0 (by simp) (bk rfl (by simp[below,hsl])) ?_
   rintro j ⟨hj,hej⟩
   simp-implicitDefEqProofs[hsl,g1,g2,c1,c2,hxl,h4]
   refine bc (fun hc=>?_) (fun hc=>?_)
   ·simp at hc
    have hc2:j<x.args.length:=by omega
    have a1:=List.getElem?_eq_getElem hc2
    have a2:=List.getElem?_eq_getElem hc
    have nx2:=cR hej hc2 hc
    have nn2:=qQ hc2 hc
    have u1:=bj (List.getElem_mem hc2)
    have u2:=bj (List.getElem_mem hc)
    generalize x.args[j]=v at a1 nx2 nn2 u1
    generalize y.args[j]=w at a2 nx2 nn2 u2
    simp-implicitDefEqProofs[hsl,g1,g2,c1,c2,hxl,a1,a2]
    refine(AL G v.sz v (Nat.le_refl _) (by omega) w (by omega)).use ?_
    by_cases e:v=w
    ·rw[dz e]
     simp-implicitDefEqProofs[]
     exact⟨j+1,⟨by omega,nx2 e⟩,by omega,bk rfl (by simp[below,hsl,w1 (i:=j) (by omega)])⟩
    ·rw[aZ e,aZ (nn fun q=>nn2 e (by rw[q]))]
     simp-implicitDefEqProofs[]
   ·simp at hc
    have hje:j=x.args.length:=by omega
    subst hje
    have hA:=ee hej h4
    simp-implicitDefEqProofs[g1,g2,c1,c2]
    refine(ih x.body (by omega) (by omega) y.body (by omega)).use ?_
    by_cases h5:x.body=y.body
    case neg=>
     rw[aZ h5,aZ (nn fun e=>h5 (by rw[e]))]
     simp-implicitDefEqProofs[]
    rw[dz h5]
    simp-implicitDefEqProofs[g1,g2,c1,c2]
    refine(ih x.els (by omega) (by omega) y.els (by omega)).use ?_
    by_cases h6:x.els=y.els
    case neg=>
     rw[aZ h6,aZ (nn fun e=>h6 (by rw[e]))]
     simp-implicitDefEqProofs[]
    rw[dz h6]
    simp-implicitDefEqProofs[]
    exact⟨i+1,⟨by omega,nx (Sm.ext' h1 h3 hA h5 h6)⟩,by omega,bk rfl (by simp[below,hsl,w1 (i:=i) (by omega)])⟩
  case _=>
   simp at h
   have hie:i=a.length:=by omega
   subst hie
   rw[dz (ee he hl)]
   simp-implicitDefEqProofs[]
theorem uv(a b:List Fd)(ha:aO a≤1073741824)(hb:aO b≤1073741824):VF Tryz.prog G dJ [.agg [.p (fdL a)],.agg [.p (fdL b)]] (.p (.bool (eqX a b))):=by
 have hll1:=bX a
 have hll2:=bX b
 have hfl:∀l,fdL l= .lst 3 (l.map Fd.cs):=fun _=>rfl
 refine AC.go oX ?_
 by_cases hl:a.length=b.length
 case neg=>
  have hl':¬(a.length:Int)=b.length:=by omega
  rw[aZ fun e=>hl (by rw[e])]
  simp-implicitDefEqProofs[fM,hfl,hl']
 simp-implicitDefEqProofs[fM,hfl,hl]
 refine aN (fun i:Nat=>al 65 [(2,.ptr 0 1 0 0),(3,.ptr 1 1 0 0),(5,.p (.int .i64 i))]) (fun _=>[.row 1 [[.p (fdL a)]],.row 1 [[.p (fdL b)]]]) (fun i=>i≤a.length∧a.take i=b.take i) (fun i=>a.length-i) 0 (by simp) (ab (by simp) (by simp[okO,below]) (by simp[below])) ?_
 rintro i ⟨hi,he⟩
 simp-implicitDefEqProofs[hfl,hl]
 refine bc (fun h=>?_) (fun h=>?_)
 case _=>
  simp at h
  have h2:i<a.length:=by omega
  have g1:=List.getElem?_eq_getElem h2
  have g2:=List.getElem?_eq_getElem h
  have nx:=cR he h2 h
  have nn:=qQ h2 h
  have m1:=cg (List.getElem_mem h2)
  have m2:=cg (List.getElem_mem h)
  generalize a[i]=x at g1 nx nn m1
  generalize b[i]=y at g2 nx nn m2
  have c1:=x.cs_eq'
  have c2:=y.cs_eq'
  have z1:x.sz=1+x.name.length+(x.params.length+(x.params.map List.length).sum)+am x.body:=rfl
  have z2:y.sz=1+y.name.length+(y.params.length+(y.params.map List.length).sum)+am y.body:=rfl
  by_cases h1:x.name=y.name
  case neg=>
   rw[aZ (nn fun e=>h1 (by rw[e]))]
   simp-implicitDefEqProofs[g1,g2,c1,c2,h1]
  simp-implicitDefEqProofs[g1,g2,c1,c2,h1]
  refine(Du G x.params y.params (by omega) (by omega)).use ?_
  by_cases h3:x.params=y.params
  case neg=>
   rw[aZ h3,aZ (nn fun e=>h3 (by rw[e]))]
   simp-implicitDefEqProofs[]
  rw[dz h3]
  simp-implicitDefEqProofs[g1,g2,c1,c2]
  refine(xD G (am x.body+1) x.body (by omega) (by omega) y.body (by omega)).use ?_
  by_cases h4:x.body=y.body
  case neg=>
   rw[aZ h4,aZ (nn fun e=>h4 (by rw[e]))]
   simp-implicitDefEqProofs[]
  rw[dz h4]
  simp-implicitDefEqProofs[]
  exact⟨i+1,⟨by omega,nx (by cases x;cases y;simp only at h1 h3 h4;subst h1 h3 h4;rfl)⟩,by omega,ab (h:=[.row 1 [[.p (fdL a)]],.row 1 [[.p (fdL b)]]]) (by simp) (by simp[okO,below]) (by simp[below,w1 (i:=i) (by omega)])⟩
 case _=>
  simp at h
  have hie:i=a.length:=by omega
  subst hie
  rw[dz (ee he hl)]
  simp-implicitDefEqProofs[]
end Go.Proofs.YtnjbhgpbgmpkcaaGreatDoor
namespace Go.Proofs.YtnjbhgpbgmpkcaaGreatDoor
open Go Go.Aw
set_option maxRecDepth 100000
abbrev fq:FuncId:=42
abbrev fv:FuncId:=43
def ln:FK:=⟨23,[.t 4],
 .seq (.reg [oJ 2 (.box 1 (.t 0)),
  oK 4 0])
 (.seq (.seq (.reg [oJ 5 (.ld (some 1) (.t 2)),
   oJ 6 (.call iW [(.t 5)]),
   oJ 7 (.not (.t 6)),
   oM 8 7,
   ⟨(some 9),some (8,false),.mov (.t 1)⟩,
   ⟨(some 10),some (8,false),.fldA 0 (.t 2)⟩,
   ⟨(some 11),some (8,false),.ld none (.t 10)⟩,
   ⟨(some 12),some (8,false),.len false (.t 11)⟩,
   ⟨(some 13),some (8,false),.bin .sub (.t 12) (.c (.p (.int .i64 1)))⟩,
   ⟨(some 14),some (8,false),.call cd [(.t 9),(.c (.p (.int .i64 0))),(.t 13)]⟩,
   ⟨(some 15),some (8,false),.not (.t 14)⟩,
   oJ 16 (.pick (.t 8) (.c (.p (.bool true))) (.t 15))])
 (.cond (.t 16)
  (.seq (.reg [oJ 4 (.mov (.c (.p (.int .i64 (-1)))))])
  (.ret))
  (.skip)))
 (.seq (.reg [oF 17 0 2,
   oL 18 17,
   oM 19 1,
   oJ 20 (.idxS 3 (.t 18) (.t 19)),
   oJ 21 (.ld (some 3) (.t 20)),
   oJ 22 (.call gm [(.t 21)]),
   oM 4 22])
 (.ret)))⟩
theorem rJ:aj Tryz.prog fq=some ln:=by kernel_rfl
def lA:FK:=⟨14,[.t 2],
 .seq (.reg [oJ 1 (.box 1 (.t 0)),
  oK 2 0])
 (.seq (.seq (.reg [oJ 5 (.ld (some 1) (.t 1)),
   oJ 6 (.call cK [(.t 5)]),
   oJ 7 (.not (.t 6))])
 (.cond (.t 7)
  (.seq (.reg [oJ 2 (.mov (.c (.p (.int .i64 (-1)))))])
  (.ret))
  (.skip)))
 (.seq (.reg [oJ 9 (.ld (some 1) (.t 1)),
   oJ 10 (.call gM [(.t 9)]),
   oM 8 10,
   oJ 11 (.ext 0 (.t 8)),
   oJ 12 (.ext 1 (.t 8)),
   oM 3 11,
   oM 4 12])
 (.seq (.reg [oM 13 3,
   oM 2 13])
 (.ret))))⟩
theorem rQ:aj Tryz.prog fv=some lA:=by kernel_rfl
end Go.Proofs.YtnjbhgpbgmpkcaaGreatDoor
namespace Go.Proofs.YtnjbhgpbgmpkcaaGreatDoor
open Go Go.Aw
set_option maxRecDepth 100000
set_option maxHeartbeats 4000000
def K_spec_l4Walk_expr:AK:= .seq (.reg [oJ 3 (.box 4 (.t 1)),oJ 4 (.alloc [(.p (.int .i64 0)),(.p (.int .i64 0)),(.p (.str [])),.nils])]) (.cut (.seq (.reg [oF 8 0 3,oL 9 8,oJ 10 (.bin .eql (.t 9) (.c (.p (.int .i64 2))))]) (.cond (.t 10) (.reg [oM 11 0,oF 12 2 3,oL 13 12,oJ 14 (.call cu [(.t 11),(.t 13)]),oF 15 2 3,oS 15 14]) (.skip))) (.cut (.seq (.reg [oF 16 0 3,oL 17 16,oJ 18 (.bin .eql (.t 17) (.c (.p (.int .i64 13))))]) (.cond (.t 18) (.seq (.reg [oM 19 0,oN 20 19,oF 21 0 20,oF 23 2 3,oJ 22 (.ld (some 1) (.t 21)),oL 24 23,oJ 25 (.call gB [(.t 22),(.t 24)]),oM 5 25]) (.seq (.reg [oM 26 5,oJ 27 (.bin .lss (.t 26) (.c (.p (.int .i64 0)))),oM 28 27,⟨(some 29),some (28,false),.mov (.t 5)⟩,⟨(some 30),some (28,false),.mov (.t 0)⟩,⟨(some 31),some (28,false),.nilck (.t 30)⟩,⟨(some 32),some (28,false),.fldA 1 (.t 31)⟩,⟨(some 33),some (28,false),.ld none (.t 32)⟩,⟨(some 34),some (28,false),.bin .geq (.t 29) (.t 33)⟩,oJ 35 (.pick (.t 28) (.c (.p (.bool true))) (.t 34))]) (.cond (.t 35) (.reg [oM 36 0,oJ 37 (.call aR [(.t 36),(.c (.p (.int .i64 4)))])]) (.seq (.reg [oM 38 0,oN 39 38,oF 40 0 39,oF 41 0 40,oM 43 5,oF 48 3 3,oL 42 41,oJ 44 (.idxS 3 (.t 42) (.t 43)),oF 45 1 44,oL 46 45,oJ 47 (.len false (.t 46)),oL 49 48,oJ 50 (.len false (.t 49)),oJ 51 (.bin .neq (.t 47) (.t 50))]) (.cond (.t 51) (.reg [oM 52 0,oJ 53 (.call aR [(.t 52),(.c (.p (.int .i64 5)))])]) (.skip)))))) (.skip))) (.seq (.reg [oJ 54 (.bsl 4 [(.p (.int .i64 0)),(.p (.int .i64 0)),(.p (.str [])),.nils] 0 []),oM 6 54]) (.seq (.seq (.reg [oK 7 0]) (.blk 0 (.loop (.seq (.seq (.reg [oM 55 7,oF 56 3 3,oL 57 56,oJ 58 (.len false (.t 57)),oJ 59 (.bin .lss (.t 55) (.t 58))]) (.cond (.t 59) (.skip) (.exit 0))) (.seq (.blk 1 (.reg [oM 62 6,oM 63 0,oF 64 3 3,oL 65 64,oM 66 7,oJ 67 (.idxS 4 (.t 65) (.t 66)),oJ 68 (.ld (some 4) (.t 67)),oJ 69 (.call bI [(.t 63),(.t 68)]),oJ 70 (.bsl 4 [(.p (.int .i64 0)),(.p (.int .i64 0)),(.p (.str [])),.nils] 1 [(0,4,(.t 69))]),oJ 71 (.app 4 56 (.t 62) (.t 70)),oM 6 71])) (.reg [oM 60 7,oJ 61 (.bin .add (.t 60) (.c (.p (.int .i64 1)))),oM 7 61])))))) (.seq (.reg [oM 72 6,oF 73 3 3,oS 73 72]) (.seq (.reg [oJ 74 (.ld (some 4) (.t 3)),⟨none,none,.st 4 (.t 4) (.t 74)⟩]) (.ret)))))))
theorem qp:K_spec_l4Walk_expr.whole=F_spec_l4Walk_expr.ak:=rfl
variable (G:aC)
theorem zG{f:FuncId}{args:List AV}{nf:Bool}{fns:List Fd}{k:Nat}{w w':WS}{v:AV}(H:AC Tryz.prog G f args (HWk nf fns k w) fun x h=>x= .ret v∧h=HWk nf fns k w')(rest:List AO)(ha:ag 2 args):
 AC Tryz.prog G f args (wO 1 nf fns k w::roC nf w.vs::rest) fun x h=>x= .ret v∧h=wO 1 nf fns k w'::roC nf w'.vs::rest:=by
 refine(AC.pre H rest ha (uS _ _ _ _) ?_).mono ?_
 ·rintro x h ⟨_,rfl⟩;rfl
 ·rintro x h ⟨h1,⟨rfl,rfl⟩,rfl⟩
  exact⟨rfl,rfl⟩
theorem rd{n id:Nat}(hn:id<n){nf nf':Bool}{fns:List Fd}{k:Nat}{w:WS}{vs:List LV}{l:List AO}(r:∀o∈l,okO n o):∀o∈wO id nf fns k w::roC nf' vs::l,okO n o:=ae (sv hn) (ae (gq _ _ _) r)
theorem tL{ρ π:List Nat}{h r1:List AO}{i id:Nat}{nf:Bool}{fns:List Fd}{k:Nat}{w:WS}(hid:id<ρ.length)(e:h[i]?=some (wO (ρ.getD id 0) nf fns k w))(hr:HW ρ h π r1):HW ρ h (i::π) (wO id nf fns k w::r1):=by
 refine cr (es:=[wC id nf fns k w]) (fun x hx=>?_) ?_ hr
 ·rw[List.mem_singleton.1 hx];exact uP hid
 ·rw[e,List.map_cons,List.map_nil,xm];rfl
theorem Dy{α:Type}{l:List α}{i j:Nat}{a b:α}(hij:i≠j)(h:l[j]?=some b):(l.set i a).set j b=l.set i a:=by
 apply List.ext_getElem?
 intro n
 rw[List.getElem?_set]
 split
 ·rename_i e
  subst e
  rw[List.getElem?_set_ne hij,h]
  rw[if_pos (by rw[List.length_set];exact(List.getElem?_eq_some_iff.1 h).1)]
 ·rfl
theorem xe(ρ:List Nat):∀l:List AV,ag 0 l→TW ρ l l
 |[],_=>by simp
 |v::r,h=>by
  rw[tv]
  refine⟨.inr ⟨(az (Nat.zero_le _) [v] ⟨h.1,trivial⟩).1,?_⟩,xe ρ r h.2⟩
  have:=dT ρ [v] ⟨h.1,trivial⟩
  simpa[bp] using this
theorem LH{h:List AO}{wid id:Nat}{nf:Bool}{fns:List Fd}{k:Nat}{w:WS}(e0:h[wid]?=some (wO id nf fns k w))(e1:h[id]?=some (roC nf w.vs)):HW [wid,id] h [wid,id] (HWk nf fns k w):=by
 refine cr (es:=[wC 1 nf fns k w]) (fun x hx=>?_) ?_ ?_
 ·rw[List.mem_singleton.1 hx];exact uP (by simp)
 ·rw[e0,List.map_cons,List.map_nil,xm];rfl
 ·exact du e1 (gq _ _ _) cQ
theorem JW{f:FuncId}{args:List AV}{nf:Bool}{fns:List Fd}{k:Nat}{w:WS}{v:AV}{c:Int}(H:AC Tryz.prog G f (.ptr 0 5 0 0::args) (HWk nf fns k w) fun x h=>x= .ret v∧h=HWk nf fns k ⟨w.vs,w.count,c⟩)(ha:ag 0 args)(hv:below 0 v)
 {h:List AO}{wid id:Nat}(hid:wid≠id)(e0:h[wid]?=some (wO id nf fns k w))(e1:h[id]?=some (roC nf w.vs)):
 AC Tryz.prog G f (.ptr wid 5 0 0::args) h fun x h'=>x= .ret v∧h'=h.set wid (wO id nf fns k ⟨w.vs,w.count,c⟩):=by
 refine(H.frame [wid,id] (by simp[hid]) ?_ (LH e0 e1)).mono ?_
 ·rw[tv];exact⟨.inr ⟨by simp[below],rfl⟩,xe _ _ ha⟩
 ·rintro x h' ⟨x0,h0,⟨rfl,rfl⟩,_,rfl,rfl⟩
  refine⟨?_,?_⟩
  ·have:=dT ([wid,id]++List.range' h.length ((HWk nf fns k ⟨w.vs,w.count,c⟩).length-(HWk nf fns k w).length)) [v] ⟨hv,trivial⟩
   simp only[bp] at this
   simp only[uf]
   exact congrArg ARes.ret (List.cons.inj this).1
  ·simp only[HWk,List.length_cons,List.length_nil,Nat.sub_self,List.range'_zero,List.append_nil,List.take_succ_cons,List.take_zero,List.map_cons,List.map_nil,List.drop_succ_cons,List.drop_zero,Bw,yn,mrg]
   exact Dy hid e1
theorem EY{f:FuncId}{args:List AV}{nf:Bool}{fns:List Fd}{k:Nat}{w:WS}{v:AV}{Q:Bool→WS→Prop}(H:AC Tryz.prog G f (.ptr 0 5 0 0::args) (HWk nf fns k w) fun x h=>∃nf' w',x= .ret v∧h=[wO 2 nf' fns k w',.dead,roC nf' w'.vs]∧Q nf' w')(ha:ag 0 args)(hv:below 0 v)
 {h:List AO}{wid id:Nat}(hid:wid≠id)(e0:h[wid]?=some (wO id nf fns k w))(e1:h[id]?=some (roC nf w.vs)):
 AC Tryz.prog G f (.ptr wid 5 0 0::args) h fun x h'=>∃nf' w',x= .ret v∧h'=(h.set wid (wO h.length nf' fns k w')).set id .dead++[roC nf' w'.vs]∧Q nf' w':=by
 refine(H.frame [wid,id] (by simp[hid]) ?_ (LH e0 e1)).mono ?_
 ·rw[tv];exact⟨.inr ⟨by simp[below],rfl⟩,xe _ _ ha⟩
 ·rintro x h' ⟨x0,h0,⟨nf',w',rfl,rfl,q⟩,_,rfl,rfl⟩
  refine⟨nf',w',?_,?_,q⟩
  ·have:=dT ([wid,id]++List.range' h.length ([wO 2 nf' fns k w',.dead,roC nf' w'.vs].length-(HWk nf fns k w).length)) [v] ⟨hv,trivial⟩
   simp only[bp] at this
   simp only[uf]
   exact congrArg ARes.ret (List.cons.inj this).1
  ·simp only[HWk,List.length_cons,List.length_nil,List.take_succ_cons,List.take_zero,List.map_cons,List.map_nil,List.drop_succ_cons,List.drop_zero,Bw,yn,mrg]
   rfl
theorem wA(fns:List Fd)(k:Nat)(vs:List LV):∀(a b:List Ex) (c:Int),bg fns k vs (a++b) c=bg fns k vs b (bg fns k vs a c)
 |[],b,c=>rfl
 |e::r,b,c=>by rw[List.cons_append,bg,bg,wA fns k vs r]
theorem qV(vs:List LV):∀l:List Ex,dj vs l=l.map (rnE vs)
 |[]=>rfl
 |e::r=>by rw[dj,qV vs r];rfl
theorem uq{fns:List Fd}{k:Nat}{vs:List LV}{l:List Ex}{c:Int}{i:Nat}(h:i<l.length):bg fns k vs (l.take (i+1)) c=mP fns k vs l[i] (bg fns k vs (l.take i) c):=by
 rw[an h,wA];rfl
theorem wD{vs:List LV}{l:List Ex}{i:Nat}(h:i<l.length):dj vs (l.take (i+1))=dj vs (l.take i)++[rnE vs l[i]]:=by
 rw[qV,qV,an h,List.map_append];rfl
theorem qJ(vs:List LV)(l:List Ex):(dj vs l).length=l.length:=by rw[qV,List.length_map]
theorem Cn(l:List Ex):(exR l).length=l.length:=by simp[exR]
theorem BJ(a b:List Ex):exR (a++b)=exR a++exR b:=by simp[exR]
theorem zH{h:List AO}{id:Nat}{l:List Ex}(e:h[id]?=some (.row 4 (exR l))):View h (.sl id 4 0 l.length) (exL l):=by
 have:=kf (h:=h) (id:=id) (sz:=4) (n:=l.length) (ls:=l.map Ex.cs) (by rw[e,exR];simp) (by simp) (fun x hx=>by obtain⟨b,_,rfl⟩:=List.mem_map.1 hx;exact b.cs_len)
 exact this
theorem He{fns:List Fd}{s:List UInt8}{j:Nat}(h:bW fns s=some j):j<fns.length:=by
 rw[bW,List.findIdx?_eq_some_iff_getElem] at h;exact h.1
theorem Ir{fns:List Fd}{k:Nat}(hf:fns.length≤1099511627776):∀(N:Nat) (e:Ex),e.sz≤N→N≤1099511627776→∀(nf:Bool) (w:WS),(nf=true→w.vs=[])→w.vs.length≤1099511627776→
 AC Tryz.prog G bI [.ptr 0 5 0 0,.agg (e.cs.map .p)] (HWk nf fns k w) fun x h=>x= .ret (.agg ((rnE w.vs e).cs.map .p))∧h=HWk nf fns k ⟨w.vs,w.count,mP fns k w.vs e w.code⟩:=by
 intro N
 induction N with
 |zero=>intro e he;have:=e.sz_eq;omega
 |succ N ih=>
  intro e he hN nf w hn hl
  have hec:=e.cs_eq
  have hsz:=e.sz_eq
  have hkl:=bi e.kids
  have hre:(rnE w.vs e).cs=[.int .i64 e.op,.int .i64 e.n,.str (if e.op=2 then jE w.vs e.name else e.name),exL (dj w.vs e.kids)]:=by
   obtain⟨o,n,s,ks⟩:=e;rw[rnE,Ex.cs_eq];rfl
  have hce:mP fns k w.vs e w.code=bg fns k w.vs e.kids (gX fns k w.vs e.op e.name e.kids.length w.code):=by
   obtain⟨o,n,s,ks⟩:=e;rfl
  have main:AC Tryz.prog G bI [.ptr 0 5 0 0,.agg (e.cs.map .p)] (HWk nf fns k w) fun x h=>∃E1 E2,x= .ret (.agg [.p (.int .i64 e.op),.p (.int .i64 e.n),.p (.str (if e.op=2 then jE w.vs e.name else e.name)),.sl 4 4 0 e.kids.length])∧
   h=[wO 1 nf fns k ⟨w.vs,w.count,mP fns k w.vs e w.code⟩,roC nf w.vs,E1,E2,.row 4 (exR (dj w.vs e.kids))]:=by
   refine AC.goK qd qp ?_
   simp-implicitDefEqProofs[K_spec_l4Walk_expr,F_spec_l4Walk_expr,HWk,hec]
   refine lg (al 75 [(0,.ptr 0 5 0 0),(3,.ptr 2 4 0 0),(4,.ptr 3 4 0 0)]) [wO 1 nf fns k ⟨w.vs,w.count,if e.op=2 then lU w.vs e.name w.code else w.code⟩,roC nf w.vs,.row 4 [[.p (.int .i64 e.op),.p (.int .i64 e.n),.p (.str (if e.op=2 then jE w.vs e.name else e.name)),.p (exL e.kids)]],.row 4 [[.p (.int .i64 0),.p (.int .i64 0),.p (.str []),.nils]]] ?_ ?_
   ·by_cases o2:e.op=2
    ·simp-implicitDefEqProofs[o2]
     refine(zG G (FJ G nf fns k w hn hl e.name) _ (by simp[below])).mono ?_
     rintro r h ⟨rfl,rfl⟩
     simp-implicitDefEqProofs[aa]
     exact ab (by simp) (rd (by simp) (by simp[okO,below])) (by simp[below])
    ·simp-implicitDefEqProofs[o2]
     exact ab (by simp) (rd (by simp) (by simp[okO,below])) (by simp[below])
   refine lg (al 75 [(0,.ptr 0 5 0 0),(3,.ptr 2 4 0 0),(4,.ptr 3 4 0 0)]) [wO 1 nf fns k ⟨w.vs,w.count,gX fns k w.vs e.op e.name e.kids.length w.code⟩,roC nf w.vs,.row 4 [[.p (.int .i64 e.op),.p (.int .i64 e.n),.p (.str (if e.op=2 then jE w.vs e.name else e.name)),.p (exL e.kids)]],.row 4 [[.p (.int .i64 0),.p (.int .i64 0),.p (.str []),.nils]]] ?_ ?_
   ·by_cases o13:e.op=13
    ·have hhd:gX fns k w.vs e.op e.name e.kids.length w.code=lz fns k e.name e.kids.length w.code:=by simp[gX,o13]
     rw[hhd]
     simp-implicitDefEqProofs[o13,wO,wC]
     refine(GD G fns e.name hf).use ?_
     have fin:∀c:Int,Wk 2 (al 75 [(0,.ptr 0 5 0 0),(3,.ptr 2 4 0 0),(4,.ptr 3 4 0 0)]) [wO 1 nf fns k ⟨w.vs,w.count,c⟩,roC nf w.vs,.row 4 [[.p (.int .i64 13),.p (.int .i64 e.n),.p (.str e.name),.p (exL e.kids)]],.row 4 [[.p (.int .i64 0),.p (.int .i64 0),.p (.str []),.nils]]] (al 75 [(0,.ptr 0 5 0 0),(3,.ptr 2 4 0 0),(4,.ptr 3 4 0 0)]) [wO 1 nf fns k ⟨w.vs,w.count,c⟩,roC nf w.vs,.row 4 [[.p (.int .i64 13),.p (.int .i64 e.n),.p (.str e.name),.p (exL e.kids)]],.row 4 [[.p (.int .i64 0),.p (.int .i64 0),.p (.str []),.nils]]]:=fun c=>
      ab (by simp) (rd (by simp) (by simp[okO,below])) (by simp[below])
     cases hfa:bW fns e.name with
     |none=>
      simp-implicitDefEqProofs[ixI,lz,hfa]
      refine(zG G (oq G nf fns k w 4) _ (by simp[below])).mono ?_
      rintro r h ⟨rfl,rfl⟩
      simp-implicitDefEqProofs[aa]
      exact ab (h:=[wO 1 nf fns k ⟨w.vs,w.count,fl w.code 4⟩,roC nf w.vs,.row 4 [[.p (.int .i64 13),.p (.int .i64 e.n),.p (.str e.name),.p (exL e.kids)]],.row 4 [[.p (.int .i64 0),.p (.int .i64 0),.p (.str []),.nils]]]) (by simp) (rd (by simp) (by simp[okO,below])) (by simp[below])
     |some j=>
      have hj:=He hfa
      have hg:=List.getElem?_eq_getElem hj
      have hjn:¬(j:Int)<0:=by omega
      by_cases hkj:k≤j
      ·have hkj':(k:Int)≤(j:Int):=by omega
       simp-implicitDefEqProofs[ixI,lz,hfa,hkj,hkj',hjn]
       refine(zG G (oq G nf fns k w 4) _ (by simp[below])).mono ?_
       rintro r h ⟨rfl,rfl⟩
       simp-implicitDefEqProofs[aa]
       exact ab (h:=[wO 1 nf fns k ⟨w.vs,w.count,fl w.code 4⟩,roC nf w.vs,.row 4 [[.p (.int .i64 13),.p (.int .i64 e.n),.p (.str e.name),.p (exL e.kids)]],.row 4 [[.p (.int .i64 0),.p (.int .i64 0),.p (.str []),.nils]]]) (by simp) (rd (by simp) (by simp[okO,below])) (by simp[below])
      ·have hkj':¬(k:Int)≤(j:Int):=by omega
       have hfl:fdL fns= .lst 3 (fns.map Fd.cs):=rfl
       have hcs:fns[j].cs=[.str fns[j].name,au fns[j].params,smL fns[j].body]:=rfl
       have hst:au fns[j].params= .lst 1 (fns[j].params.map fun w=>[.str w]):=rfl
       have hxl:∀l,exL l= .lst 4 (l.map Ex.cs):=fun _=>rfl
       have hpn:vK fns j=fns[j].params.length:=by simp[vK,hg]
       by_cases hp:fns[j].params.length=e.kids.length
       ·have hcc:lz fns k e.name e.kids.length w.code=w.code:=by simp[lz,hfa,hkj,hpn,hp]
        rw[hcc]
        simp-implicitDefEqProofs[ixI,hkj',hjn,hfl,hg,hcs,hst,hxl,hp]
        exact ab (h:=[wO 1 nf fns k w,roC nf w.vs,.row 4 [[.p (.int .i64 13),.p (.int .i64 e.n),.p (.str e.name),.p (exL e.kids)]],.row 4 [[.p (.int .i64 0),.p (.int .i64 0),.p (.str []),.nils]]]) (by simp) (rd (by simp) (by simp[okO,below])) (by simp[below])
       ·have hcc:lz fns k e.name e.kids.length w.code=fl w.code 5:=by simp[lz,hfa,hkj,hpn,hp]
        have hp':¬(fns[j].params.length:Int)=(e.kids.length:Int):=by omega
        rw[hcc]
        simp-implicitDefEqProofs[ixI,hkj',hjn,hfl,hg,hcs,hst,hxl,hp']
        refine(zG G (oq G nf fns k w 5) _ (by simp[below])).mono ?_
        rintro r h ⟨rfl,rfl⟩
        simp-implicitDefEqProofs[aa]
        exact ab (h:=[wO 1 nf fns k ⟨w.vs,w.count,fl w.code 5⟩,roC nf w.vs,.row 4 [[.p (.int .i64 13),.p (.int .i64 e.n),.p (.str e.name),.p (exL e.kids)]],.row 4 [[.p (.int .i64 0),.p (.int .i64 0),.p (.str []),.nils]]]) (by simp) (rd (by simp) (by simp[okO,below])) (by simp[below])
    ·have hhd:gX fns k w.vs e.op e.name e.kids.length w.code=if e.op=2 then lU w.vs e.name w.code else w.code:=by simp[gX,o13]
     rw[hhd]
     simp-implicitDefEqProofs[o13]
     exact ab (by simp) (rd (by simp) (by simp[okO,below])) (by simp[below])
   rw[hce]
   generalize gX fns k w.vs e.op e.name e.kids.length w.code=c2
   generalize (if e.op=2 then jE w.vs e.name else e.name)=s1
   have hxl:exL e.kids= .lst 4 (e.kids.map Ex.cs):=rfl
   simp-implicitDefEqProofs[]
   refine aN (fun i:Nat=>al 75 [(0,.ptr 0 5 0 0),(3,.ptr 2 4 0 0),(4,.ptr 3 4 0 0),(6,.sl 4 4 0 i),(7,.p (.int .i64 i))])
    (fun i=>[wO 1 nf fns k ⟨w.vs,w.count,bg fns k w.vs (e.kids.take i) c2⟩,roC nf w.vs,.row 4 [[.p (.int .i64 e.op),.p (.int .i64 e.n),.p (.str s1),.p (exL e.kids)]],.row 4 [[.p (.int .i64 0),.p (.int .i64 0),.p (.str []),.nils]],.row 4 (exR (dj w.vs (e.kids.take i)))])
    (fun i=>i≤e.kids.length) (fun i=>e.kids.length-i) 0 (by simp) ?_ ?_
   ·exact ab (by simp) (rd (by simp) (by simp[okO,below])) (by simp[below])
   ·intro i hi
    have hrl:(exR (dj w.vs (e.kids.take i))).length=i:=by rw[Cn,qJ];simp;omega
    simp-implicitDefEqProofs[hxl]
    refine bc (fun h=>?_) (fun h=>?_)
    ·simp at h
     have hg:=List.getElem?_eq_getElem h
     have hks:=bj (List.getElem_mem h)
     have hkc:=(rnE w.vs e.kids[i]).cs_eq
     simp-implicitDefEqProofs[hg]
     refine(zG G (ih e.kids[i] (by omega) (by omega) nf ⟨w.vs,w.count,bg fns k w.vs (e.kids.take i) c2⟩ hn hl) _ (by simp[below])).mono ?_
     rintro r h ⟨rfl,rfl⟩
     rw[show(rnE (WS.mk w.vs w.count (bg fns k w.vs (e.kids.take i) c2)).vs e.kids[i])=rnE w.vs e.kids[i] from rfl]
     simp-implicitDefEqProofs[aa,hkc,hrl]
     refine⟨by omega,?_⟩
     refine⟨i+1,by omega,by omega,?_⟩
     have htk:List.take i (exR (dj w.vs (e.kids.take i)))=exR (dj w.vs (e.kids.take i)):=List.take_of_length_le (by omega)
     rw[uq h,wD h,BJ,htk]
     refine fk [0,1,2,3,6] (by simp) (by decide) (by decide) (tL (by simp) rfl (du rfl (gq _ _ _) (bs rfl (by simp[below]) (bs rfl (by simp[below]) (bs ?_ ?_ cQ))))) (by simp[below,ren,w1 (i:=i) (by omega)])
     ·have:exR [rnE w.vs e.kids[i]]=[[.p (.int .i64 (rnE w.vs e.kids[i]).op),.p (.int .i64 (rnE w.vs e.kids[i]).n),.p (.str (rnE w.vs e.kids[i]).name),.p (exL (rnE w.vs e.kids[i]).kids)]]:=by rw[exR,List.map_singleton,hkc];rfl
      rw[this];rfl
     ·intro x hx
      rcases List.mem_append.1 hx with h|h
      ·exact dM _ x h
      ·exact dM _ x h
    ·simp at h
     have hie:i=e.kids.length:=by omega
     subst hie
     simp-implicitDefEqProofs[]
  refine main.frz 2 (by simp[HWk]) (fun t v h ⟨_,_,e,_⟩=>by cases e) ?_
  rintro v h ⟨E1,E2,e,rfl⟩
  cases e
  refine⟨_,HWk nf fns k ⟨w.vs,w.count,mP fns k w.vs e w.code⟩,by simp,rfl,.agg ?_ .nil,.same (sv (by omega)) (.same (gq _ _ _) (.nil _)),rfl,rfl⟩
  rw[hre]
  have hrl:=qJ w.vs e.kids
  rw[←hrl]
  exact .keep (by simp) (.keep (by simp) (.keep (by simp) (.one (zH rfl) .nil)))
end Go.Proofs.YtnjbhgpbgmpkcaaGreatDoor
namespace Go.Proofs.YtnjbhgpbgmpkcaaGreatDoor
open Go Go.Aw
set_option maxRecDepth 100000
set_option maxHeartbeats 4000000
def K_spec_l4Walk_stmts:AK:= .seq (.reg [oJ 6 (.mov (.c .nils))]) (.seq (.reg [oJ 13 (.bsl 5 [(.p (.int .i64 0)),(.p (.str [])),.nils,.nils,.nils] 0 []),oM 7 13]) (.seq (.reg [oM 14 0,oN 15 14,oF 16 2 15,oL 17 16,oJ 18 (.len false (.t 17)),oM 8 18]) (.seq (.seq (.reg [oK 9 0]) (.blk 0 (.loop (.seq (.seq (.reg [oM 19 9,oM 20 1,oJ 21 (.len false (.t 20)),oJ 22 (.bin .lss (.t 19) (.t 21))]) (.cond (.t 22) (.skip) (.exit 0))) (.seq (.blk 1 (.seq (.reg [oM 25 1,oM 26 9,oJ 27 (.idxS 5 (.t 25) (.t 26)),oJ 28 (.ld (some 5) (.t 27)),oJ 10 (.alloc [(.p (.int .i64 0)),(.p (.str [])),.nils,.nils,.nils]),⟨none,none,.st 5 (.t 10) (.t 28)⟩]) (.seq (.reg [oJ 29 (.bsl 4 [(.p (.int .i64 0)),(.p (.int .i64 0)),(.p (.str [])),.nils] 0 []),oM 11 29]) (.seq (.seq (.reg [oK 12 0]) (.blk 2 (.loop (.seq (.seq (.reg [oM 30 12,oF 31 2 10,oL 32 31,oJ 33 (.len false (.t 32)),oJ 34 (.bin .lss (.t 30) (.t 33))]) (.cond (.t 34) (.skip) (.exit 2))) (.seq (.blk 3 (.reg [oM 37 11,oM 38 0,oF 39 2 10,oL 40 39,oM 41 12,oJ 42 (.idxS 4 (.t 40) (.t 41)),oJ 43 (.ld (some 4) (.t 42)),oJ 44 (.call bI [(.t 38),(.t 43)]),oJ 45 (.bsl 4 [(.p (.int .i64 0)),(.p (.int .i64 0)),(.p (.str [])),.nils] 1 [(0,4,(.t 44))]),oJ 46 (.app 4 56 (.t 37) (.t 45)),oM 11 46])) (.reg [oM 35 12,oJ 36 (.bin .add (.t 35) (.c (.p (.int .i64 1)))),oM 12 36])))))) (.cut (.reg [oM 47 11,oF 48 2 10,oS 48 47]) (.cut (.seq (.reg [oF 49 0 10,oL 50 49,oJ 51 (.bin .eql (.t 50) (.c (.p (.int .i64 1))))]) (.cond (.t 51) (.reg [oM 52 0,oF 53 1 10,oL 54 53,oM 55 2,oJ 56 (.call cw [(.t 52),(.t 54),(.t 55)]),oF 57 1 10,oS 57 56]) (.skip))) (.cut (.seq (.reg [oF 58 0 10,oL 59 58,oJ 60 (.bin .eql (.t 59) (.c (.p (.int .i64 2))))]) (.cond (.t 60) (.reg [oM 61 0,oF 62 1 10,oL 63 62,oJ 64 (.call cu [(.t 61),(.t 63)]),oF 65 1 10,oS 65 64]) (.skip))) (.seq (.reg [oM 66 0,oF 67 3 10,oL 68 67,oM 69 2,oJ 70 (.bin .add (.t 69) (.c (.p (.int .i64 1)))),oJ 71 (.call bq [(.t 66),(.t 68),(.t 70)]),oF 72 3 10,oS 72 71]) (.seq (.reg [oM 73 0,oF 74 4 10,oL 75 74,oM 76 2,oJ 77 (.bin .add (.t 76) (.c (.p (.int .i64 1)))),oJ 78 (.call bq [(.t 73),(.t 75),(.t 77)]),oF 79 4 10,oS 79 78]) (.reg [oM 80 7,oJ 81 (.ld (some 5) (.t 10)),oJ 82 (.bsl 5 [(.p (.int .i64 0)),(.p (.str [])),.nils,.nils,.nils] 1 [(0,5,(.t 81))]),oJ 83 (.app 5 96 (.t 80) (.t 82)),oM 7 83])))))))))) (.reg [oM 23 9,oJ 24 (.bin .add (.t 23) (.c (.p (.int .i64 1)))),oM 9 24])))))) (.cut (.seq (.reg [oM 84 2,oJ 85 (.bin .gtr (.t 84) (.c (.p (.int .i64 0))))]) (.cond (.t 85) (.reg [oM 86 0,oM 87 0,oN 88 87,oF 89 2 88,oL 90 89,oM 91 8,oJ 92 (.slS 3 (.t 90) none (some (.t 91))),oN 93 86,oF 94 2 93,oS 94 92]) (.skip))) (.seq (.reg [oM 95 7,oM 6 95]) (.ret))))))
theorem pc:K_spec_l4Walk_stmts.whole=F_spec_l4Walk_stmts.ak:=rfl
theorem zu(fns:List Fd)(k b:Nat):∀(x y:List Sm) (w:WS),bn fns k b (x++y) w=bn fns k b y (bn fns k b x w)
 |[],y,w=>rfl
 |s::r,y,w=>by rw[List.cons_append,bn,bn,zu fns k b r]
theorem zA(fns:List Fd)(k b:Nat):∀(x y:List Sm) (w:WS),cG fns k b (x++y) w=cG fns k b x w++cG fns k b y (bn fns k b x w)
 |[],y,w=>rfl
 |s::r,y,w=>by rw[List.cons_append,cG,cG,zA fns k b r];rfl
theorem Dx{fns:List Fd}{k b:Nat}{l:List Sm}{w:WS}{i:Nat}(h:i<l.length):bn fns k b (l.take (i+1)) w=stW fns k b l[i] (bn fns k b (l.take i) w):=by
 rw[an h,zu];rfl
theorem CS{fns:List Fd}{k b:Nat}{l:List Sm}{w:WS}{i:Nat}(h:i<l.length):cG fns k b (l.take (i+1)) w=cG fns k b (l.take i) w++[rnS fns k b l[i] (bn fns k b (l.take i) w)]:=by
 rw[an h,zA];rfl
theorem uW(fns:List Fd)(k b:Nat):∀(l:List Sm) (w:WS),(cG fns k b l w).length=l.length
 |[],w=>rfl
 |s::r,w=>by rw[cG,List.length_cons,uW fns k b r,List.length_cons]
theorem Hb{l:List Sm}{i:Nat}(h:i<l.length):am (l.take i)+l[i].sz≤am l:=by
 have e:l=l.take i++l[i]::l.drop (i+1):=by rw[←List.drop_eq_getElem_cons h,List.take_append_drop]
 have h2:am l=am (l.take i)+(l[i].sz+am (l.drop (i+1))):=by
  conv=>lhs;rw[e]
  rw[bC];rfl
 omega
def qo(fns:List Fd)(k b:Nat)(l:List Sm)(w:WS):WS:=if 0<b then(bn fns k b l w).back w.vs else bn fns k b l w
theorem At(fns:List Fd)(k b:Nat)(l:List Sm)(w:WS):(qo fns k b l w).count=w.count+bS l:=by
 unfold qo
 split
 ·exact ep fns k l b w
 ·exact ep fns k l b w
theorem Gh{e vs:List LV}:(lvR (e++vs)).take vs.length=lvR vs:=by
 have h:lvR (e++vs)=lvR vs++lvR e:=by simp[lvR]
 rw[h,List.take_append_of_le_length (by rw[tm];exact Nat.le_refl _),List.take_of_length_le (by rw[tm];exact Nat.le_refl _)]
theorem wB(l:List Sm):bS l≤am l:=Nat.le_trans (nL l) (ma l)
theorem Ac(nf:Bool)(id n:Nat):(vaC nf id n).isCell=true:=by cases nf<;>rfl
theorem CI(nf:Bool)(id n:Nat):(vaC nf id n).cells=[vaC nf id n]:=by cases nf<;>rfl
attribute [simp ↓] Ac CI
variable (G:aC)
def StP(fns:List Fd)(k b:Nat)(l:List Sm)(w:WS)(x:ARes)(h:List AO):Prop:=∃nf' w',x= .ret (.p (smL (cG fns k b l w)))∧h=[wO 2 nf' fns k w',.dead,roC nf' w'.vs]∧(nf'=true→w'.vs=[])∧w'=qo fns k b l w
structure StS where (i:Nat) (nf:Bool)
theorem GJ{fns:List Fd}{k:Nat}(hf:fns.length≤1099511627776):∀(N:Nat) (l:List Sm),am l<N→∀(b:Nat) (nf:Bool) (w:WS),(nf=true→w.vs=[])→w.vs.length≤w.count→w.count+am l≤1099511627776→b+am l≤1099511627776→
 AC Tryz.prog G bq [.ptr 0 5 0 0,.p (smL l),.p (.int .i64 b)] (HWk nf fns k w) (StP fns k b l w):=by
 intro N
 induction N with
 |zero=>
  intro l hl b nf w hn hv hc hb
  omega
 |succ N ih=>
  intro l hl b nf w hn hv hc hb
  have hll:=bA l
  refine AC.goK po pc ?_
  have hsl:∀l,smL l= .lst 5 (l.map Sm.cs):=fun _=>rfl
  have hlen0:AH (vaC nf 1 w.vs.length)=some (.p (.int .i64 w.vs.length)):=by
   cases nf
   ·rfl
   ·simp[vaC,hn rfl]
  simp-implicitDefEqProofs[K_spec_l4Walk_stmts,F_spec_l4Walk_stmts,HWk,wO,wC,hlen0]
  refine aN (fun s:StS=>al 96 [(0,.ptr 0 5 0 0),(1,.p (smL l)),(2,.p (.int .i64 b)),(7,.sl 2 5 0 s.i),(8,.p (.int .i64 w.vs.length)),(9,.p (.int .i64 s.i))])
   (fun s=>[wO 3 s.nf fns k (bn fns k b (l.take s.i) w),.dead,.row 5 (smR (cG fns k b (l.take s.i) w)),roC s.nf (bn fns k b (l.take s.i) w).vs])
   (fun s=>s.i≤l.length∧(s.nf=true→(bn fns k b (l.take s.i) w).vs=[])) (fun s=>l.length-s.i) ⟨0,nf⟩ ⟨by simp,hn⟩ ?_ ?_
  ·refine BZ [0,1,2,1] (by simp) (by decide) ?_ (tL (by simp) rfl (eL (by simp) (bs rfl (by simp[smR,cG]) (du rfl (gq _ _ _) cQ)))) (by simp[below,ren])
   cases nf<;>simp[jb,roC,wO,bn]
  ·rintro⟨i,nf⟩ ⟨hi,hn⟩
   simp only at hi hn
   simp-implicitDefEqProofs[hsl]
   refine bc (fun h=>?_) (fun h=>?_)
   ·simp at h
    have hg:=List.getElem?_eq_getElem h
    have hat:=Hb h
    have hse:=l[i].cs_eq
    have hsz:=l[i].sz_eq
    have hle:=Cs fns k (l:=l.take i) (b:=b) hv
    have hcn:=ep fns k (l.take i) b w
    have hlz:=wB (l.take i)
    have eW:=Dx (fns:=fns) (k:=k) (b:=b) (w:=w) h
    have eR:=CS (fns:=fns) (k:=k) (b:=b) (w:=w) h
    have hol:=uW fns k b (l.take i) w
    rw[List.length_take,Nat.min_eq_left hi] at hol
    generalize l[i]=s at hg hat hse hsz eW eR
    generalize bn fns k b (l.take i) w=wi at hn hle hcn eW eR⊢
    generalize cG fns k b (l.take i) w=out at hol eR⊢
    obtain⟨o,nme,a,bd,el⟩:=s
    simp only[Sm.op,Sm.name,Sm.args,Sm.body,Sm.els] at hse hsz
    simp-implicitDefEqProofs[hg,hse]
    have hxl:∀l,exL l= .lst 4 (l.map Ex.cs):=fun _=>rfl
    have hal:=bi a
    have hlE:=wB bd
    have hwl:wi.vs.length≤1099511627776:=by omega
    have hopR:∀(x y z u v:AV),ag 0 [x,y,z,u,v]→okO 5 (AO.row 5 [[x,y,z,u,v]]):=fun x y z u v hh=>bU (fun e he=>by rw[List.mem_singleton.1 he];exact hh)
    refine aN (fun j:Nat=>al 96 [(0,.ptr 0 5 0 0),(1,.p (smL l)),(2,.p (.int .i64 b)),(7,.sl 2 5 0 i),(8,.p (.int .i64 w.vs.length)),(9,.p (.int .i64 i)),(10,.ptr 4 5 0 0),(11,.sl 5 4 0 j),(12,.p (.int .i64 j))])
     (fun j=>[wO 3 nf fns k ⟨wi.vs,wi.count,bg fns k wi.vs (a.take j) wi.code⟩,.dead,.row 5 (smR out),roC nf wi.vs,.row 5 [[.p (.int .i64 o),.p (.str nme),.p (exL a),.p (smL bd),.p (smL el)]],.row 4 (exR (dj wi.vs (a.take j)))])
     (fun j=>j≤a.length) (fun j=>a.length-j) 0 (by simp) ?_ ?_
    ·refine ab (h:=[wO 3 nf fns k wi,.dead,.row 5 (smR out),roC nf wi.vs,.row 5 [[.p (.int .i64 o),.p (.str nme),.p (exL a),.p (smL bd),.p (smL el)]],.row 4 []]) (by simp) (ae (sv (by simp)) (ae trivial (ae (bU (dR out)) (ae (gq _ _ _) (by simp[okO,below]))))) (by simp[below,hsl])
    intro j hj
    have hrl:(exR (dj wi.vs (a.take j))).length=j:=by rw[Cn,qJ];simp;omega
    simp-implicitDefEqProofs[hxl]
    refine bc (fun hc=>?_) (fun hc=>?_)
    ·simp at hc
     have hga:=List.getElem?_eq_getElem hc
     have hks:=bj (List.getElem_mem hc)
     have hkc:=(rnE wi.vs a[j]).cs_eq
     simp-implicitDefEqProofs[hga]
     refine(JW G (id:=3) (Ir G hf (a[j].sz) a[j] (Nat.le_refl _) (by omega) nf ⟨wi.vs,wi.count,bg fns k wi.vs (a.take j) wi.code⟩ hn hwl) (by simp) (by simp[below]) (by decide) rfl rfl).mono ?_
     rintro r h' ⟨rfl,rfl⟩
     rw[show(rnE (WS.mk wi.vs wi.count (bg fns k wi.vs (a.take j) wi.code)).vs a[j])=rnE wi.vs a[j] from rfl]
     simp-implicitDefEqProofs[aa,hkc,hrl]
     refine⟨by omega,j+1,by omega,by omega,?_⟩
     have htk:List.take j (exR (dj wi.vs (a.take j)))=exR (dj wi.vs (a.take j)):=List.take_of_length_le (by omega)
     rw[uq hc,wD hc,BJ,htk]
     refine fk [0,1,2,3,4,7] (by simp) (by decide) (by decide) (tL (by simp) rfl (eL (by simp) (bs rfl (dR out) (du rfl (gq _ _ _) (bs rfl (by simp[below]) (bs ?_ ?_ cQ)))))) (by simp[below,ren,hsl,w1 (i:=j) (by omega)])
     ·have:exR [rnE wi.vs a[j]]=[[.p (.int .i64 (rnE wi.vs a[j]).op),.p (.int .i64 (rnE wi.vs a[j]).n),.p (.str (rnE wi.vs a[j]).name),.p (exL (rnE wi.vs a[j]).kids)]]:=by rw[exR,List.map_singleton,hkc];rfl
      rw[this];rfl
     ·intro x hx
      rcases List.mem_append.1 hx with h|h
      ·exact dM _ x h
      ·exact dM _ x h
    simp at hc
    have hje:j=a.length:=by omega
    subst hje
    rw[List.take_length] at hrl⊢
    have hal2:=qJ wi.vs a
    simp-implicitDefEqProofs[]
    generalize hw1:WS.mk wi.vs wi.count (bg fns k wi.vs a wi.code)=w1
    have e1v:w1.vs=wi.vs:=by rw[←hw1]
    have e1c:w1.count=wi.count:=by rw[←hw1]
    have e1l:w1.vs.length=wi.vs.length:=by rw[e1v]
    rw[←e1v]
    refine lg (al 96 [(0,.ptr 0 5 0 0),(1,.p (smL l)),(2,.p (.int .i64 b)),(7,.sl 2 5 0 i),(8,.p (.int .i64 w.vs.length)),(9,.p (.int .i64 i)),(10,.ptr 4 5 0 0)])
     [wO 3 nf fns k w1,.dead,.row 5 (smR out),roC nf w1.vs,.row 5 [[.p (.int .i64 o),.p (.str nme),.p (exL (dj w1.vs a)),.p (smL bd),.p (smL el)]]] ?_ ?_
    ·simp-implicitDefEqProofs[]
     refine mz 5 (by omega) (by simp) rfl (.same (sv (by omega)) (.dead (.same (bU (dR out)) (.same (gq _ _ _) (.one (.keep (by simp[below]) (.keep (by simp[below]) (.one ?_ (.keep (by simp[below]) (.keep (by simp[below]) .nil))))) (.nil _)))))) ?_
     ·rw[←e1v] at hal2
      rw[←hal2]
      exact zH rfl
     ·refine⟨.keep (by simp[below]) .nil,.keep (by simp[below]) .nil,.keep (by simp[below]) .nil,.keep (by simp[below]) .nil,.keep (by simp[below]) .nil,.keep (by simp[below]) .nil,.keep (by simp[below]) .nil,trivial⟩
    have TT:∀(r1:List (Nat × AV)),Aw.look r1 0= .ptr 0 5 0 0→Aw.look r1 1= .p (smL l)→Aw.look r1 2= .p (.int .i64 b)→Aw.look r1 7= .sl 2 5 0 i→Aw.look r1 8= .p (.int .i64 w.vs.length)→Aw.look r1 9= .p (.int .i64 i)→Aw.look r1 10= .ptr 4 5 0 0→∀ρ:List Nat,ρ.length=5→ρ.getD 0 0=0→ρ.getD 2 0=2→ρ.getD 4 0=4→
     TWA ρ r1 [(0,.ptr 0 5 0 0),(1,.p (smL l)),(2,.p (.int .i64 b)),(7,.sl 2 5 0 i),(8,.p (.int .i64 w.vs.length)),(9,.p (.int .i64 i)),(10,.ptr 4 5 0 0)]:=by
     intro r1 a0 a1 a2 a7 a8 a9 a10 ρ hr r0 r2 r4
     simp[below,ren,hr,a0,a1,a2,a7,a8,a9,a10]
     rw[List.getD_eq_getElem?_getD,List.getElem?_eq_getElem (by omega)] at r0 r2 r4
     exact⟨r0,r2,r4⟩
    have hn1:nf=true→w1.vs=[]:=fun h=>by rw[e1v];exact hn h
    have okB:∀(nf:Bool) (w:WS) (r:AO),okO 0 r→∀x∈[wO 3 nf fns k w,.dead,.row 5 (smR out),roC nf w.vs,r],okO 5 x:=fun nf w r hr=>
     ae (sv (by omega)) (ae trivial (ae (bU (dR out)) (ae (gq _ _ _) (ae (bU hr) dv))))
    refine lg (al 96 [(0,.ptr 0 5 0 0),(1,.p (smL l)),(2,.p (.int .i64 b)),(7,.sl 2 5 0 i),(8,.p (.int .i64 w.vs.length)),(9,.p (.int .i64 i)),(10,.ptr 4 5 0 0)])
     [wO 3 (if o=1 then false else nf) fns k (if o=1 then eZ w1 nme b else w1),.dead,.row 5 (smR out),roC (if o=1 then false else nf) (if o=1 then eZ w1 nme b else w1).vs,.row 5 [[.p (.int .i64 o),.p (.str (if o=1 then vnm w1.count else nme)),.p (exL (dj w1.vs a)),.p (smL bd),.p (smL el)]]] ?_ ?_
    ·by_cases o1:o=1
     ·simp-implicitDefEqProofs[o1]
      refine(EY G (id:=3) (Q:=fun nf' w'=>nf'=false∧w'=eZ w1 nme b) ((Gu G nf fns k w1 hn1 (by omega) (by omega) nme b).mono (by rintro x h ⟨rfl,rfl⟩;exact⟨false,_,rfl,rfl,rfl,rfl⟩)) (by simp) (by simp[below]) (by decide) rfl rfl).mono ?_
      rintro r h' ⟨nf',w',rfl,rfl,rfl,rfl⟩
      simp-implicitDefEqProofs[aa]
      refine fk [0,1,2,5,4] (by simp) (by decide) (by decide) (tL (by simp) rfl (eL (by simp) (bs rfl (dR out) (du rfl (gq _ _ _) (bs rfl (by simp[below]) cQ))))) (TT _ (by simp) (by simp) (by simp) (by simp) (by simp) (by simp) (by simp) _ rfl rfl rfl rfl)
     ·simp-implicitDefEqProofs[o1]
      refine ab (by simp) (okB nf w1 _ (by simp[okO,below])) (by simp[below])
    generalize hw2:(if o=1 then eZ w1 nme b else w1)=w2
    generalize hnf2:(if o=1 then false else nf)=nf2
    generalize hnm2:(if o=1 then vnm w1.count else nme)=nm2
    have hn2:nf2=true→w2.vs=[]:=by
     intro h
     by_cases o1:o=1
     ·rw[if_pos o1] at hnf2;rw[←hnf2] at h;cases h
     ·rw[if_neg o1] at hnf2 hw2;rw[←hw2];exact hn1 (by rw[hnf2];exact h)
    have h2c:w2.count=w1.count+if o=1 then 1 else 0:=by rw[←hw2];split<;>rfl
    have h2v:w2.vs.length≤w2.count:=by
     rw[←hw2];split
     ·simp[eZ];omega
     ·omega
    have h2b:w2.count≤wi.count+1:=by rw[h2c,e1c];split<;>omega
    refine lg (al 96 [(0,.ptr 0 5 0 0),(1,.p (smL l)),(2,.p (.int .i64 b)),(7,.sl 2 5 0 i),(8,.p (.int .i64 w.vs.length)),(9,.p (.int .i64 i)),(10,.ptr 4 5 0 0)])
     [wO 3 nf2 fns k (opW o nme b w1),.dead,.row 5 (smR out),roC nf2 (opW o nme b w1).vs,.row 5 [[.p (.int .i64 o),.p (.str (opN o nme w1)),.p (exL (dj w1.vs a)),.p (smL bd),.p (smL el)]]] ?_ ?_
    ·by_cases o2:o=2
     ·have o1:¬o=1:=by omega
      rw[if_neg o1] at hw2 hnm2
      subst hw2;subst hnm2
      have eo:opW o nme b w1=⟨w1.vs,w1.count,lU w1.vs nme w1.code⟩:=by rw[opW,if_neg o1,if_pos o2]
      have en:opN o nme w1=jE w1.vs nme:=by rw[opN,if_neg o1,if_pos o2]
      rw[eo,en]
      simp-implicitDefEqProofs[o2]
      refine(JW G (id:=3) (FJ G nf2 fns k w1 hn2 (by omega) nme) (by simp) (by simp[below]) (by decide) rfl rfl).mono ?_
      rintro r h' ⟨rfl,rfl⟩
      simp-implicitDefEqProofs[aa]
      refine ab (h:=[wO 3 nf2 fns k ⟨w1.vs,w1.count,lU w1.vs nme w1.code⟩,.dead,.row 5 (smR out),roC nf2 w1.vs,_]) (by simp) (okB nf2 ⟨w1.vs,w1.count,lU w1.vs nme w1.code⟩ _ (by simp[okO,below])) (by simp[below])
     ·have eo:opW o nme b w1=w2:=by rw[opW,if_neg o2,←hw2]
      have en:opN o nme w1=nm2:=by rw[opN,if_neg o2,←hnm2]
      rw[eo,en]
      simp-implicitDefEqProofs[o2]
      refine ab (by simp) (okB nf2 w2 _ (by simp[okO,below])) (by simp[below])
    have eov:(opW o nme b w1).vs=w2.vs:=by
     rw[opW,←hw2];split
     ·rfl
     ·split<;>rfl
    have eoc:(opW o nme b w1).count=w2.count:=by rw[lQ,h2c]
    have hwb:IntKind.i64.wrap ((b:Int)+1)=((b+1:Nat):Int):=by rw[ah (by omega) (by omega)];omega
    have hstw:stW fns k b (.mk o nme a bd el) wi=qo fns k (b+1) el (qo fns k (b+1) bd (opW o nme b w1)):=by
     rw[stW]
     simp only[hw1,qo,Nat.succ_pos,if_true]
     rfl
    have hrns:(rnS fns k b (.mk o nme a bd el) wi).cs=[.int .i64 o,.str (opN o nme w1),exL (dj w1.vs a),smL (cG fns k (b+1) bd (opW o nme b w1)),smL (cG fns k (b+1) el (qo fns k (b+1) bd (opW o nme b w1)))]:=by
     rw[rnS,Sm.cs_eq]
     simp only[hw1,qo,Nat.succ_pos,if_true,Sm.op,Sm.name,Sm.args,Sm.body,Sm.els,e1v]
     have:opN o nme wi=opN o nme w1:=by simp only[opN,e1v,e1c]
     rw[this]
    rw[hstw] at eW
    clear hstw
    generalize opW o nme b w1=w3 at eov eoc hrns eW⊢
    have hn3:nf2=true→w3.vs=[]:=fun h=>by rw[eov];exact hn2 h
    have h3v:w3.vs.length≤w3.count:=by rw[eov,eoc];exact h2v
    simp-implicitDefEqProofs[hwb]
    refine(EY G (id:=3) (ih bd (by omega) (b+1) nf2 w3 hn3 h3v (by omega) (by omega)) (by simp) (by simp[below]) (by decide) rfl rfl).mono ?_
    rintro r h' ⟨nf4,w4,rfl,rfl,hn4,hw4⟩
    rw[←hw4] at hrns eW
    have h4c:w4.count=w3.count+bS bd:=by rw[hw4];exact At _ _ _ _ _
    have h4v:w4.vs.length≤w4.count:=by
     have:w4.vs=w3.vs:=by rw[hw4];simp[qo,WS.back]
     rw[this,h4c];omega
    simp-implicitDefEqProofs[aa,hwb]
    refine(EY G (id:=5) (ih el (by omega) (b+1) nf4 w4 hn4 h4v (by omega) (by omega)) (by simp) (by simp[below]) (by decide) rfl rfl).mono ?_
    rintro r h' ⟨nf5,w5,rfl,rfl,hn5,hw5⟩
    rw[←hw5] at eW
    have hsl2:(smR out).length=i:=by rw[gd];exact hol
    simp-implicitDefEqProofs[aa,hsl2]
    refine⟨⟨by omega,by omega⟩,⟨i+1,nf5⟩,⟨by simp only;omega,fun h=>by simp only at h⊢;rw[eW];exact hn5 h⟩,by simp only;omega,?_⟩
    simp only
    rw[eW,eR,xK]
    have htk:List.take i (smR out)=smR out:=List.take_of_length_le (by omega)
    rw[htk]
    have hsm1:smR [rnS fns k b (.mk o nme a bd el) wi]=[[.p (.int .i64 o),.p (.str (opN o nme w1)),.p (exL (dj w1.vs a)),.p (smL (cG fns k (b+1) bd w3)),.p (smL (cG fns k (b+1) el w4))]]:=by rw[smR,List.map_singleton,hrns];rfl
    rw[hsm1]
    refine fk [0,1,8,6] (by simp) (by decide) (by decide) (tL (by simp) rfl (eL (by simp) (bs rfl (fun x hx=>?_) (du rfl (gq _ _ _) cQ)))) (by simp[below,ren,hsl,show IntKind.i64.wrap ((i:Int)+1)=((i:Int)+1) from ah (by omega) (by omega)])
    rcases List.mem_append.1 hx with h|h
    ·exact dR out x h
    ·rw[List.mem_singleton.1 h];simp
   ·simp at h
    have hie:i=l.length:=by omega
    subst hie
    rw[List.take_length] at hn⊢
    obtain⟨ext,hext⟩:=yf fns k l b w
    have hlen:=uW fns k b l w
    refine lg (al 96 [(7,.p (smL (cG fns k b l w)))]) [wO 2 nf fns k (qo fns k b l w),.dead,roC nf (qo fns k b l w).vs] ?_ ?_
    ·have fin:∀(r1:List (Nat × AV)) (w':WS),w'.vs=w.vs∨w'.vs=(bn fns k b l w).vs→(Aw.look r1 7= .sl 2 5 0 l.length)→
      Wk 2 (al 96 r1) [wO 3 nf fns k w',.dead,.row 5 (smR (cG fns k b l w)),roC nf (bn fns k b l w).vs] (al 96 [(7,.p (smL (cG fns k b l w)))]) [wO 2 nf fns k w',.dead,roC nf w'.vs]:=by
      intro r1 w' hv' hr
      refine Wk.trans (tp (h1:=[wO 3 nf fns k w',.dead,.row 5 (smR (cG fns k b l w)),roC nf w'.vs]) ?_) (Wk.trans (fk (l1:=[(7,.sl 3 5 0 l.length)]) (h1:=[wO 2 nf fns k w',.dead,roC nf w'.vs,.row 5 (smR (cG fns k b l w))]) [0,1,3,2] (by simp) (by decide) (by decide) (tL (by simp) rfl (eL (by simp) (du rfl (gq _ _ _) (bs rfl (dR _) cQ)))) (by simp[below,ren,hr]))
       (mz 3 (by omega) (by simp) rfl (.same (sv (by omega)) (.dead (.same (gq _ _ _) (.nil _)))) ?_))
      ·refine⟨.inl rfl,.inl rfl,.inl rfl,?_,trivial⟩
       rcases hv' with e|e
       ·cases nf with
        |true=>exact .inl rfl
        |false=>
         refine .inr ⟨3,lvR (bn fns k b l w).vs,w.vs.length,rfl,?_⟩
         rw[hext,Gh,e];rfl
       ·rw[e];exact .inl rfl
      ·rw[←hlen]
       exact⟨.one (ko rfl) .nil,trivial⟩
     by_cases hb0:0<b
     ·have hwe:qo fns k b l w=(bn fns k b l w).back w.vs:=if_pos hb0
      rw[hwe]
      have hll2:(bn fns k b l w).vs.length=ext.length+w.vs.length:=by rw[hext,List.length_append]
      cases nf with
      |true=>
       have h0:=hn rfl
       rw[h0] at hext
       have h00:w.vs=[]:=(List.append_eq_nil_iff.1 hext.symm).2
       simp-implicitDefEqProofs[hb0,wO,wC,vaC,h00]
       rw[h00] at fin
       exact fin _ ⟨[],(bn fns k b l w).count,(bn fns k b l w).code⟩ (.inl rfl) (by simp)
      |false=>
       have hle:w.vs.length≤(bn fns k b l w).vs.length:=by omega
       simp-implicitDefEqProofs[hb0,wO,wC,vaC,hle]
       exact fin _ ⟨w.vs,(bn fns k b l w).count,(bn fns k b l w).code⟩ (.inl rfl) (by simp)
     ·have hwe:qo fns k b l w=bn fns k b l w:=if_neg hb0
      have hb0':b=0:=by omega
      subst hb0'
      rw[hwe]
      simp-implicitDefEqProofs[]
      exact fin _ _ (.inr rfl) (by simp)
    ·simp-implicitDefEqProofs[]
     refine⟨nf,_,rfl,rfl,?_,rfl⟩
     intro hnf
     have h0:=hn hnf
     unfold qo
     split
     ·rw[h0] at hext;exact(List.append_eq_nil_iff.1 hext.symm).2
     ·exact h0
end Go.Proofs.YtnjbhgpbgmpkcaaGreatDoor
namespace Go.Proofs.YtnjbhgpbgmpkcaaGreatDoor
open Go Go.Aw
set_option maxRecDepth 100000
set_option maxHeartbeats 4000000
def K_spec_l4Fn:AK:= .seq (.reg [oJ 2 (.box 1 (.t 0)),oJ 4 (.alloc [(.p (.str [])),.nils,.nils]),oK 5 0,oK 6 0]) (.seq (.reg [oJ 11 (.ld (some 1) (.t 2)),oM 12 1,oJ 13 (.bld [.nils,(.p (.int .i64 0)),.nils,(.p (.int .i64 0)),(.p (.int .i64 0))] [(0,1,(.t 11)),(1,1,(.t 12))]),oJ 14 (.box 5 (.t 13)),oM 7 14]) (.cut (.reg [oF 15 0 2,oL 16 15,oM 17 1,oJ 18 (.idxS 3 (.t 16) (.t 17)),oJ 19 (.ld (some 3) (.t 18)),oJ 8 (.alloc [(.p (.str [])),.nils,.nils]),⟨none,none,.st 3 (.t 8) (.t 19)⟩]) (.cut (.seq (.reg [oJ 20 (.ld (some 1) (.t 2)),oF 21 0 8,oL 22 21,oJ 23 (.call gB [(.t 20),(.t 22)]),oM 24 1,oJ 25 (.bin .neq (.t 23) (.t 24))]) (.cond (.t 25) (.reg [oM 26 7,oJ 27 (.call aR [(.t 26),(.c (.p (.int .i64 2)))])]) (.skip))) (.seq (.reg [oJ 28 (.bsl 1 [(.p (.str []))] 0 []),oM 9 28]) (.seq (.seq (.reg [oK 10 0]) (.blk 0 (.loop (.seq (.seq (.reg [oM 29 10,oF 30 1 8,oL 31 30,oJ 32 (.len false (.t 31)),oJ 33 (.bin .lss (.t 29) (.t 32))]) (.cond (.t 33) (.skip) (.exit 0))) (.seq (.blk 1 (.reg [oM 36 9,oM 37 7,oF 38 1 8,oL 39 38,oM 40 10,oJ 41 (.idxS 1 (.t 39) (.t 40)),oL 42 41,oJ 43 (.call cw [(.t 37),(.t 42),(.c (.p (.int .i64 0)))]),oJ 44 (.bsl 1 [(.p (.str []))] 1 [(0,1,(.t 43))]),oJ 45 (.app 1 16 (.t 36) (.t 44)),oM 9 45])) (.reg [oM 34 10,oJ 35 (.bin .add (.t 34) (.c (.p (.int .i64 1)))),oM 10 35])))))) (.seq (.reg [oM 46 9,oF 47 1 8,oS 47 46]) (.seq (.reg [oM 48 7,oF 49 2 8,oL 50 49,oJ 51 (.call bq [(.t 48),(.t 50),(.c (.p (.int .i64 0)))]),oF 52 2 8,oS 52 51]) (.seq (.reg [oM 54 7,oN 55 54,oF 56 4 55,oM 58 7,oN 59 58,oF 60 3 59,oJ 53 (.ld (some 3) (.t 8)),oL 57 56,oL 61 60,⟨none,none,.st 3 (.t 4) (.t 53)⟩,⟨none,none,.chk none 56 57⟩,⟨none,none,.chk none 60 61⟩,oM 5 57,oM 6 61]) (.ret)))))))))
theorem yD:K_spec_l4Fn.whole=F_spec_l4Fn.ak:=rfl
theorem zB:∀(ps:List (List UInt8)) (w:WS),w.vs.length≤w.count→(bH ps w).vs.length≤(bH ps w).count
 |[],w,h=>h
 |s::r,w,h=>zB r (eZ w s 0) (by simp[eZ];omega)
theorem Dz(a b:List (List UInt8))(w:WS):bH (a++b) w=bH b (bH a w):=by simp[bH]
theorem Ad{l:List (List UInt8)}{w:WS}{i:Nat}(h:i<l.length):bH (l.take (i+1)) w=eZ (bH (l.take i) w) l[i] 0:=by
 rw[an h,Dz];rfl
theorem yp:∀(a b:List (List UInt8)) (w:WS),fI (a++b) w=fI a w++fI b (bH a w)
 |[],b,w=>rfl
 |s::r,b,w=>by rw[List.cons_append,fI,fI,yp r];rfl
theorem DD{l:List (List UInt8)}{w:WS}{i:Nat}(h:i<l.length):fI (l.take (i+1)) w=fI (l.take i) w++[vnm (bH (l.take i) w).count]:=by
 rw[an h,yp];rfl
theorem uG:∀(l:List (List UInt8)) (w:WS),(fI l w).length=l.length
 |[],w=>rfl
 |s::r,w=>by rw[fI,List.length_cons,uG r,List.length_cons]
def w0(fns:List Fd)(k:Nat)(f:Fd):WS:=⟨[],0,if bW fns f.name=some k then 0 else 2⟩
theorem Kb(fns:List Fd)(k:Nat)(f:Fd):fnW fns k f=bn fns k 0 f.body (bH f.params (w0 fns k f)):=rfl
theorem AF(fns:List Fd)(k:Nat)(f:Fd):(rnF fns k f).cs=[.str f.name,au (fI f.params (w0 fns k f)),smL (cG fns k 0 f.body (bH f.params (w0 fns k f)))]:=rfl
variable (G:aC)
theorem Gx{fns:List Fd}{k:Nat}{f:Fd}(hk:fns[k]?=some f)(hz:aO fns≤1073741824):VF Tryz.prog G iY [.agg [.p (fdL fns)],.p (.int .i64 k)] (.tup [.agg ((rnF fns k f).cs.map .p),.p (.int .i64 (fnW fns k f).code),.p (.int .i64 (fnW fns k f).count)]):=by
 have hfl:=bX fns
 have hfm:=cg (List.mem_of_getElem? hk)
 have hfz:f.sz=1+f.name.length+(f.params.length+(f.params.map List.length).sum)+am f.body:=rfl
 have hkl:=(List.getElem?_eq_some_iff.1 hk).1
 have key:AC Tryz.prog G iY [.agg [.p (fdL fns)],.p (.int .i64 k)] [] fun x h=>x= .ret (.tup [.agg [.p (.str f.name),.sl 5 1 0 f.params.length,.p (smL (cG fns k 0 f.body (bH f.params (w0 fns k f))))],.p (.int .i64 (fnW fns k f).code),.p (.int .i64 (fnW fns k f).count)])∧h[5]?=some (ga (fI f.params (w0 fns k f))):=by
  refine AC.goK yX yD ?_
  have hfd:∀l,fdL l= .lst 3 (l.map Fd.cs):=fun _=>rfl
  have hcs:f.cs=[.str f.name,au f.params,smL f.body]:=rfl
  have hst:au f.params= .lst 1 (f.params.map fun w=>[.str w]):=rfl
  simp-implicitDefEqProofs[K_spec_l4Fn,F_spec_l4Fn]
  refine lg (al 62 [(1,.p (.int .i64 k)),(2,.ptr 0 1 0 0),(4,.ptr 1 3 0 0),(7,.ptr 2 5 0 0),(8,.ptr 3 3 0 0)])
   [.row 1 [[.p (fdL fns)]],.row 3 [[.p (.str []),.nils,.nils]],wO 4 true fns k ⟨[],0,0⟩,.row 3 [[.p (.str f.name),.p (au f.params),.p (smL f.body)]],.dead] ?_ ?_
  ·simp-implicitDefEqProofs[hfd,hk,hcs]
   refine ic (h:=[.row 1 [[.p (fdL fns)]],.row 3 [[.p (.str []),.nils,.nils]],wO 4 true fns k ⟨[],0,0⟩,.row 3 [[.p (.str f.name),.p (au f.params),.p (smL f.body)]]]) (by simp) (by simp) ?_ (by simp[below])
   refine ae (by simp[okO,below]) (ae (by simp[okO,below]) (ae ?_ (ae (by simp[okO,below]) dv)))
   intro x hx
   rw[List.mem_singleton.1 hx];simp[wC,vaC,below]
  refine lg (al 62 [(1,.p (.int .i64 k)),(2,.ptr 0 1 0 0),(4,.ptr 1 3 0 0),(7,.ptr 2 5 0 0),(8,.ptr 3 3 0 0)])
   [.row 1 [[.p (fdL fns)]],.row 3 [[.p (.str []),.nils,.nils]],wO 4 true fns k (w0 fns k f),.row 3 [[.p (.str f.name),.p (au f.params),.p (smL f.body)]],.dead] ?_ ?_
  ·simp-implicitDefEqProofs[]
   refine(GD G fns f.name (by omega)).use ?_
   have hok:∀w:WS,∀o∈[AO.row 1 [[.p (fdL fns)]],.row 3 [[.p (.str []),.nils,.nils]],wO 4 true fns k w,.row 3 [[.p (.str f.name),.p (au f.params),.p (smL f.body)]],.dead],okO 5 o:=fun w=>
    ae (by simp[okO,below]) (ae (by simp[okO,below]) (ae (sv (by simp)) (ae (by simp[okO,below]) (ae trivial dv))))
   by_cases he:bW fns f.name=some k
   ·have hw:w0 fns k f=⟨[],0,0⟩:=by rw[w0,if_pos he]
    rw[hw,he]
    simp-implicitDefEqProofs[ixI]
    exact ab (by simp) (hok _) (by simp[below])
   ·have hw:w0 fns k f=⟨[],0,2⟩:=by rw[w0,if_neg he]
    have hne:¬ixI (bW fns f.name)=(k:Int):=by
     intro h
     apply he
     cases e:bW fns f.name with
     |none=>rw[e] at h;simp only[ixI] at h;omega
     |some j=>rw[e] at h;simp only[ixI] at h;have:j=k:=by omega
              rw[this]
    rw[hw]
    simp-implicitDefEqProofs[hne]
    refine(JW G (wid:=2) (id:=4) (oq G true fns k ⟨[],0,0⟩ 2) (by simp) (by simp[below]) (by decide) rfl rfl).mono ?_
    rintro r h' ⟨rfl,rfl⟩
    simp-implicitDefEqProofs[aa]
    exact ab (h:=[AO.row 1 [[.p (fdL fns)]],.row 3 [[.p (.str []),.nils,.nils]],wO 4 true fns k ⟨[],0,2⟩,.row 3 [[.p (.str f.name),.p (au f.params),.p (smL f.body)]],.dead]) (by simp) (hok _) (by simp[below])
  rw[Kb]
  have hw0v:(w0 fns k f).vs=[]:=rfl
  have hw0c:(w0 fns k f).count=0:=rfl
  generalize w0 fns k f=w0 at hw0v hw0c⊢
  simp-implicitDefEqProofs[]
  have hcnt:∀j,j≤f.params.length→(bH (f.params.take j) w0).count=j:=fun j hj=>by rw[kI,hw0c];simp;omega
  have hvl:∀j,(bH (f.params.take j) w0).vs.length≤(bH (f.params.take j) w0).count:=fun j=>zB _ _ (by rw[hw0v];simp)
  refine aN (fun j:Nat=>al 62 [(1,.p (.int .i64 k)),(2,.ptr 0 1 0 0),(4,.ptr 1 3 0 0),(7,.ptr 2 5 0 0),(8,.ptr 3 3 0 0),(9,.sl 5 1 0 j),(10,.p (.int .i64 j))])
   (fun j=>[.row 1 [[.p (fdL fns)]],.row 3 [[.p (.str []),.nils,.nils]],wO 6 (decide (j=0)) fns k (bH (f.params.take j) w0),.row 3 [[.p (.str f.name),.p (au f.params),.p (smL f.body)]],.dead,ga (fI (f.params.take j) w0),roC (decide (j=0)) (bH (f.params.take j) w0).vs])
   (fun j=>j≤f.params.length) (fun j=>f.params.length-j) 0 (by simp) ?_ ?_
  ·refine ic (h:=[.row 1 [[.p (fdL fns)]],.row 3 [[.p (.str []),.nils,.nils]],wO 6 true fns k w0,.row 3 [[.p (.str f.name),.p (au f.params),.p (smL f.body)]],.dead,.row 1 []]) (by simp) (by simp) ?_ (by simp[below])
   refine ae (by simp[okO,below]) (ae (by simp[okO,below]) (ae ?_ (ae (by simp[okO,below]) (ae trivial (ae (by simp[okO]) dv)))))
   intro x hx
   rw[List.mem_singleton.1 hx];simp[wC,vaC,below]
  intro j hj
  have hjc:=hcnt j hj
  have hjv:=hvl j
  have hol:=uG (f.params.take j) w0
  rw[List.length_take,Nat.min_eq_left hj] at hol
  have hnf:decide (j=0)=true→(bH (f.params.take j) w0).vs=[]:=by
   intro h
   have h0:j=0:=by simpa using h
   rw[h0,List.take_zero]
   exact hw0v
  simp-implicitDefEqProofs[hst]
  refine bc (fun h=>?_) (fun h=>?_)
  ·simp at h
   have hg:=List.getElem?_eq_getElem h
   have eP:=Ad (w:=w0) h
   have eR:=DD (w:=w0) h
   simp-implicitDefEqProofs[hg]
   refine(EY G (wid:=2) (id:=6) (Q:=fun nf' w'=>nf'=false∧w'=eZ (bH (f.params.take j) w0) f.params[j] 0) ((Gu G (decide (j=0)) fns k _ hnf (by omega) (by omega) f.params[j] 0).mono (by rintro x h ⟨rfl,rfl⟩;exact⟨false,_,rfl,rfl,rfl,rfl⟩)) (by simp) (by simp[below]) (by decide) rfl rfl).mono ?_
   rintro r h' ⟨nf',w',rfl,rfl,rfl,rfl⟩
   have hso:∀l,ga l= .row 1 (l.map fun n=>[.p (.str n)]):=fun _=>rfl
   simp-implicitDefEqProofs[aa,hso,hol]
   refine⟨by omega,j+1,by omega,by omega,?_⟩
   have htk:List.take j ((fI (f.params.take j) w0).map fun n=>[AV.p (.str n)])=(fI (f.params.take j) w0).map fun n=>[AV.p (.str n)]:=List.take_of_length_le (by rw[List.length_map];omega)
   have hd:decide (j+1=0)=false:=by simp
   rw[eP,eR,hd,List.map_append,←List.map_take,List.map_take,htk]
   refine zp [0,1,2,3,4,9,7] rfl (by decide) (bs rfl (by simp) (bs rfl (by simp[below]) (tL (by simp) rfl (bs rfl (by simp) (eL (by simp) (bs rfl (fun x hx=>?_) (du rfl (gq _ _ _) cQ))))))) (by simp[below,ren,w1 (i:=j) (by omega)])
   rcases List.mem_append.1 hx with h|h
   ·exact lL _ x h
   ·exact lL _ x h
  ·simp at h
   have hje:j=f.params.length:=by omega
   subst hje
   rw[List.take_length] at hol hjc hjv hnf⊢
   generalize decide (f.params.length=0)=nf at hnf⊢
   simp-implicitDefEqProofs[]
   refine(EY G (wid:=2) (id:=6) (GJ G (fns:=fns) (by omega) (am f.body+1) f.body (by omega) 0 _ (bH f.params w0) hnf hjv (by omega) (by omega)) (by simp) (by simp[below]) (by decide) rfl rfl).mono ?_
   rintro r h' ⟨nf',w',rfl,rfl,hn',hw'⟩
   have hb:qo fns k 0 f.body (bH f.params w0)=bn fns k 0 f.body (bH f.params w0):=rfl
   rw[hb] at hw'
   rw[←hw']
   simp-implicitDefEqProofs[aa,wO,wC]
 refine key.freezeR (fun t v h ⟨e,_⟩=>by cases e) fun v h ⟨e1,e2⟩=>?_
 cases e1
 rw[AF]
 have hol:=uG f.params (w0 fns k f)
 have hv:=iJ e2
 rw[hol] at hv
 exact .tup (.agg (.keep (by simp) (.one hv (.keep (by simp) .nil))) (.keep (by simp) (.keep (by simp) .nil))) .nil
theorem zI{fns:List Fd}{i:Nat}(h:i<fns.length):iI fns i (fns.drop i)=if(fnW fns i fns[i]).code=0 then iI fns (i+1) (fns.drop (i+1)) else(fnW fns i fns[i]).code:=by
 rw[List.drop_eq_getElem_cons h,iI]
theorem vD(l:List Fd)(hz:aO l≤1073741824):VF Tryz.prog G fK [.agg [.p (fdL l)]] (.p (.int .i64 (bD l))):=by
 refine AC.go pm ?_
 have hll:=bX l
 have hfd:∀l,fdL l= .lst 3 (l.map Fd.cs):=fun _=>rfl
 simp-implicitDefEqProofs[jy]
 refine(ke G l (by omega)).use ?_
 by_cases hv:bu l=true
 case neg=>
  have:bD l=1:=if_neg hv
  have hv':bu l=false:=by simpa using hv
  simp-implicitDefEqProofs[hv',this]
 have hc:bD l=iI l 0 (l.drop 0):=if_pos hv
 rw[hc]
 simp-implicitDefEqProofs[hv]
 refine aN (fun i:Nat=>al 27 [(1,.ptr 0 1 0 0),(3,.p (.int .i64 i))]) (fun _=>[.row 1 [[.p (fdL l)]]]) (fun i=>i≤l.length∧iI l 0 l=iI l i (l.drop i)) (fun i=>l.length-i) 0 (by simp) (ab (by simp) (by simp[okO]) (by simp[below])) ?_
 rintro i ⟨hi,he⟩
 simp-implicitDefEqProofs[hfd]
 refine bc (fun h=>?_) (fun h=>?_)
 ·simp at h
  have hg:=List.getElem?_eq_getElem h
  have hd:=zI h
  simp-implicitDefEqProofs[]
  refine(Gx G hg hz).use ?_
  have hrc:=AF l i l[i]
  by_cases h0:(fnW l i l[i]).code=0
  ·rw[if_pos h0] at hd
   simp-implicitDefEqProofs[h0,hrc]
   refine⟨i+1,⟨by omega,by rw[he,hd]⟩,by omega,?_⟩
   refine gH (m:=1) (by omega) (dQ rfl rfl (by simp[okO,below])) (by simp[below,hfd,w1 (i:=i) (by omega)])
  ·rw[if_neg h0] at hd
   simp-implicitDefEqProofs[h0,hrc]
   rw[he,hd]
 ·simp at h
  have hie:i=l.length:=by omega
  subst hie
  rw[List.drop_length] at he
  simp-implicitDefEqProofs[]
  rw[he];rfl
end Go.Proofs.YtnjbhgpbgmpkcaaGreatDoor
namespace Go.Proofs.YtnjbhgpbgmpkcaaGreatDoor
open Go Go.Aw
set_option maxRecDepth 100000
set_option maxHeartbeats 4000000
def iC(f:Fd):Nat:=f.params.length+bS f.body
def xl(l:List Fd)(k:Int):Int:=if bD l=0∧inR k 0 ((l.length:Int)-1)=true then(match l[k.toNat]? with|some f=>(iC f:Int)|none=> -1) else-1
def sF(st:Int)(x:Sm × Nat):Int:=if x.1.op=1 then IntKind.i64.wrap (st+1) else st
mutual
theorem IQ:∀(s:Sm) (d:Nat) (st:Int),0≤st→st+jf s≤1099511627776→(s.pre d).foldl sF st=st+jf s
 | .mk o n a bd el,d,st,h0,h=>by
   rw[jf] at h
   have h1:=tn bd (d+1)
   have h2:=tn el (d+1)
   rw[Sm.pre,List.foldl_cons,List.foldl_append,jf]
   by_cases ho:o=1
   ·have e:sF st (⟨o,n,a,bd,el⟩,d)=st+1:=by show(if o=1 then _ else _)=_;rw[if_pos ho,ah (by omega) (by rw[if_pos ho] at h;omega)]
    rw[if_pos ho] at h⊢
    rw[e,h1 _ (by omega) (by omega),h2 _ (by omega) (by omega)]
    omega
   ·have e:sF st (⟨o,n,a,bd,el⟩,d)=st:=by show(if o=1 then _ else _)=_;rw[if_neg ho]
    rw[if_neg ho] at h⊢
    rw[e,h1 _ (by omega) (by omega),h2 _ (by omega) (by omega)]
    omega
theorem tn:∀(l:List Sm) (d:Nat) (st:Int),0≤st→st+bS l≤1099511627776→(aW d l).foldl sF st=st+bS l
 |[],d,st,_,_=>by simp[aW,bS]
 |s::r,d,st,h0,h=>by
  rw[bS] at h
  rw[aW,List.foldl_append,IQ s d st h0 (by omega),tn r d _ (by omega) (by omega),bS]
  omega
end
def Bg(f:Fd):Vis Int where
 I:=fun st=>[.row 3 [[.p (.str f.name),.p (au f.params),.p (smL f.body)]],.row 1 [[.p (.int .i64 st)]]]
 n:=2
 F:=eM
 caps:=[.ptr 1 1 0 0]
 len:=fun _=>rfl
 ok:=fun st=>by simp[okO,below]
 capsOk:=by simp[below]
variable (G:aC)
theorem xv(f:Fd)(st:Int)(s:Sm)(d:Nat):AC Tryz.prog G eM [.agg (s.cs.map .p),.p (.int .i64 d),.ptr 1 1 0 0] ((Bg f).I st) fun x h=>x= .ret (.tup [])∧h=(Bg f).I (sF st (s,d)):=by
 refine(Bg f).trim G (AC.go re ?_) (by simp[below])
 have hse:=s.cs_eq
 by_cases ho:s.op=1
 ·simp-implicitDefEqProofs[gS,hse,Bg,sF,ho]
 ·simp-implicitDefEqProofs[gS,hse,Bg,sF,ho]
theorem tQ(f:Fd)(hb:f.sz≤1073741824):VF Tryz.prog G gm [.agg (f.cs.map .p)] (.p (.int .i64 (iC f))):=by
 have hcs:=f.cs_eq'
 have hfz:f.sz=1+f.name.length+(f.params.length+(f.params.map List.length).sum)+am f.body:=rfl
 have hl:=nL f.body
 have hl2:=ma f.body
 have hst:au f.params= .lst 1 (f.params.map fun w=>[.str w]):=rfl
 have hI:=(BK G (Bg f) sF (fun _=>True) 1073741824 (by omega) (fun st s d _ _=>⟨trivial,xv G f st s d⟩) (am f.body+1) f.body (by omega) (by omega) 1 (by omega) (f.params.length:Int) trivial).2
 rw[tn f.body 1 f.params.length (by omega) (by omega)] at hI
 refine AC.go tk ?_
 simp-implicitDefEqProofs[mH,hcs,hst]
 refine hI.mono ?_
 rintro r h ⟨rfl,rfl⟩
 simp-implicitDefEqProofs[aa,Bg,iC]
theorem FS(l:List Fd)(hz:aO l≤1073741824):VF Tryz.prog G kQ [.agg [.p (fdL l)]] (.p (.bool (decide (bD l=0)))):=by
 refine AC.go vV ?_
 simp-implicitDefEqProofs[pK]
 refine(vD G l hz).use ?_
 simp-implicitDefEqProofs[]
variable (hK:G fC=some ff) (hS:G db=some [.tbl opK opV])
include hK hS
theorem AQ(l:List Fd)(hz:aO l≤1073741824):VF Tryz.prog G iW [.agg [.p (fdL l)]] (.p (.bool (decide (bD l=0)))):=by
 refine AC.go yi ?_
 simp-implicitDefEqProofs[sP]
 refine(mX G hK hS l hz).use ?_
 simp-implicitDefEqProofs[]
theorem sE(l:List Fd)(hz:aO l≤1073741824)(k:Int):VF Tryz.prog G fq [.agg [.p (fdL l)],.p (.int .i64 k)] (.p (.int .i64 (xl l k))):=by
 refine AC.go rJ ?_
 have hll:=bX l
 have hfl:fdL l= .lst 3 (l.map Fd.cs):=rfl
 have hw:IntKind.i64.wrap ((l.length:Int)-1)=(l.length:Int)-1:=ah (by omega) (by omega)
 simp-implicitDefEqProofs[ln]
 refine(AQ G hK hS l hz).use ?_
 by_cases h0:bD l=0
 case neg=>
  have:xl l k= -1:=if_neg (fun h=>h0 h.1)
  simp-implicitDefEqProofs[h0,this]
 simp-implicitDefEqProofs[h0,hfl,hw]
 refine(jU G _ _ _).use ?_
 by_cases h1:inR k 0 ((l.length:Int)-1)=true
 case neg=>
  have h1':inR k 0 ((l.length:Int)-1)=false:=by simpa using h1
  have:xl l k= -1:=if_neg (fun h=>h1 h.2)
  rw[h1',this]
  simp-implicitDefEqProofs[]
 have hk:0≤k∧k≤(l.length:Int)-1:=by simpa[inR] using h1
 obtain⟨n,rfl⟩:∃n:Nat,k=n:=⟨k.toNat,by omega⟩
 have hn:n<l.length:=by omega
 have hg:=List.getElem?_eq_getElem hn
 have hc:xl l n=(iC l[n]:Int):=by rw[xl,if_pos ⟨h0,h1⟩];simp only[Int.toNat_natCast,hg]
 have hm:=cg (List.getElem_mem hn)
 have hV:=tQ G l[n] (by omega)
 have hcs:=l[n].cs_eq'
 rw[h1,hc]
 generalize l[n]=f at*
 rw[hcs] at hV
 simp-implicitDefEqProofs[hg,hcs]
 refine hV.use ?_
 simp-implicitDefEqProofs[]
end Go.Proofs.YtnjbhgpbgmpkcaaGreatDoor
namespace Go.Proofs.YtnjbhgpbgmpkcaaGreatDoor
open Go Go.Aw
set_option maxRecDepth 100000
def irN(ch:List Scp)(s:List UInt8):List UInt8:=vnm ((eS ch s).getD 0)
mutual
def irE(ch:List Scp):Ex→Ex
 | .mk o n s ks=> .mk o n (if o=2 then irN ch s else s) (lH ch ks)
def lH(ch:List Scp):List Ex→List Ex
 |[]=>[]
 |e::r=>irE ch e::lH ch r
end
mutual
def irS:Sm→Scp→List Scp→Nat→Sm × Scp × Nat
 | .mk o s a bd el,m,up,n=>
   let m2:=opS o s m n
   let n2:=if o=1 then n+1 else n
   let x:=dY bd [] (m2::up) n2
   let y:=dY el [] (m2::up) x.2.2
   (.mk o (if o=1 then vnm n else if o=2 then irN (m::up) s else s) (lH (m::up) a) x.1 y.1,m2,y.2.2)
def dY:List Sm→Scp→List Scp→Nat→List Sm × Scp × Nat
 |[],m,_,n=>([],m,n)
 |s::r,m,up,n=>
  let x:=irS s m up n
  let y:=dY r x.2.1 up x.2.2
  (x.1::y.1,y.2.1,y.2.2)
end
def fg:List (List UInt8)→Scp→Nat→List (List UInt8) × Scp × Nat
 |[],m,n=>([],m,n)
 |s::r,m,n=>let y:=fg r (fm m s n) (n+1);(vnm n::y.1,y.2.1,y.2.2)
def irF(f:Fd):Fd:=
 let x:=fg f.params [] 0
 ⟨f.name,x.1,(dY f.body x.2.1 [] x.2.2).1⟩
theorem rE{vs:List LV}{s:List UInt8}{c:Int}(h:c≠0):lU vs s c=c:=by unfold lU;split<;>simp[uJ h]
theorem AE{fns:List Fd}{k:Nat}{s:List UInt8}{n:Nat}{c:Int}(h:c≠0):lz fns k s n c=c:=by
 unfold lz
 simp only[uJ h]
 split
 ·rfl
 ·split
  ·rfl
  ·split<;>rfl
theorem Al{fns:List Fd}{k:Nat}{vs:List LV}{o:Int}{s:List UInt8}{n:Nat}{c:Int}(h:c≠0):gX fns k vs o s n c=c:=by
 unfold gX
 rw[rE h,AE h]
 split
 ·rfl
 ·split<;>rfl
mutual
theorem Cy(fns:List Fd)(k:Nat)(vs:List LV){c:Int}(h:c≠0):∀e:Ex,mP fns k vs e c=c
 | .mk o n s ks=>by rw[mP,Al h,lW fns k vs h ks]
theorem lW(fns:List Fd)(k:Nat)(vs:List LV){c:Int}(h:c≠0):∀l:List Ex,bg fns k vs l c=c
 |[]=>rfl
 |e::r=>by rw[bg,Cy fns k vs h e,lW fns k vs h r]
end
theorem gu{fns:List Fd}{k:Nat}{vs:List LV}{l:List Ex}{c:Int}(h:bg fns k vs l c=0):c=0:=by
 by_cases hc:c=0
 ·exact hc
 ·rw[lW fns k vs hc] at h;exact h
theorem oo{vs:List LV}{s:List UInt8}{c:Int}(h:lU vs s c=0):c=0∧∃v,lkV vs s=some v:=by
 by_cases hc:c=0
 ·refine⟨hc,?_⟩
  unfold lU at h
  cases e:lkV vs s with
  |some v=>exact⟨v,rfl⟩
  |none=>rw[e] at h;simp[fl,hc] at h
 ·rw[rE hc] at h;exact absurd h hc
abbrev gN:LV→Nat:=fun v=>v.num
theorem By{b:Nat}{vs:List LV}{ch:List Scp}(h:SR gN b vs ch){s:List UInt8}(hv:∃v,lkV vs s=some v):jE vs s=irN ch s:=by
 obtain⟨v,e⟩:=hv
 rw[jE,irN,←h.fnd s,e];rfl
mutual
theorem Jz{fns:List Fd}{k b:Nat}{vs:List LV}{ch:List Scp}(h:SR gN b vs ch):∀(e:Ex) (c:Int),mP fns k vs e c=0→rnE vs e=irE ch e
 | .mk o n s ks,c,hz=>by
   rw[mP] at hz
   rw[rnE,irE,xj h ks _ hz]
   by_cases ho:o=2
   ·have h1:=gu hz
    rw[gX,if_pos ho] at h1
    rw[if_pos ho,if_pos ho,By h (oo h1).2]
   ·rw[if_neg ho,if_neg ho]
theorem xj{fns:List Fd}{k b:Nat}{vs:List LV}{ch:List Scp}(h:SR gN b vs ch):∀(l:List Ex) (c:Int),bg fns k vs l c=0→dj vs l=lH ch l
 |[],c,_=>rfl
 |e::r,c,hz=>by
  rw[bg] at hz
  rw[dj,lH,Jz h e c (gu hz),xj h r _ hz]
end
theorem zk{o:Int}{s:List UInt8}{b:Nat}{w:WS}(h:w.code≠0):(opW o s b w).code=w.code:=by
 unfold opW
 split
 ·simp only[eZ,pk,uJ h]
  split
  ·rfl
  ·split<;>rfl
 ·split
  ·exact rE h
  ·rfl
mutual
theorem Gq(fns:List Fd)(k:Nat):∀(s:Sm) (b:Nat) (w:WS),w.code≠0→(stW fns k b s w).code=w.code
 | .mk o s a bd el,b,w,h=>by
   have e1:(bg fns k w.vs a w.code)=w.code:=lW fns k w.vs h a
   have e2:(opW o s b ⟨w.vs,w.count,bg fns k w.vs a w.code⟩).code=w.code:=by rw[zk]<;>simp only[e1];exact h
   have e3:=om fns k bd (b+1) (opW o s b ⟨w.vs,w.count,bg fns k w.vs a w.code⟩) (by rw[e2];exact h)
   rw[stW,dW,om fns k el _ _ (by rw[dW,e3,e2];exact h),dW,e3,e2]
theorem om(fns:List Fd)(k:Nat):∀(l:List Sm) (b:Nat) (w:WS),w.code≠0→(bn fns k b l w).code=w.code
 |[],b,w,h=>rfl
 |s::r,b,w,h=>by
  have e1:=Gq fns k s b w h
  rw[bn,om fns k r b _ (by rw[e1];exact h),e1]
end
theorem dN{fns:List Fd}{k b:Nat}{l:List Sm}{w:WS}(h:(bn fns k b l w).code=0):w.code=0:=by
 by_cases hc:w.code=0
 ·exact hc
 ·rw[om fns k l b w hc] at h;exact h
theorem vg{o:Int}{s:List UInt8}{b:Nat}{w:WS}(h:(opW o s b w).code=0):w.code=0:=by
 by_cases hc:w.code=0
 ·exact hc
 ·rw[zk hc] at h;exact h
theorem JG{b:Nat}{w:WS}{m:Scp}{up:List Scp}(h:SR gN b w.vs (m::up))(o:Int)(s:List UInt8)(c:Int)(hz:(opW o s b ⟨w.vs,w.count,c⟩).code=0):
 SR gN b (opW o s b ⟨w.vs,w.count,c⟩).vs (opS o s m w.count::up)∧opN o s w=(if o=1 then vnm w.count else if o=2 then irN (m::up) s else s):=by
 unfold opW at hz⊢
 unfold opS opN
 by_cases h1:o=1
 ·simp only[h1,if_true]
  exact⟨h.add s _ _ rfl,trivial⟩
 ·simp only[if_neg h1] at hz⊢
  by_cases h2:o=2
  ·simp only[h2,if_true] at hz⊢
   exact⟨h,By h (oo hz).2⟩
  ·simp only[if_neg h2]
   exact⟨h,trivial⟩
mutual
theorem JC(fns:List Fd)(k:Nat):∀(s:Sm) (b:Nat) (w:WS) (m:Scp) (up:List Scp),SR gN b w.vs (m::up)→(stW fns k b s w).code=0→
 rnS fns k b s w=(irS s m up w.count).1∧SR gN b (stW fns k b s w).vs ((irS s m up w.count).2.1::up)∧(stW fns k b s w).count=(irS s m up w.count).2.2
 | .mk o s a bd el,b,w,m,up,h,hz=>by
   rw[stW,dW] at hz
   have z1:=dN hz
   rw[dW] at z1
   have z2:=dN z1
   have z3:=vg z2
   obtain⟨p1,p2⟩:=JG h o s _ z2
   obtain⟨q1,q2,q3⟩:=tl fns k bd (b+1) _ [] _ p1.open z1
   obtain⟨r1,r2,r3⟩:=tl fns k el (b+1) ((bn fns k (b+1) bd (opW o s b ⟨w.vs,w.count,bg fns k w.vs a w.code⟩)).back (opW o s b ⟨w.vs,w.count,bg fns k w.vs a w.code⟩).vs) [] _ p1.open hz
   have hcn:(opW o s b ⟨w.vs,w.count,bg fns k w.vs a w.code⟩).count=if o=1 then w.count+1 else w.count:=by
    rw[lQ];split<;>rfl
   have hbc:((bn fns k (b+1) bd (opW o s b ⟨w.vs,w.count,bg fns k w.vs a w.code⟩)).back (opW o s b ⟨w.vs,w.count,bg fns k w.vs a w.code⟩).vs).count=(bn fns k (b+1) bd (opW o s b ⟨w.vs,w.count,bg fns k w.vs a w.code⟩)).count:=rfl
   rw[hcn] at q1 q3
   rw[hbc,q3] at r1 r3
   refine⟨?_,p1,?_⟩
   ·rw[rnS,irS]
    simp only
    rw[q1,r1,p2,xj h a _ z3]
   ·rw[stW,irS]
    exact r3
theorem tl(fns:List Fd)(k:Nat):∀(l:List Sm) (b:Nat) (w:WS) (m:Scp) (up:List Scp),SR gN b w.vs (m::up)→(bn fns k b l w).code=0→
 cG fns k b l w=(dY l m up w.count).1∧SR gN b (bn fns k b l w).vs ((dY l m up w.count).2.1::up)∧(bn fns k b l w).count=(dY l m up w.count).2.2
 |[],b,w,m,up,h,hz=>⟨rfl,h,rfl⟩
 |s::r,b,w,m,up,h,hz=>by
  rw[bn] at hz
  obtain⟨p1,p2,p3⟩:=JC fns k s b w m up h (dN hz)
  obtain⟨q1,q2,q3⟩:=tl fns k r b _ _ up p2 hz
  rw[p3] at q1 q2 q3
  refine⟨?_,?_,?_⟩
  ·rw[cG,dY];simp only;rw[p1,q1]
  ·rw[bn,dY];exact q2
  ·rw[bn,dY];exact q3
end
theorem BT:∀(ps:List (List UInt8)) (w:WS) (m:Scp),SR gN 0 w.vs [m]→fI ps w=(fg ps m w.count).1∧SR gN 0 (bH ps w).vs [(fg ps m w.count).2.1]∧(bH ps w).count=(fg ps m w.count).2.2
 |[],w,m,h=>⟨rfl,h,rfl⟩
 |s::r,w,m,h=>by
  obtain⟨a1,a2,a3⟩:=BT r (eZ w s 0) (fm m s w.count) (h.add s w.count w.count rfl)
  have hc:(eZ w s 0).count=w.count+1:=rfl
  rw[hc] at a1 a2 a3
  refine⟨?_,?_,?_⟩
  ·rw[fI,fg];simp only;rw[a1]
  ·rw[fg];exact a2
  ·rw[fg];exact a3
theorem xM(fns:List Fd)(k:Nat)(f:Fd)(h:(fnW fns k f).code=0):rnF fns k f=irF f:=by
 rw[fnW] at h
 obtain⟨p1,p2,p3⟩:=BT f.params ⟨[],0,if bW fns f.name=some k then 0 else 2⟩ [] SR.base
 obtain⟨q1,q2,q3⟩:=tl fns k f.body 0 _ _ [] p2 h
 rw[p3] at q1
 rw[rnF,irF,p1,q1]
end Go.Proofs.YtnjbhgpbgmpkcaaGreatDoor
namespace Go.Proofs.YtnjbhgpbgmpkcaaGreatDoor
open Go Go.Aw
set_option maxRecDepth 100000
theorem sI(fns:List Fd):∀(l:List Fd) (k:Nat),iI fns k l=0↔∀(i:Nat) (f:Fd),l[i]?=some f→(fnW fns (k+i) f).code=0
 |[],k=>by simp[iI]
 |f::r,k=>by
  rw[iI]
  have ih:=sI fns r (k+1)
  constructor
  ·intro h i g hg
   by_cases h0:(fnW fns k f).code=0
   ·rw[if_pos h0] at h
    cases i with
    |zero=>cases hg;exact h0
    |succ i=>have:=ih.1 h i g (by simpa using hg);rwa[show k+(i+1)=k+1+i by omega]
   ·rw[if_neg h0] at h;exact absurd h h0
  ·intro h
   rw[if_pos (by have:=h 0 f rfl;rwa[Nat.add_zero] at this)]
   exact ih.2 fun i g hg=>by have:=h (i+1) g (by simpa using hg);rwa[show k+(i+1)=k+1+i by omega] at this
theorem my(l:List Fd):bD l=0↔bu l=true∧∀(k:Nat) (f:Fd),l[k]?=some f→(fnW l k f).code=0:=by
 unfold bD
 by_cases h:bu l=true
 ·rw[if_pos h,sI];simp[h]
 ·rw[if_neg h];simp[h]
theorem iy(l:List Fd):bu l=true↔(1≤l.length∧l.length≤4)∧(∀f∈l,ig f=true)∧fy l≤40:=by
 simp only[bu,inR,Bool.and_eq_true,decide_eq_true_eq,List.all_eq_true]
 constructor
 ·rintro⟨⟨⟨h1,h2⟩,h3⟩,h4⟩;exact⟨⟨by omega,by omega⟩,h3,h4⟩
 ·rintro⟨⟨h1,h2⟩,h3,h4⟩;exact⟨⟨⟨by omega,by omega⟩,h3⟩,h4⟩
def Fd.cut(f:Fd)(n:Nat):Fd:=⟨f.name,f.params,f.body.take n⟩
end Go.Proofs.YtnjbhgpbgmpkcaaGreatDoor
namespace Go.Proofs.YtnjbhgpbgmpkcaaGreatDoor
open Go Go.Aw
set_option maxRecDepth 100000
set_option maxHeartbeats 4000000
def mA(l:List Fd):Nat→List Fd
 |0=>[]
 |i+1=>mA l i++(match l[i]? with|some f=>[rnF l i f]|none=>[])
def qf(l:List Fd):Bool:=l.all fun f=>decide (iC f≤26)
def dG(l:List Fd):Bool:=decide (bD l=0)&&qf l
def ed(l:List Fd):List Fd:=if dG l=true then l.map irF else[]
theorem yI(l:List Fd):∀i,i≤l.length→(mA l i).length=i
 |0,_=>rfl
 |i+1,h=>by
  have hg:=List.getElem?_eq_getElem (show i<l.length by omega)
  rw[mA,List.length_append,yI l i (by omega),hg];rfl
theorem Cf{l:List Fd}(h:bD l=0):∀i,i≤l.length→mA l i=(l.take i).map irF
 |0,_=>by simp[mA]
 |i+1,hi=>by
  have hl:i<l.length:=by omega
  have hg:=List.getElem?_eq_getElem hl
  rw[mA,Cf h i (by omega),hg,an hl,List.map_append]
  simp only
  rw[xM l i l[i] (((my l).1 h).2 i l[i] hg)];rfl
variable (G:aC)
theorem te(l:List Fd)(hz:aO l≤1073741824):VF Tryz.prog G dw [.agg [.p (fdL l)]] (.tup [.agg [.p (fdL (ed l))],.p (.bool (dG l))]):=by
 have hll:=bX l
 have hfl:∀l,fdL l= .lst 3 (l.map Fd.cs):=fun _=>rfl
 have key:AC Tryz.prog G dw [.agg [.p (fdL l)]] [] fun x h=>∃v,x= .ret (.tup [.agg [v],.p (.bool (dG l))])∧View h v (fdL (ed l)):=by
  refine AC.go nM ?_
  simp-implicitDefEqProofs[jg]
  refine(FS G l hz).use ?_
  by_cases h0:bD l=0
  case neg=>
   have hr:dG l=false:=by simp[dG,h0]
   have hp:ed l=[]:=by simp[ed,hr]
   rw[hr,hp]
   simp-implicitDefEqProofs[h0]
   exact .nils 3
  have hro:dG l=qf l:=by simp[dG,h0]
  have hrp:ed l=if qf l=true then l.map irF else[]:=by rw[ed,hro]
  rw[hro,hrp]
  simp-implicitDefEqProofs[h0]
  have hE:∀i,okO 0 (br 3 (aJ (mA l i))):=fun i=>Cd (jF _)
  have hok:∀i,∀o∈[AO.row 1 [[.p (fdL l)]],.row 1 [[.nils]],.row 1 [[slE 3 3 (aJ (mA l i))]],br 3 (aJ (mA l i))],okO 4 o:=fun i=>
   ae (by simp[okO,below]) (ae (by simp[okO,below]) (ae (by intro e he;rw[List.mem_singleton.1 he];exact⟨mb (by omega),trivial⟩) (ae (bU (hE i)) dv)))
  refine aN (fun i:Nat=>al 38 [(1,.ptr 0 1 0 0),(2,.ptr 1 1 0 0),(4,.ptr 2 1 0 0),(5,.p (.int .i64 i))]) (fun i=>[.row 1 [[.p (fdL l)]],.row 1 [[.nils]],.row 1 [[slE 3 3 (aJ (mA l i))]],br 3 (aJ (mA l i))]) (fun i=>i≤l.length∧∀f∈l.take i,iC f≤26) (fun i=>l.length-i) 0 (by simp) ?_ ?_
  ·have e1:slE 3 3 (aJ (mA l 0))= .nils:=rfl
   have e2:br 3 (aJ (mA l 0))= .dead:=rfl
   rw[e1,e2]
   exact ic (h:=[AO.row 1 [[.p (fdL l)]],.row 1 [[.nils]],.row 1 [[.nils]]]) (by simp) (by simp) (by simp[okO,below]) (by simp[below])
  rintro i ⟨hi,hf⟩
  simp-implicitDefEqProofs[hfl]
  refine bc (fun h=>?_) (fun h=>?_)
  ·simp at h
   have hg:=List.getElem?_eq_getElem h
   have hT:mA l (i+1)=mA l i++[rnF l i l[i]]:=by rw[mA,hg]
   have hol:=yI l i (by omega)
   have hmem:=List.getElem_mem h
   have htk:=an h
   generalize l[i]=f at hg hT hmem htk
   have hcw:=DO l i f
   have hrc:=AF l i f
   have hrl:(aJ (mA l i)).length=i:=by simp[aJ,hol]
   generalize mA l i=out at hT hol hrl
   simp-implicitDefEqProofs[]
   refine(Gx G hg hz).use ?_
   have hvn:(fnW l i f).count=iC f:=hcw
   by_cases h26:iC f≤26
   case neg=>
    have hfw:qf l=false:=by
     cases e:qf l with
     |false=>rfl
     |true=>
      rw[qf,List.all_eq_true] at e
      have:=e f hmem
      exact absurd (by simpa using this) h26
    have h26':(26:Int)<(iC f:Int):=by omega
    rw[hfw]
    simp-implicitDefEqProofs[hrc,hvn,h26']
    exact .nils 3
   have h26':¬(26:Int)<(iC f:Int):=by omega
   simp-implicitDefEqProofs[hrc,hvn,h26']
   refine⟨by omega,i+1,⟨h,fun g hgm=>?_⟩,by omega,?_⟩
   ·rw[htk] at hgm
    rcases List.mem_append.1 hgm with h|h
    ·exact hf g h
    ·rw[List.mem_singleton.1 h];exact h26
   ·rw[hT]
    have hR:aJ (out++[rnF l i f])=aJ out++[[.p (.str f.name),.p (au (fI f.params (w0 l i f))),.p (smL (cG l i 0 f.body (bH f.params (w0 l i f))))]]:=by
     rw[aJ,List.map_append,List.map_singleton,hrc];rfl
    rw[hR,mr _ (by simp),jP _ (by simp)]
    refine zp [0,1,2,6] rfl (by decide) (bs rfl (by simp) (bs rfl (by simp) (cr (es:=[[.sl 3 3 0 ((aJ out).length+1)]]) (by simp[below]) (by simp[ren,bp]) (bs rfl (fun x hx=>?_) cQ)))) (by simp[below,ren,hfl,w1 (i:=i) (by omega)])
    rcases List.mem_append.1 hx with h|h
    ·exact jF _ x h
    ·rw[List.mem_singleton.1 h];simp
  ·simp at h
   have hie:i=l.length:=by omega
   subst hie
   rw[List.take_length] at hf
   have hfw:qf l=true:=by
    rw[qf,List.all_eq_true];exact fun f hm=>by simpa using hf f hm
   have hmm:mA l l.length=l.map irF:=by rw[Cf h0 _ (Nat.le_refl _),List.take_length]
   rw[hfw,if_pos rfl,hmm]
   simp-implicitDefEqProofs[]
   have hh:aJ (l.map irF)=((l.map irF).map Fd.cs).map (·.map .p):=by simp[aJ]
   rw[hh]
   have:=rP (h:=[AO.row 1 [[AV.p (PV.lst 3 (List.map Fd.cs l))]],AO.row 1 [[slE 3 3 (((l.map irF).map Fd.cs).map (·.map .p))]],AO.row 1 [[slE 3 3 (((l.map irF).map Fd.cs).map (·.map .p))]],br 3 (((l.map irF).map Fd.cs).map (·.map .p))]) (id:=3) (sz:=3) (ls:=(l.map irF).map Fd.cs) rfl (fun x hx=>by obtain⟨b,_,rfl⟩:=List.mem_map.1 hx;rfl)
   rw[List.map_map (l:=l)] at this
   simpa using this
 refine key.freezeR (fun t v h ⟨_,e,_⟩=>by cases e) fun v h ⟨u,e1,e2⟩=>?_
 cases e1
 exact .tup (.agg (.one e2 .nil) (.keep (by simp) .nil)) .nil
end Go.Proofs.YtnjbhgpbgmpkcaaGreatDoor
namespace Go.Proofs.YtnjbhgpbgmpkcaaGreatDoor
open Go Go.Aw
set_option maxRecDepth 100000
theorem eX{s:Bool}{h:List AO}{vs:List AV}{q:PV}{I:List Nat}(H:OwnL s h vs [q] I):∃v,vs=[v]:=by
 have:=H.len
 match vs,this with
 |[v],_=>exact⟨v,rfl⟩
theorem Iu{s:Bool}{h:List AO}{vs:List AV}{q r:PV}{I:List Nat}(H:OwnL s h vs [q,r] I):∃a b,vs=[a,b]:=by
 have:=H.len
 match vs,this with
 |[a,b],_=>exact⟨a,b,rfl⟩
theorem Dg{s:Bool}{h:List AO}{vs:List AV}{q r t:PV}{I:List Nat}(H:OwnL s h vs [q,r,t] I):∃a b c,vs=[a,b,c]:=by
 have:=H.len
 match vs,this with
 |[a,b,c],_=>exact⟨a,b,c,rfl⟩
theorem AZ{s:Bool}{h:List AO}{vs:List AV}{e:Ex}{I:List Nat}(H:OwnL s h vs e.cs I):∃K,vs=[.p (.int .i64 e.op),.p (.int .i64 e.n),.p (.str e.name),K]∧OwnL s h [K] [exL e.kids] I:=by
 rw[e.cs_eq] at H
 cases H with
 |p _ _ H=>
  cases H with
  |p _ _ H=>
   cases H with
   |p _ _ H=>
    obtain⟨v,rfl⟩:=eX H
    exact⟨v,rfl,H⟩
theorem Eb{s:Bool}{h:List AO}{o n:Int}{w:List UInt8}{k:List Ex}{K:AV}{I:List Nat}(H:OwnL s h [K] [exL k] I):OwnL s h [.p (.int .i64 o),.p (.int .i64 n),.p (.str w),K] (Ex.mk o n w k).cs I:=by
 rw[Ex.cs_eq]
 exact .p _ (fun _=>rfl) (.p _ (fun _=>rfl) (.p _ (fun _=>rfl) H))
theorem KB{s:Bool}{h:List AO}{vs:List AV}{e:Sm}{I:List Nat}(H:OwnL s h vs e.cs I):∃A B E I1 I2 I3,vs=[.p (.int .i64 e.op),.p (.str e.name),A,B,E]∧I=I1++(I2++I3)∧OwnL s h [A] [exL e.args] I1∧OwnL s h [B] [smL e.body] I2∧OwnL s h [E] [smL e.els] I3:=by
 rw[e.cs_eq] at H
 cases H with
 |p _ _ H=>
  cases H with
  |p _ _ H=>
   obtain⟨A,B,E,rfl⟩:=Dg H
   obtain⟨I1,I',rfl,h1,H⟩:=H.one
   obtain⟨I2,I3,rfl,h2,h3⟩:=H.one
   exact⟨A,B,E,I1,I2,I3,rfl,rfl,h1,h2,h3⟩
theorem Jq{s:Bool}{h:List AO}{o:Int}{w:List UInt8}{a:List Ex}{b e:List Sm}{A B E:AV}{I1 I2 I3:List Nat}(h1:OwnL s h [A] [exL a] I1)(h2:OwnL s h [B] [smL b] I2)(h3:OwnL s h [E] [smL e] I3):
 OwnL s h [.p (.int .i64 o),.p (.str w),A,B,E] (Sm.mk o w a b e).cs (I1++(I2++I3)):=by
 rw[Sm.cs_eq]
 exact .p _ (fun _=>rfl) (.p _ (fun _=>rfl) (h1.app (h2.app h3)))
theorem Jm{s:Bool}{h:List AO}{vs:List AV}{f:Fd}{I:List Nat}(H:OwnL s h vs f.cs I):∃A B I1 I2,vs=[.p (.str f.name),A,B]∧I=I1++I2∧OwnL s h [A] [au f.params] I1∧OwnL s h [B] [smL f.body] I2:=by
 rw[show f.cs=[.str f.name,au f.params,smL f.body] from rfl] at H
 cases H with
 |p _ _ H=>
  obtain⟨A,B,rfl⟩:=Iu H
  obtain⟨I1,I2,rfl,h1,H⟩:=H.one
  exact⟨A,B,I1,I2,rfl,rfl,h1,H⟩
theorem qg{s:Bool}{h:List AO}{w:List UInt8}{ps:List (List UInt8)}{b:List Sm}{A B:AV}{I1 I2:List Nat}(h1:OwnL s h [A] [au ps] I1)(h2:OwnL s h [B] [smL b] I2):OwnL s h [.p (.str w),A,B] (Fd.mk w ps b).cs (I1++I2):=
 .p _ (fun _=>rfl) (h1.app h2)
end Go.Proofs.YtnjbhgpbgmpkcaaGreatDoor
namespace Go.Proofs.YtnjbhgpbgmpkcaaGreatDoor
open Go Go.Aw
set_option maxRecDepth 100000
set_option maxHeartbeats 4000000
structure HV (σ:Type) where
 F:FuncId
 caps:List AV
 n:Nat
 Inv:σ→Nat→List AO→Prop
 capsOk:ag n caps
 len:∀{st id h},Inv st id h→n≤h.length∧id<h.length
 frame:∀{st id h h'},Inv st id h→(∀i,i<h.length→i<n∨i=id→h'[i]?=h[i]?)→Inv st id h'
def HV.Left{σ:Type}(V:HV σ)(id:Nat)(h:List AO)(st':σ)(h':List AO):Prop:=
 ∃id',V.Inv st' id' h'∧h.length≤h'.length∧(∀i,i<h.length→V.n≤i→i≠id→h'[i]?=h[i]?)∧(id'=id∨h.length≤id')
structure HS where (i id:Nat) (h:List AO)
theorem HV.more{σ:Type}(V:HV σ){st:σ}{id:Nat}{h:List AO}(H:V.Inv st id h)(os:List AO):V.Inv st id (h++os):=
 V.frame H fun i hi _=>List.getElem?_append_left hi
theorem HV.Left.trans{σ:Type}{V:HV σ}{id id1:Nat}{h h1 h2:List AO}{st2:σ}(hl:h.length≤h1.length)(hk:∀i,i<h.length→V.n≤i→i≠id→h1[i]?=h[i]?)(hi:id1=id∨h.length≤id1)(L:V.Left id1 h1 st2 h2):V.Left id h st2 h2:=by
 obtain⟨id2,a1,a2,a3,a4⟩:=L
 refine⟨id2,a1,by omega,fun i h1 h2 h3=>?_,?_⟩
 ·rw[a3 i (by omega) h2 (by rcases hi with e|e<;>omega),hk i h1 h2 h3]
 ·rcases a4 with e|e
  ·rw[e];exact hi
  ·right;omega
mutual
theorem Hq{σ:Type}{step:σ→Ex→σ}{inv:σ→Nat→Prop}(hs:∀st e k,inv st (k+1)→inv (step st e) k):∀(e:Ex) (st:σ) (k:Nat),inv st (k+e.parts)→inv (e.pre.foldl step st) k
 | .mk o n w ks,st,k,h=>by
   have hp:(Ex.mk o n w ks).parts=1+bt ks:=Ex.parts_eq _
   rw[hp,show k+(1+bt ks)=k+bt ks+1 by omega] at h
   rw[Ex.pre_eq,List.foldl_cons]
   exact nj hs ks _ k (hs _ _ _ h)
theorem nj{σ:Type}{step:σ→Ex→σ}{inv:σ→Nat→Prop}(hs:∀st e k,inv st (k+1)→inv (step st e) k):∀(l:List Ex) (st:σ) (k:Nat),inv st (k+bt l)→inv ((ca l).foldl step st) k
 |[],st,k,h=>by simpa[ca,bt] using h
 |e::r,st,k,h=>by
  rw[bt,show k+(e.parts+bt r)=k+bt r+e.parts by omega] at h
  rw[ca,List.foldl_append]
  exact nj hs r _ k (Hq hs e st _ h)
end
variable (G:aC)
theorem El{σ:Type}(V:HV σ)(step:σ→Ex→σ)(inv:σ→Nat→Prop)(B:Nat)(hB:B≤1073741824)(hs:∀st e k,inv st (k+1)→inv (step st e) k)
 (hv:∀st e k id h,inv st (k+1)→e.sz≤B→V.Inv st id h→AC Tryz.prog G V.F (.agg (e.cs.map .p)::V.caps) h fun x h'=>x= .ret (.tup [])∧V.Left id h (step st e) h'):
 ∀(N:Nat) (e:Ex),e.sz<N→e.sz≤B→∀st k id h,inv st (k+e.parts)→V.Inv st id h→AC Tryz.prog G fp [.agg (e.cs.map .p),.fn (.func V.F) V.caps] h fun x h'=>x= .ret (.tup [])∧V.Left id h (e.pre.foldl step st) h':=by
 intro N
 induction N with
 |zero=>intro e h;omega
 |succ N ih=>
  intro e he hz st k id h hi hI
  have hec:=e.cs_eq
  have hsz:=e.sz_eq
  have hpe:=e.parts_eq
  have hkl:=bi e.kids
  have hxl:exL e.kids= .lst 4 (e.kids.map Ex.cs):=rfl
  have hcb:=V.capsOk
  obtain⟨hn,hid⟩:=V.len hI
  rw[hpe,show k+(1+bt e.kids)=(k+bt e.kids)+1 by omega] at hi
  have h1:=fun h hI=>hv st e (k+bt e.kids) id h hi hz hI
  have i1:=hs st e _ hi
  refine AC.go rt ?_
  rw[hec] at h1
  simp-implicitDefEqProofs[md,hec]
  refine(h1 _ (V.more hI _)).mono ?_
  rintro r h2 ⟨rfl,id2,L1,L2,L3,L4⟩
  rw[List.length_append] at L2 L3 L4
  simp only[List.length_cons,List.length_nil] at L2 L3 L4
  have hbox:h2[h.length]?=some (.row 4 [[.p (.int .i64 e.op),.p (.int .i64 e.n),.p (.str e.name),.p (exL e.kids)]]):=by
   rw[L3 _ (by omega) hn (by omega)];simp
  simp-implicitDefEqProofs[aa,hbox,hxl]
  refine aN (fun a:HS=>al 20 [(1,.fn (.func V.F) V.caps),(2,.ptr h.length 4 0 0),(10,.p (exL e.kids)),(11,.p (.int .i64 e.kids.length)),(12,.p (.int .i64 a.i))])
   (fun a=>a.h) (fun a=>a.i≤e.kids.length∧V.Inv ((ca (e.kids.take a.i)).foldl step (step st e)) a.id a.h∧h.length<a.h.length∧(∀i,i<h.length→V.n≤i→i≠id→a.h[i]?=h[i]?)∧(a.id=id∨h.length<a.id)) (fun a=>e.kids.length-a.i) ⟨0,id2,h2⟩ ⟨Nat.zero_le _,L1,(by show h.length<h2.length;omega),fun i a1 a2 a3=>?_,(by show id2=id∨h.length<id2;omega)⟩ ?_ ?_
  ·show h2[i]?=h[i]?
   rw[L3 i (by omega) a2 a3,List.getElem?_append_left a1]
  ·exact cS (by omega) (by simp[below,hxl];exact⟨az (by omega) _ hcb,by omega⟩)
  rintro⟨i,idc,hc⟩ ⟨hil,hIc,hlc,hkc,hic⟩
  simp only at hil hIc hlc hkc hic
  simp-implicitDefEqProofs[hxl]
  refine bc (fun hcc=>?_) (fun hcc=>?_)
  ·simp at hcc
   have hg:=List.getElem?_eq_getElem hcc
   have hks:=bj (List.getElem_mem hcc)
   have hkc2:=e.kids[i].cs_eq
   have hT:e.kids.take (i+1)=e.kids.take i++[e.kids[i]]:=an hcc
   have hsum:bt e.kids=bt (e.kids.take i)+(e.kids[i].parts+bt (e.kids.drop (i+1))):=by
    have e1:bt e.kids=bt (e.kids.take i)+bt (e.kids.drop i):=by rw[←eU,List.take_append_drop]
    have e2:bt (e.kids.drop i)=e.kids[i].parts+bt (e.kids.drop (i+1)):=by rw[List.drop_eq_getElem_cons hcc,bt]
    omega
   have hic2:inv ((ca (e.kids.take i)).foldl step (step st e)) (k+bt (e.kids.drop (i+1))+e.kids[i].parts):=
    nj hs _ _ _ (by rw[show k+bt (e.kids.drop (i+1))+e.kids[i].parts+bt (e.kids.take i)=k+bt e.kids by omega];exact i1)
   have hA:=fun os=>ih e.kids[i] (by omega) (by omega) _ _ idc (hc++os) hic2 (V.more hIc os)
   have hf:(ca (e.kids.take (i+1))).foldl step (step st e)=e.kids[i].pre.foldl step ((ca (e.kids.take i)).foldl step (step st e)):=by
    rw[hT,lP,List.foldl_append,ca,ca,List.append_nil]
   rw[hkc2] at hA
   simp-implicitDefEqProofs[hg,hkc2]
   refine(hA _).mono ?_
   rintro r h3 ⟨rfl,id3,M1,M2,M3,M4⟩
   rw[List.length_append] at M2 M3 M4
   simp only[List.length_cons,List.length_nil] at M2 M3 M4
   have hn3:=(V.len M1).1
   simp-implicitDefEqProofs[aa]
   refine⟨⟨i+1,id3,h3⟩,⟨hcc,by rw[hf];exact M1,by show h.length<h3.length;omega,fun j a1 a2 a3=>?_,?_⟩,by show e.kids.length-(i+1)<e.kids.length-i;omega,cS (by show h.length≤h3.length;omega) ?_⟩
   ·show h3[j]?=h[j]?
    rw[M3 j (by omega) a2 (by omega),List.getElem?_append_left (by omega),hkc j a1 a2 a3]
   ·show id3=id∨h.length<id3
    omega
   ·simp[below,hxl,w1 (i:=i) (by omega)]
    exact⟨az (by omega) _ hcb,by omega⟩
  ·simp at hcc
   have hie:i=e.kids.length:=by omega
   subst hie
   rw[List.take_length] at hIc
   rw[Ex.pre_eq,List.foldl_cons]
   simp-implicitDefEqProofs[]
   exact⟨idc,hIc,by omega,hkc,by omega⟩
def Sm.own(s:Sm):Nat:=1+s.name.length+aY s.args
theorem Sm.own_sz(s:Sm):s.sz=s.own+am s.body+am s.els:=by rw[s.sz_eq,Sm.own]
mutual
theorem Kz{σ:Type}{step:σ→Sm × Nat→σ}{inv:σ→Nat→Prop}(hs:∀st (s:Sm) d k,inv st (k+s.own)→inv (step st (s,d)) k):∀(s:Sm) (d:Nat) (st:σ) (k:Nat),inv st (k+s.sz)→inv ((s.pre d).foldl step st) k
 | .mk o n a b e,d,st,k,h=>by
   rw[Sm.own_sz] at h
   rw[Sm.pre_eq,List.foldl_cons,List.foldl_append]
   refine oD hs e _ _ k (oD hs b _ _ _ (hs _ _ _ _ ?_))
   rw[show k+am e+am b+(Sm.mk o n a b e).own=k+((Sm.mk o n a b e).own+am b+am e) by omega]
   exact h
theorem oD{σ:Type}{step:σ→Sm × Nat→σ}{inv:σ→Nat→Prop}(hs:∀st (s:Sm) d k,inv st (k+s.own)→inv (step st (s,d)) k):∀(l:List Sm) (d:Nat) (st:σ) (k:Nat),inv st (k+am l)→inv ((aW d l).foldl step st) k
 |[],d,st,k,h=>by simpa[aW,am] using h
 |s::r,d,st,k,h=>by
  rw[am,show k+(s.sz+am r)=k+am r+s.sz by omega] at h
  rw[aW,List.foldl_append]
  exact oD hs r d _ k (Kz hs s d st _ h)
end
theorem EF{σ:Type}(V:HV σ)(step:σ→Sm × Nat→σ)(inv:σ→Nat→Prop)(B:Nat)(hB:B≤1073741824)(hs:∀st (s:Sm) d k,inv st (k+s.own)→inv (step st (s,d)) k)
 (hv:∀st (s:Sm) d k id h,inv st (k+s.own)→s.sz≤B→V.Inv st id h→AC Tryz.prog G V.F (.agg (s.cs.map .p):: .p (.int .i64 (d:Nat))::V.caps) h fun x h'=>x= .ret (.tup [])∧V.Left id h (step st (s,d)) h'):
 ∀(N:Nat) (l:List Sm),am l<N→am l≤B→∀(d:Nat),d+am l≤1099511627776→∀st k id h,inv st (k+am l)→V.Inv st id h→AC Tryz.prog G dy [.p (smL l),.p (.int .i64 d),.fn (.func V.F) V.caps] h fun x h'=>x= .ret (.tup [])∧V.Left id h ((aW d l).foldl step st) h':=by
 intro N
 induction N with
 |zero=>intro l h;omega
 |succ N ih=>
  intro l hl hz d hd st k id h hi hI
  have hll:=bA l
  have hsl:∀l,smL l= .lst 5 (l.map Sm.cs):=fun _=>rfl
  have hcb:=V.capsOk
  obtain⟨hn,hid⟩:=V.len hI
  refine AC.go ru ?_
  simp-implicitDefEqProofs[ml,hsl]
  refine aN (fun a:HS=>al 31 [(1,.p (.int .i64 d)),(2,.fn (.func V.F) V.caps),(8,.p (smL l)),(9,.p (.int .i64 l.length)),(10,.p (.int .i64 a.i))])
   (fun a=>a.h) (fun a=>a.i≤l.length∧V.Inv ((aW d (l.take a.i)).foldl step st) a.id a.h∧h.length≤a.h.length∧(∀i,i<h.length→V.n≤i→i≠id→a.h[i]?=h[i]?)∧(a.id=id∨h.length≤a.id)) (fun a=>l.length-a.i) ⟨0,id,h⟩ ⟨Nat.zero_le _,hI,Nat.le_refl _,fun i _ _ _=>rfl,.inl rfl⟩ ?_ ?_
  ·exact cS (Nat.le_refl _) (by simp[below,hsl];exact az (by omega) _ hcb)
  rintro⟨i,idc,hc⟩ ⟨hil,hIc,hlc,hkc,hic⟩
  simp only at hil hIc hlc hkc hic
  simp-implicitDefEqProofs[hsl]
  refine bc (fun hcc=>?_) (fun hcc=>?_)
  ·simp at hcc
   have hg:=List.getElem?_eq_getElem hcc
   have hks:=bY (List.getElem_mem hcc)
   have hse:=l[i].cs_eq
   have hsz:=l[i].own_sz
   have hown:1≤l[i].own:=by unfold Sm.own;omega
   have hT:l.take (i+1)=l.take i++[l[i]]:=an hcc
   have hsum:am l=am (l.take i)+(l[i].sz+am (l.drop (i+1))):=by
    have e1:am l=am (l.take i)+am (l.drop i):=by rw[←bC,List.take_append_drop]
    have e2:am (l.drop i)=l[i].sz+am (l.drop (i+1)):=by rw[List.drop_eq_getElem_cons hcc,am]
    omega
   have i0:inv ((aW d (l.take i)).foldl step st) (k+am (l.drop (i+1))+am l[i].els+am l[i].body+l[i].own):=
    oD hs _ _ _ _ (by rw[show k+am (l.drop (i+1))+am l[i].els+am l[i].body+l[i].own+am (l.take i)=k+am l by omega];exact hi)
   have i1:=hs _ l[i] d _ i0
   have i2:=oD hs l[i].body (d+1) _ _ i1
   have hf:(aW d (l.take (i+1))).foldl step st=(l[i].pre d).foldl step ((aW d (l.take i)).foldl step st):=by
    rw[hT,mw,List.foldl_append,aW,aW,List.append_nil]
   rw[Sm.pre_eq,List.foldl_cons,List.foldl_append] at hf
   have hwd:IntKind.i64.wrap ((d:Int)+1)=((d+1:Nat):Int):=by rw[ah (by omega) (by omega)];omega
   have h1:=fun os=>hv _ l[i] d _ idc (hc++os) i0 (by omega) (V.more hIc os)
   have h2:=fun st2 id2 hh=>ih l[i].body (by omega) (by omega) (d+1) (by omega) st2 (k+am (l.drop (i+1))+am l[i].els) id2 hh
   have h3:=fun st2 id2 hh=>ih l[i].els (by omega) (by omega) (d+1) (by omega) st2 (k+am (l.drop (i+1))) id2 hh
   rw[hse] at h1
   simp-implicitDefEqProofs[hg,hse]
   refine(h1 _).mono ?_
   rintro r g1 ⟨rfl,id3,M1,M2,M3,M4⟩
   rw[List.length_append] at M2 M3 M4
   simp only[List.length_cons,List.length_nil] at M2 M3 M4
   have hbox:g1[hc.length]?=some (.row 5 [[.p (.int .i64 l[i].op),.p (.str l[i].name),.p (exL l[i].args),.p (smL l[i].body),.p (smL l[i].els)]]):=by
    rw[M3 _ (by omega) (by have:=(V.len hIc).1;omega) (by have:=(V.len hIc).2;omega)];simp
   simp-implicitDefEqProofs[aa,hbox,hwd]
   refine(h2 _ id3 g1 i1 M1).mono ?_
   rintro r g2 ⟨rfl,id4,P1,P2,P3,P4⟩
   have hbox2:g2[hc.length]?=some (.row 5 [[.p (.int .i64 l[i].op),.p (.str l[i].name),.p (exL l[i].args),.p (smL l[i].body),.p (smL l[i].els)]]):=by
    rw[P3 _ (by omega) (by have:=(V.len hIc).1;omega) (by have:=(V.len hIc).2;omega),hbox]
   simp-implicitDefEqProofs[aa,hbox2,hwd]
   refine(h3 _ id4 g2 i2 P1).mono ?_
   rintro r g3 ⟨rfl,id5,Q1,Q2,Q3,Q4⟩
   simp-implicitDefEqProofs[aa]
   refine⟨⟨i+1,id5,g3⟩,⟨hcc,by rw[hf];exact Q1,by show h.length≤g3.length;omega,fun j a1 a2 a3=>?_,?_⟩,by show l.length-(i+1)<l.length-i;omega,cS (by show h.length≤g3.length;omega) ?_⟩
   ·show g3[j]?=h[j]?
    rw[Q3 j (by omega) a2 (by omega),P3 j (by omega) a2 (by omega),M3 j (by omega) a2 (by omega),List.getElem?_append_left (by omega),hkc j a1 a2 a3]
   ·show id5=id∨h.length≤id5
    omega
   ·simp[below,hsl,w1 (i:=i) (by omega)]
    exact az (by omega) _ hcb
  ·simp at hcc
   have hie:i=l.length:=by omega
   subst hie
   rw[List.take_length] at hIc
   simp-implicitDefEqProofs[]
   exact⟨idc,hIc,hlc,hkc,hic⟩
end Go.Proofs.YtnjbhgpbgmpkcaaGreatDoor
namespace Go.Proofs.YtnjbhgpbgmpkcaaGreatDoor
open Go
def lays189_ren:Go.Shelf.Ren:=⟨fun|125=>157|128=>185|129=>186|189=>122|215=>206|216=>182|257=>156|294=>176|295=>177|296=>178|297=>179|298=>180|299=>181|300=>183|301=>184|328=>201|329=>202|330=>203|331=>204|332=>205|343=>216|n=>n,fun|0=>0|3=>3|4=>4|5=>5|9=>9|28=>45|46=>173|51=>199|53=>201|131=>97|182=>191|183=>192|218=>214|222=>218|228=>230|229=>106|n=>n,fun n=>n⟩
theorem Ce:Lays.n189 Tryz.prog lays189_ren where
 mixed:=by kernel_rfl
 f125:=Tryz.func157.trans (congrArg some (by kernel_rfl))
 f128:=Tryz.func185.trans (congrArg some (by kernel_rfl))
 f129:=Tryz.func186.trans (congrArg some (by kernel_rfl))
 f189:=Tryz.func122.trans (congrArg some (by kernel_rfl))
 f215:=Tryz.func206.trans (congrArg some (by kernel_rfl))
 f216:=Tryz.func182.trans (congrArg some (by kernel_rfl))
 f257:=Tryz.func156.trans (congrArg some (by kernel_rfl))
 f294:=Tryz.func176.trans (congrArg some (by kernel_rfl))
 f295:=Tryz.func177.trans (congrArg some (by kernel_rfl))
 f296:=Tryz.func178.trans (congrArg some (by kernel_rfl))
 f297:=Tryz.func179.trans (congrArg some (by kernel_rfl))
 f298:=Tryz.func180.trans (congrArg some (by kernel_rfl))
 f299:=Tryz.func181.trans (congrArg some (by kernel_rfl))
 f300:=Tryz.func183.trans (congrArg some (by kernel_rfl))
 f301:=Tryz.func184.trans (congrArg some (by kernel_rfl))
 f328:=Tryz.func201.trans (congrArg some (by kernel_rfl))
 f329:=Tryz.func202.trans (congrArg some (by kernel_rfl))
 f330:=Tryz.func203.trans (congrArg some (by kernel_rfl))
 f331:=Tryz.func204.trans (congrArg some (by kernel_rfl))
 f332:=Tryz.func205.trans (congrArg some (by kernel_rfl))
 f343:=Tryz.func216.trans (congrArg some (by kernel_rfl))
 t0:=Tryz.underlying0
 a0:=Tryz.isAgg0
 z0:=Tryz.sizeOf0
 v0:=Tryz.zeroValue0
 t3:=Tryz.underlying3
 a3:=Tryz.isAgg3
 z3:=Tryz.sizeOf3
 v3:=Tryz.zeroValue3
 t4:=Tryz.underlying4
 a4:=Tryz.isAgg4
 z4:=Tryz.sizeOf4
 v4:=Tryz.zeroValue4
 t5:=Tryz.underlying5
 a5:=Tryz.isAgg5
 z5:=Tryz.sizeOf5
 v5:=Tryz.zeroValue5
 t9:=Tryz.underlying9
 a9:=Tryz.isAgg9
 z9:=Tryz.sizeOf9
 v9:=Tryz.zeroValue9
 t28:=Tryz.underlying45
 a28:=Tryz.isAgg45
 z28:=Tryz.sizeOf45
 v28:=Tryz.zeroValue45
 t46:=Tryz.underlying173
 a46:=Tryz.isAgg173
 z46:=Tryz.sizeOf173
 v46:=Tryz.zeroValue173
 t51:=Tryz.underlying199
 a51:=Tryz.isAgg199
 z51:=Tryz.sizeOf199
 v51:=Tryz.zeroValue199
 t53:=Tryz.underlying201
 a53:=Tryz.isAgg201
 z53:=Tryz.sizeOf201
 v53:=Tryz.zeroValue201
 t131:=Tryz.underlying97
 a131:=Tryz.isAgg97
 z131:=Tryz.sizeOf97
 v131:=Tryz.zeroValue97
 t182:=Tryz.underlying191
 a182:=Tryz.isAgg191
 z182:=Tryz.sizeOf191
 v182:=Tryz.zeroValue191
 t183:=Tryz.underlying192
 a183:=Tryz.isAgg192
 z183:=Tryz.sizeOf192
 v183:=Tryz.zeroValue192
 t218:=Tryz.underlying214
 a218:=Tryz.isAgg214
 z218:=Tryz.sizeOf214
 v218:=Tryz.zeroValue214
 t222:=Tryz.underlying218
 a222:=Tryz.isAgg218
 z222:=Tryz.sizeOf218
 v222:=Tryz.zeroValue218
 t228:=Tryz.underlying230
 a228:=Tryz.isAgg230
 z228:=Tryz.sizeOf230
 v228:=Tryz.zeroValue230
 t229:=Tryz.underlying106
 a229:=Tryz.isAgg106
 z229:=Tryz.sizeOf106
 v229:=Tryz.zeroValue106
def lays20_ren:Go.Shelf.Ren:=⟨fun|20=>123|n=>n,fun|0=>0|3=>3|4=>4|22=>45|n=>n,fun n=>n⟩
theorem EJ:Lays2.n20 Tryz.prog lays20_ren where
 mixed:=by kernel_rfl
 f20:=Tryz.func123.trans (congrArg some (by kernel_rfl))
 t0:=Tryz.underlying0
 a0:=Tryz.isAgg0
 z0:=Tryz.sizeOf0
 v0:=Tryz.zeroValue0
 t3:=Tryz.underlying3
 a3:=Tryz.isAgg3
 z3:=Tryz.sizeOf3
 v3:=Tryz.zeroValue3
 t4:=Tryz.underlying4
 a4:=Tryz.isAgg4
 z4:=Tryz.sizeOf4
 v4:=Tryz.zeroValue4
 t22:=Tryz.underlying45
 a22:=Tryz.isAgg45
 z22:=Tryz.sizeOf45
 v22:=Tryz.zeroValue45
 i3:=by kernel_rfl
end Go.Proofs.YtnjbhgpbgmpkcaaGreatDoor
namespace Go.Aw
open Go Go.Sort
section
variable {G:aC} {W:World} {S:Nat→Prop} {φ:Place} {h:List AO}
theorem HRel.grown(H:HRel G W S φ h)(os:Array Obj):HRel G (grow W os) S φ h∧Keep W S φ h (grow W os) S φ h:=by
 have hg:∀b,b<W.heap.size→(grow W os).heap[b]?=W.heap[b]?:=fun b hb=>by
  simp[grow,Array.getElem?_append,hb]
 have hS:∀b,S b→b<W.heap.size:=fun b hb=>(H.sep b hb).1
 have K:Kept W S φ h.length (grow W os) S φ h.length:=
  {pure:=fun b hb=>⟨hb,hg b (hS b hb)⟩
   len:=Nat.le_refl _
   same:=fun _ _=>rfl
   blk:=fun i hi c' t' fr' e=>by
    rw[hg _ (H.bnd i hi)] at e
    exact⟨c',t',fr',e,rfl⟩}
 have hs:W.heap.size≤(grow W os).heap.size:=by simp[grow]
 refine⟨⟨fun i s es e=>?_,fun i o e lo=>?_,H.inj,fun b hb=>⟨Nat.lt_of_lt_of_le (hS b hb) hs,(H.sep b hb).2⟩,fun i hi=>Nat.lt_of_lt_of_le (H.bnd i hi) hs,fun g cs hgl=>?_⟩,
  {K with os:=rfl,tape:=rfl,output:=rfl,size:=hs,out:=fun b hb _=>hg b hb,img:=fun i hi=> .inr ⟨i,hi,rfl⟩,newS:=fun b hb=> .inl hb}⟩
 ·obtain⟨c,t,fr,a1,a2,a3,a4,a5⟩:=H.obj i s es e
  refine⟨c,t,fr,by rw[hg _ (H.bnd i (H.lt e))];exact a1,a2,a3,a4,fun j a hj=>?_⟩
  obtain⟨b1,v,b2,b3⟩:=a5 j a hj
  exact⟨b1,v,b2,b3.kept K⟩
 ·rw[hg _ (H.bnd i (H.lt e))]
  exact(H.oobj i o e lo).mono fun a v r=>r.kept K
 ·obtain⟨g1,g2⟩:=H.glob g cs hgl
  refine⟨g1,fun j c' hj=>?_⟩
  obtain⟨v,k1,k2⟩:=g2 j c' hj
  exact⟨v,by rw[bf (K.pure g g1).2];exact k1,k2.mono K.pure⟩
end
theorem CV{α:Type}[Inhabited α](enc:α→Value){W:World}{n blk off:Nat}{d:Array α}{c:Array Value}{t:TypeId}{fr:Nat × Nat}(e:W.heap[blk]?=some (.cells c t fr)):
 BlockSet W (putRow enc (Go.Sort.ahead W n) blk off d) blk (putCells enc off d c) t fr where
 at_b:=by simp[putRow,mapBlock,Go.Sort.ahead,Array.getElem?_modify,e,onCells]
 other:=fun b' hb=>by
  have:¬blk=b':=fun e=>hb e.symm
  simp[putRow,mapBlock,Go.Sort.ahead,Array.getElem?_modify,this]
 size:=by simp[putRow,mapBlock,Go.Sort.ahead]
 os:=rfl
 tape:=rfl
 output:=rfl
def kD(xs:List Int):AO:= .row 1 (xs.map fun x=>[.p (.int .i64 x)])
theorem wy(xs:List Int):(xs.map fun x=>[AV.p (.int .i64 x)]).flatten=xs.map fun x=> .p (.int .i64 x):=by
 induction xs with
 |nil=>rfl
 |cons x r ih=>rw[List.map_cons,List.flatten_cons,ih];rfl
theorem AC.shelfInts{P:Program}{G:aC}{f:FuncId}{h:List AO}{id:Nat}{xs ys:List Int}{rv:AV}{r:Nat→Nat→Nat→Value}(hf:gP P f=true)(hid:h[id]?=some (kD xs))(hx:xs≠[])(hy:ys.length=xs.length)
 (hr:∀(W:World) (S:Nat→Prop) (φ:Place) (n cap:Nat),id<n→xs.length≤cap→(∀c t fr,W.heap[(φ id).1]?=some (.cells c t fr)→(φ id).2+cap≤c.size)→VRel W S φ n rv (r (φ id).1 (φ id).2 cap))
 (H:∀(blk off cap:Nat) (W:World),Holds (Value.int .i64) W blk off xs.toArray→blk<W.heap.size→xs.length≤cap→Calls P f #[.slice (some ⟨blk,off,none⟩) xs.length cap] W fun e W'=>e= .returned (r blk off cap)∧∃n os,W'=grow (putRow (Value.int .i64) (Go.Sort.ahead W n) blk off ys.toArray) os):
 AC P G f [.sl id 1 0 xs.length] h fun x h'=>x= .ret rv∧h'=h.set id (kD ys):=by
 refine⟨hf,fun W S φ vs hH hA=>?_⟩
 obtain⟨c,t,fr,a1,a2,a3,a4,a5⟩:=hH.obj id 1 _ hid
 rw[wy] at a5
 rw[List.length_map,Nat.mul_one] at a4
 have hidl:=hH.lt hid
 have hs1:vs.size=1:=hA.1
 obtain⟨v0,rfl⟩:∃v0,vs=#[v0]:=⟨vs[0],by
  apply Array.ext
  ·simp[hs1]
  ·intro i h1 h2
   have:i=0:=by omega
   subst this;rfl⟩
 have hv:=hA.2 0 _ v0 rfl rfl
 cases hv with
 |sl _ _ _ _ cap ba _ hl hb hc=>
  rw[Nat.zero_mul,Nat.add_zero] at hb
  have hxl:0<xs.length:=List.length_pos_iff.2 hx
  rw[hb (by omega)]
  have hcell:∀j,j<xs.length→c[(φ id).2+j]?=some (.int .i64 xs[j]!):=fun j hj=>by
   obtain⟨_,v,b2,b3⟩:=a5 j (.p (.int .i64 xs[j])) (by simp[hj])
   cases b3 with
   |p _ _ hp=>
    cases hp
    rw[b2];simp[hj]
  refine(H (φ id).1 (φ id).2 cap W (fun j hj=>?_) (hH.bnd id hidl) hl).mono ?_
  ·have hj':j<xs.length:=by simpa using hj
   refine⟨?_,?_⟩
   ·simp only[World.cell?,a1]
    have:=hcell j hj'
    simpa using this
   ·have:=a2 ((φ id).2+j) (by omega)
    simp only[World.frozen?,a1]
    simpa using this
  ·rintro e W' ⟨rfl,n,os,rfl⟩
   have B:=CV (Value.int .i64) (n:=n) (off:=(φ id).2) (d:=ys.toArray) a1
   have hU:=hH.update (es':=ys.map fun x=>[.p (.int .i64 x)]) hid a1 (by simp[putCells]) B (by simpa[putCells] using a2) (by simp) (by simp[putCells,hy];exact a4) (fun j a hj=>by
    rw[wy] at hj
    have hjl:j<ys.length:=by
     have:=(List.getElem?_eq_some_iff.1 hj).1
     simpa using this
    have ha:a= .p (.int .i64 ys[j]):=by
     rw[List.getElem?_map,List.getElem?_eq_getElem hjl] at hj
     cases hj;rfl
    subst ha
    refine⟨rfl,.int .i64 ys[j],?_,.p _ _ (.int _ _)⟩
    have hb:(φ id).2+j<c.size:=by omega
    simp[putCells,hb,hjl])
   have hG:=hU.1.grown os
   refine⟨.ret rv,S,φ,h.set id (kD ys),⟨rfl,rfl⟩,hG.1,.ret _ _ (hr _ _ _ _ _ (by simpa using hidl) hl fun c' t' fr' e'=>?_),hU.2.trans hG.2⟩
   have hlt:(φ id).1<(putRow (Value.int .i64) (Go.Sort.ahead W n) (φ id).1 (φ id).2 ys.toArray).heap.size:=by rw[B.size];exact hH.bnd id hidl
   have e2:(grow (putRow (Value.int .i64) (Go.Sort.ahead W n) (φ id).1 (φ id).2 ys.toArray) os).heap[(φ id).1]?=(putRow (Value.int .i64) (Go.Sort.ahead W n) (φ id).1 (φ id).2 ys.toArray).heap[(φ id).1]?:=by
    exact Array.getElem?_append_left hlt
   rw[e2,B.at_b] at e'
   cases e'
   have:=hc _ _ _ a1
   simp[putCells]
   omega
end Go.Aw
namespace Go.Proofs.YtnjbhgpbgmpkcaaGreatDoor
open Go Go.Aw
variable (G:aC)
theorem Jo{h:List AO}{id:Nat}{xs:List Int}(hid:h[id]?=some (kD xs))(hx:xs≠[])(hb:xs.length<4611686018427387904):
 AC Tryz.prog G (lays189_ren.f 189) [.sl id 1 0 xs.length] h fun x h'=>x= .ret (.tup [])∧h'=h.set id (kD (xs.mergeSort fun x y=>decide (x≤y))):=
 AC.shelfInts (r:=fun _ _ _=> .tuple #[]) (by kernel_rfl) hid hx (by simp) (fun _ _ _ _ _ _ _ _=> .tup [] #[] rfl (fun j c v e=>by simp at e))
  fun blk off cap W hH hbk _=>Any.slices_Sort_int Ce blk off cap xs W hH hbk hb
theorem Ds{h:List AO}{id:Nat}{xs:List Int}(hid:h[id]?=some (kD xs))(hx:xs≠[])(hb:xs.length≤9223372036854775807)(hl:(Lib.compact xs).length≤xs.length):
 AC Tryz.prog G (lays20_ren.f 20) [.sl id 1 0 xs.length] h fun x h'=>x= .ret (.sl id 1 0 (Lib.compact xs).length)∧h'=h.set id (kD (Lib.compact xs++List.replicate (xs.length-(Lib.compact xs).length) 0)):=by
 refine AC.shelfInts (r:=fun blk off cap=> .slice (some ⟨blk,off,none⟩) (Lib.compact xs).length cap) (by kernel_rfl) hid hx (by simp;omega) (fun W S φ n cap hi hc hs=>?_) fun blk off cap W hH hbk hcap=>?_
 ·exact .sl id 1 0 _ cap _ hi (by omega) (fun _=>by simp) (fun c t fr e=>by have:=hs c t fr e;omega)
 ·refine(Any.slices_Compact_int EJ blk off cap xs W hH hb hcap).mono ?_
  rintro e W' ⟨rfl,q,rfl⟩
  exact⟨rfl,q,#[],by simp⟩
end Go.Proofs.YtnjbhgpbgmpkcaaGreatDoor
namespace Go.Proofs.YtnjbhgpbgmpkcaaGreatDoor
open Go Go.Aw
set_option maxRecDepth 100000
abbrev qS:FuncId:=122
abbrev nH:FuncId:=123
abbrev aI:FuncId:=121
abbrev dX:FuncId:=119
abbrev gT:FuncId:=75
abbrev eB:FuncId:=29
abbrev kS:FuncId:=30
def ef:FK:=⟨14,[],
 .seq (.reg [oJ 3 (.box 4 (.t 0))])
 (.seq (.reg [oF 4 0 3,
   oL 5 4,
   oJ 6 (.bin .eql (.t 5) (.c (.p (.int .i64 13))))])
 (.cond (.t 6)
  (.reg [oF 9 2 3,
    oL 7 1,
    oJ 8 (.ld (some 1) (.t 2)),
    oL 10 9,
    oJ 11 (.call gA [(.t 8),(.t 10)]),
    ⟨none,none,.chk none 1 7⟩,
    oJ 12 (.bslP 1 [(.p (.int .i64 0))] 1 [(0,1,(.t 11))]),
    oJ 13 (.app 1 8 (.t 7) (.t 12)),
    oS 1 13])
  (.skip)))⟩
theorem qm:aj Tryz.prog aI=some ef:=by kernel_rfl
def lr:FK:=⟨19,[],
 .seq (.reg [oJ 4 (.box 5 (.t 0))])
 (.seq (.reg [oF 8 2 4,
   oL 9 8,
   oJ 10 (.len false (.t 9)),
   oK 11 0])
 (.blk 0 (.loop (.seq (.reg [oJ 12 (.bin .lss (.t 11) (.t 10))])
 (.seq (.cond (.t 12)
  (.skip)
  (.exit 0))
 (.seq (.blk 1 (.seq (.reg [oJ 13 (.idxS 4 (.t 9) (.t 11)),
   oJ 14 (.ld (some 4) (.t 13)),
   oJ 7 (.alloc [(.p (.int .i64 0)),(.p (.int .i64 0)),(.p (.str [])),.nils]),
   ⟨none,none,.st 4 (.t 7) (.t 14)⟩])
 (.reg [oJ 15 (.ld (some 4) (.t 7)),
   oJ 16 (.mkf (.func aI) [(.t 2),(.t 3)]),
   oJ 17 (.call fp [(.t 15),(.t 16)])])))
 (.reg [oJ 18 (.bin .add (.t 11) (.c (.p (.int .i64 1)))),
   oM 11 18])))))))⟩
theorem se:aj Tryz.prog dX=some lr:=by kernel_rfl
def nb:FK:=⟨18,[.t 4],
 .seq (.reg [oJ 2 (.box 1 (.t 0)),
  oJ 4 (.mov (.c .nils))])
 (.seq (.reg [oJ 5 (.alloc [.nils])])
 (.seq (.reg [oF 6 0 2,
   oL 7 6,
   oM 8 1,
   oJ 9 (.idxS 3 (.t 7) (.t 8)),
   oF 10 2 9,
   oL 11 10,
   oJ 12 (.mkf (.func dX) [(.t 5),(.t 2)]),
   oJ 13 (.call dy [(.t 11),(.c (.p (.int .i64 1))),(.t 12)])])
 (.seq (.reg [oL 14 5,
   oJ 15 (.call qS [(.t 14)])])
 (.seq (.reg [oL 16 5,
   oJ 17 (.call nH [(.t 16)]),
   oM 4 17])
 (.ret)))))⟩
theorem uy:aj Tryz.prog gT=some nb:=by kernel_rfl
def mF:FK:=⟨20,[.t 4],
 .seq (.reg [oJ 2 (.box 1 (.t 0)),
  oJ 4 (.mov (.c .nils))])
 (.seq (.seq (.reg [oJ 5 (.ld (some 1) (.t 2)),
   oJ 6 (.call iW [(.t 5)]),
   oJ 7 (.not (.t 6)),
   oM 8 7,
   ⟨(some 9),some (8,false),.mov (.t 1)⟩,
   ⟨(some 10),some (8,false),.fldA 0 (.t 2)⟩,
   ⟨(some 11),some (8,false),.ld none (.t 10)⟩,
   ⟨(some 12),some (8,false),.len false (.t 11)⟩,
   ⟨(some 13),some (8,false),.bin .sub (.t 12) (.c (.p (.int .i64 1)))⟩,
   ⟨(some 14),some (8,false),.call cd [(.t 9),(.c (.p (.int .i64 0))),(.t 13)]⟩,
   ⟨(some 15),some (8,false),.not (.t 14)⟩,
   oJ 16 (.pick (.t 8) (.c (.p (.bool true))) (.t 15))])
 (.cond (.t 16)
  (.seq (.reg [oJ 4 (.mov (.c .nils))])
  (.ret))
  (.skip)))
 (.seq (.reg [oJ 17 (.ld (some 1) (.t 2)),
   oM 18 1,
   oJ 19 (.call gT [(.t 17),(.t 18)]),
   oM 4 19])
 (.ret)))⟩
theorem ti:aj Tryz.prog eB=some mF:=by kernel_rfl
def pC:FK:=⟨29,[.t 4],
 .seq (.reg [oJ 4 (.mov (.c (.p (.bool false))))])
 (.seq (.seq (.reg [oM 6 0,
   oJ 7 (.len false (.t 6)),
   oM 8 1,
   oJ 9 (.len false (.t 8)),
   oJ 10 (.mn (.t 7) (.t 9)),
   oK 11 0])
 (.blk 0 (.loop (.seq (.reg [oJ 12 (.bin .lss (.t 11) (.t 10))])
 (.seq (.cond (.t 12)
  (.skip)
  (.exit 0))
 (.seq (.blk 1 (.seq (.reg [oM 13 11,
   oM 5 13])
 (.seq (.reg [oM 14 0,
   oM 15 5,
   oJ 16 (.idxS 1 (.t 14) (.t 15)),
   oM 18 1,
   oM 19 5,
   oJ 20 (.idxS 1 (.t 18) (.t 19)),
   oL 17 16,
   oL 21 20,
   oJ 22 (.bin .neq (.t 17) (.t 21))])
 (.cond (.t 22)
  (.seq (.reg [oJ 4 (.mov (.c (.p (.bool false))))])
  (.ret))
  (.skip)))))
 (.reg [oJ 23 (.bin .add (.t 11) (.c (.p (.int .i64 1)))),
   oM 11 23])))))))
 (.seq (.reg [oM 24 0,
   oJ 25 (.len false (.t 24)),
   oM 26 1,
   oJ 27 (.len false (.t 26)),
   oJ 28 (.bin .eql (.t 25) (.t 27)),
   oM 4 28])
 (.ret)))⟩
theorem ws:aj Tryz.prog kS=some pC:=by kernel_rfl
end Go.Proofs.YtnjbhgpbgmpkcaaGreatDoor
namespace Go.Proofs.YtnjbhgpbgmpkcaaGreatDoor
open Go Go.Aw
set_option maxRecDepth 100000
set_option maxHeartbeats 4000000
def DK(l:List Fd)(out:List Int)(id:Nat)(h:List AO):Prop:=
 h[0]?=some (.row 1 [[.p (fdL l)]])∧2≤h.length∧((out=[]∧id=0∧h[1]?=some (.row 1 [[.nils]]))∨(out≠[]∧2≤id∧h[1]?=some (.row 1 [[.sl id 1 0 out.length]])∧h[id]?=some (kD out)))
def cHV(F:FuncId)(l:List Fd):HV (List Int) where
 F:=F
 caps:=[.ptr 1 1 0 0,.ptr 0 1 0 0]
 n:=2
 Inv:=DK l
 capsOk:=by simp[below]
 len:=fun{out id h} H=>by
  obtain⟨_,h2,⟨_,rfl,_⟩|⟨_,_,_,h3⟩⟩:=H
  ·exact⟨h2,by omega⟩
  ·exact⟨h2,(List.getElem?_eq_some_iff.1 h3).1⟩
 frame:=fun{out id h h'} H K=>by
  obtain⟨h0,h2,H⟩:=H
  have k0:=K 0 (by omega) (.inl (by omega))
  have k1:=K 1 (by omega) (.inl (by omega))
  have hl:2≤h'.length:=by
   rcases H with⟨_,_,e⟩|⟨_,_,e,_⟩
   ·rw[e] at k1;have:=(List.getElem?_eq_some_iff.1 k1).1;omega
   ·rw[e] at k1;have:=(List.getElem?_eq_some_iff.1 k1).1;omega
  refine⟨by rw[k0];exact h0,hl,?_⟩
  rcases H with⟨a,b,e⟩|⟨a,b,e,f⟩
  ·exact .inl ⟨a,b,by rw[k1];exact e⟩
  ·exact .inr ⟨a,b,by rw[k1];exact e,by rw[K id (List.getElem?_eq_some_iff.1 f).1 (.inr rfl)];exact f⟩
def gy(l:List Fd)(out:List Int)(e:Ex):List Int:=if e.op=13 then out++[ixI (bW l e.name)] else out
def mm(out:List Int)(k:Nat):Prop:=out.length+k≤1099511627776
theorem qq(l:List Fd):∀out e k,mm out (k+1)→mm (gy l out e) k:=by
 intro out e k h
 unfold mm gy at*
 split
 ·simp;omega
 ·omega
variable (G:aC)
theorem vM(l:List Fd)(hl:l.length≤1073741824):∀out (e:Ex) k id h,mm out (k+1)→e.sz≤1073741824→DK l out id h→AC Tryz.prog G aI (.agg (e.cs.map .p)::[.ptr 1 1 0 0,.ptr 0 1 0 0]) h fun x h'=>x= .ret (.tup [])∧(cHV aI l).Left id h (gy l out e) h':=by
 intro out e k id h hk hz hI
 have hcs:=e.cs_eq
 have hlen:=(cHV aI l).len hI
 obtain⟨h0,h2,H⟩:=hI
 refine AC.go qm ?_
 have hm:DK l out id h:=⟨h0,h2,H⟩
 by_cases ho:e.op=13
 case neg=>
  have hp:gy l out e=out:=if_neg ho
  rw[hp]
  simp-implicitDefEqProofs[ef,hcs,ho]
  exact⟨id,(cHV aI l).more hm _,by simp,fun i hi _ _=>List.getElem?_append_left hi,.inl rfl⟩
 have hp:gy l out e=out++[ixI (bW l e.name)]:=if_pos ho
 rw[hp]
 have hfa:=AD G l e.name hl
 generalize ixI (bW l e.name)=y at hfa⊢
 obtain⟨a,b,r,rfl⟩:∃a b r,h=a::b::r:=by
  match h,h2 with
  |a::b::r,_=>exact⟨a,b,r,rfl⟩
 obtain rfl:a= .row 1 [[.p (fdL l)]]:=by simpa using h0
 rcases H with⟨rfl,rfl,h1⟩|⟨hne,hid,h1,hr⟩
 ·obtain rfl:b= .row 1 [[.nils]]:=by simpa using h1
  simp-implicitDefEqProofs[ef,hcs,ho]
  refine hfa.use ?_
  simp-implicitDefEqProofs[]
  refine⟨r.length+3,⟨rfl,by simp,.inr ⟨by simp,by omega,rfl,?_⟩⟩,by simp,fun i hi h2 _=>?_,.inr (by simp)⟩
  ·simp[kD]
  ·match i,h2 with
   |i+2,_=>
    simp at hi
    simp[List.getElem?_append_left hi]
 ·obtain rfl:b= .row 1 [[.sl id 1 0 out.length]]:=by simpa using h1
  obtain⟨j,rfl⟩:∃j,id=j+2:=⟨id-2,by omega⟩
  have hr':r[j]?=some (.row 1 (out.map fun x=>[.p (.int .i64 x)])):=by simpa[kD] using hr
  have hjl:=(List.getElem?_eq_some_iff.1 hr').1
  have gr:∀t,(r++t)[j]?=some (.row 1 (out.map fun x=>[.p (.int .i64 x)])):=fun t=>by rw[List.getElem?_append_left hjl];exact hr'
  simp-implicitDefEqProofs[ef,hcs,ho,gr]
  refine hfa.use ?_
  simp-implicitDefEqProofs[gr]
  unfold mm at hk
  refine⟨⟨by omega,by omega⟩,r.length+3,⟨rfl,by simp,.inr ⟨by simp,by omega,by simp,?_⟩⟩,by simp,fun i hi h2 h3=>?_,.inr (by simp)⟩
  ·have ht:List.take out.length (out.map fun x=>[AV.p (.int .i64 x)])=out.map fun x=>[AV.p (.int .i64 x)]:=List.take_of_length_le (by simp)
   rw[ht]
   simp[kD]
  ·match i,h2,h3 with
   |i+2,_,h3=>
    simp at hi h3
    have hne2:j≠i:=fun e=>h3 e.symm
    simp only[List.getElem?_cons_succ]
    rw[List.getElem?_append_left (by simp;omega),List.getElem?_set_ne hne2,List.getElem?_append_left hi]
end Go.Proofs.YtnjbhgpbgmpkcaaGreatDoor
namespace Go.Proofs.YtnjbhgpbgmpkcaaGreatDoor
open Go Go.Aw
set_option maxRecDepth 100000
set_option maxHeartbeats 4000000
abbrev Wds:=List (List UInt8)
mutual
def nmE(op:Int):Ex→Wds→Wds
 | .mk o _ s ks,out=>vO op ks (if o=op∧s∉out then out++[s] else out)
def vO(op:Int):List Ex→Wds→Wds
 |[],out=>out
 |e::r,out=>vO op r (nmE op e out)
end
mutual
def clS:Sm→Wds→Wds
 | .mk _ _ a b e,out=>nv e (nv b (vO 13 a out))
def nv:List Sm→Wds→Wds
 |[],out=>out
 |s::r,out=>nv r (clS s out)
end
def gh(l:List Fd)(bd:List Sm)(k:Nat):List Nat:=(List.range k).filter fun i=>match l[i]? with|some g=>decide (g.name∈nv bd [])|none=>false
def dO(l:List Fd)(k:Int):List Nat:=if bD l=0∧inR k 0 ((l.length:Int)-1)=true then(match l[k.toNat]? with|some f=>gh l f.body k.toNat|none=>[]) else[]
variable (G:aC)
def BG(l:List Fd)(bd:List Sm)(i:Nat):List Nat:=(List.range i).filter fun i=>match l[i]? with|some g=>decide (g.name∈nv bd [])|none=>false
theorem yr(l:List Fd)(bd:List Sm)(i:Nat):(BG l bd i).length≤i:=by
 have:=List.length_filter_le (fun i=>match l[i]? with|some g=>decide (g.name∈nv bd [])|none=>false) (List.range i)
 rw[List.length_range] at this
 exact this
end Go.Proofs.YtnjbhgpbgmpkcaaGreatDoor
namespace Go.Proofs.YtnjbhgpbgmpkcaaGreatDoor
open Go Go.Aw
set_option maxRecDepth 100000
set_option maxHeartbeats 4000000
theorem uk{xs:List Int}(hp:xs.Pairwise (· ≤ ·)):∀j,j<xs.length→∃i,i≤j∧Lib.keeps xs.toArray i=true∧xs[i]! =xs[j]! :=by
 intro j
 induction j with
 |zero=>intro h;exact⟨0,Nat.le_refl _,Lib.keeps_lt_one _ 0 (by omega),rfl⟩
 |succ j ih=>
  intro h
  by_cases e:xs.toArray[j+1]! =xs.toArray[j+1-1]!
  ·obtain⟨i,h1,h2,h3⟩:=ih (by omega)
   refine⟨i,by omega,h2,?_⟩
   have e':xs[j+1]! =xs[j]! :=by simpa using e
   rw[h3,e']
  ·exact⟨j+1,Nat.le_refl _,Lib.keeps_pos e,rfl⟩
theorem ye(xs:List Int):(Lib.compact xs).length≤xs.length:=by
 unfold Lib.compact Lib.compactUpTo
 rw[List.length_map]
 have:=List.length_filter_le (Lib.keeps xs.toArray) (List.range xs.length)
 rwa[List.length_range] at this
theorem zf{xs:List Int}(hp:xs.Pairwise (· ≤ ·))(x:Int):x∈Lib.compact xs↔x∈xs:=by
 unfold Lib.compact Lib.compactUpTo
 simp only[List.mem_map,List.mem_filter,List.mem_range]
 constructor
 ·rintro⟨j,⟨h1,_⟩,rfl⟩
  have e:xs.toArray[j]! =xs[j]:=by simp[h1]
  rw[e]
  exact List.getElem_mem h1
 ·intro h
  obtain⟨j,hj,rfl⟩:=List.mem_iff_getElem.1 h
  obtain⟨i,h1,h2,h3⟩:=uk hp j hj
  refine⟨i,⟨by omega,h2⟩,?_⟩
  have e:xs.toArray[i]! =xs[i]! :=by simp
  rw[e,h3]
  simp[hj]
theorem zO{xs:List Int}(hp:xs.Pairwise (· ≤ ·)):(Lib.compact xs).Pairwise (· < ·):=by
 unfold Lib.compact Lib.compactUpTo
 rw[List.pairwise_map]
 have hr:((List.range xs.length).filter (Lib.keeps xs.toArray)).Pairwise (· < ·):=List.Pairwise.filter _ List.pairwise_lt_range
 refine List.Pairwise.imp_of_mem (fun{a b} ha hb hab=>?_) hr
 simp only[List.mem_filter,List.mem_range] at ha hb
 obtain⟨hbl,hbk⟩:=hb
 unfold Lib.keeps at hbk
 have hne:xs.toArray[b]! ≠xs.toArray[b-1]! :=by
  rcases of_decide_eq_true hbk with h|h
  ·omega
  ·exact h
 have h1:xs.toArray[b]! =xs[b]:=by simp[hbl]
 have h2:xs.toArray[b-1]! =xs[b-1]:=by simp[show b-1<xs.length by omega]
 have h3:xs.toArray[a]! =xs[a]:=by simp[ha.1]
 rw[h1,h2] at hne
 rw[h1,h3]
 have k1:xs[b-1]≤xs[b]:=List.pairwise_iff_getElem.1 hp (b-1) b (by omega) hbl (by omega)
 have k2:xs[a]≤xs[b-1]:=by
  by_cases e:a=b-1
  ·subst e;exact Int.le_refl _
  ·exact List.pairwise_iff_getElem.1 hp a (b-1) ha.1 (by omega) (by omega)
 omega
theorem Cc(xs:List Int):(xs.mergeSort fun x y=>decide (x≤y)).Pairwise (· ≤ ·):=by
 have:=List.pairwise_mergeSort (le:=fun x y:Int=>decide (x≤y)) (fun a b c h1 h2=>by simp at*;omega) (fun a b=>by simp;omega) xs
 exact this.imp fun h=>by simpa using h
theorem DH{a b:List Int}(ha:a.Pairwise (· < ·))(hb:b.Pairwise (· < ·))(hm:∀x,x∈a↔x∈b):a=b:=by
 refine List.Perm.eq_of_pairwise (le:=(· < ·)) (fun x y _ _ h1 h2=>by omega) ha hb ?_
 exact(List.perm_ext_iff_of_nodup (ha.imp fun h=>by omega) (hb.imp fun h=>by omega)).2 hm
def eq(d:Nat)(bd:List Sm):List Ex:=(aW d bd).flatMap fun x=>ca x.1.args
def kh(l:List Fd)(bd:List Sm):List Int:=((eq 1 bd).filter fun e=>decide (e.op=13)).map fun e=>ixI (bW l e.name)
theorem uQ(l:List Fd):∀(es:List Ex) (out:List Int),es.foldl (gy l) out=out++(es.filter fun e=>decide (e.op=13)).map fun e=>ixI (bW l e.name)
 |[],out=>by simp
 |e::r,out=>by
  rw[List.foldl_cons,uQ l r,gy]
  by_cases h:e.op=13
  ·simp[h]
  ·simp[h]
mutual
theorem Hf(op:Int)(s:List UInt8):∀(e:Ex) (out:Wds),s∈nmE op e out↔s∈out∨∃x∈e.pre,x.op=op∧x.name=s
 | .mk o n t ks,out=>by
   rw[nmE,uh op s ks,Ex.pre]
   have hh:(s∈if o=op∧t∉out then out++[t] else out)↔s∈out∨(o=op∧t=s):=by
    split
    ·rename_i h
     simp only[List.mem_append,List.mem_singleton]
     constructor
     ·rintro(h1|h1)
      ·exact .inl h1
      ·exact .inr ⟨h.1,h1.symm⟩
     ·rintro(h1|h1)
      ·exact .inl h1
      ·exact .inr h1.2.symm
    ·rename_i h
     constructor
     ·exact .inl
     ·rintro(h1|⟨h1,h2⟩)
      ·exact h1
      ·rw[←h2];exact Classical.byContradiction fun hn=>h ⟨h1,hn⟩
   rw[hh]
   constructor
   ·rintro((h|⟨h1,h2⟩)|⟨x,h1,h2⟩)
    ·exact .inl h
    ·exact .inr ⟨_,List.mem_cons_self ..,h1,h2⟩
    ·exact .inr ⟨x,List.mem_cons_of_mem _ h1,h2⟩
   ·rintro(h|⟨x,h1,h2,h3⟩)
    ·exact .inl (.inl h)
    ·rcases List.mem_cons.1 h1 with rfl|h1
     ·exact .inl (.inr ⟨h2,h3⟩)
     ·exact .inr ⟨x,h1,h2,h3⟩
theorem uh(op:Int)(s:List UInt8):∀(l:List Ex) (out:Wds),s∈vO op l out↔s∈out∨∃x∈ca l,x.op=op∧x.name=s
 |[],out=>by simp[vO,ca]
 |e::r,out=>by
  rw[vO,uh op s r,Hf op s e,ca]
  constructor
  ·rintro((h|⟨x,h1,h2⟩)|⟨x,h1,h2⟩)
   ·exact .inl h
   ·exact .inr ⟨x,List.mem_append_left _ h1,h2⟩
   ·exact .inr ⟨x,List.mem_append_right _ h1,h2⟩
  ·rintro(h|⟨x,h1,h2⟩)
   ·exact .inl (.inl h)
   ·rcases List.mem_append.1 h1 with h1|h1
    ·exact .inl (.inr ⟨x,h1,h2⟩)
    ·exact .inr ⟨x,h1,h2⟩
end
theorem ro(d:Nat)(s:Sm)(r:List Sm):eq d (s::r)=ca s.args++(eq (d+1) s.body++eq (d+1) s.els)++eq d r:=by
 rw[eq,aW,Sm.pre_eq,List.flatMap_append,List.flatMap_cons,List.flatMap_append];rfl
mutual
theorem Hs(s:List UInt8):∀(x:Sm) (d:Nat) (out:Wds),s∈clS x out↔s∈out∨∃e∈ca x.args++(eq (d+1) x.body++eq (d+1) x.els),e.op=13∧e.name=s
 | .mk o n a b el,d,out=>by
   rw[clS,nu s el (d+1),nu s b (d+1),uh]
   simp only[Sm.args,Sm.body,Sm.els,List.mem_append]
   constructor
   ·rintro(((h|⟨x,h1,h2⟩)|⟨x,h1,h2⟩)|⟨x,h1,h2⟩)
    ·exact .inl h
    ·exact .inr ⟨x,.inl h1,h2⟩
    ·exact .inr ⟨x,.inr (.inl h1),h2⟩
    ·exact .inr ⟨x,.inr (.inr h1),h2⟩
   ·rintro(h|⟨x,h1|h1|h1,h2⟩)
    ·exact .inl (.inl (.inl h))
    ·exact .inl (.inl (.inr ⟨x,h1,h2⟩))
    ·exact .inl (.inr ⟨x,h1,h2⟩)
    ·exact .inr ⟨x,h1,h2⟩
theorem nu(s:List UInt8):∀(l:List Sm) (d:Nat) (out:Wds),s∈nv l out↔s∈out∨∃e∈eq d l,e.op=13∧e.name=s
 |[],d,out=>by simp[nv,eq,aW]
 |x::r,d,out=>by
  rw[nv,nu s r d,Hs s x d,ro]
  constructor
  ·rintro((h|⟨x,h1,h2⟩)|⟨x,h1,h2⟩)
   ·exact .inl h
   ·exact .inr ⟨x,List.mem_append_left _ h1,h2⟩
   ·exact .inr ⟨x,List.mem_append_right _ h1,h2⟩
  ·rintro(h|⟨x,h1,h2⟩)
   ·exact .inl (.inl h)
   ·rcases List.mem_append.1 h1 with h1|h1
    ·exact .inl (.inr ⟨x,h1,h2⟩)
    ·exact .inr ⟨x,h1,h2⟩
end
mutual
theorem zQ{fns:List Fd}{k:Nat}{vs:List LV}:∀(e:Ex) (c:Int),mP fns k vs e c=0→∀x∈e.pre,x.op=13→∃j,bW fns x.name=some j∧j<k
 | .mk o n t ks,c,h,x,hx,hop=>by
   rw[mP] at h
   rw[Ex.pre] at hx
   have h0:=gu h
   rcases List.mem_cons.1 hx with rfl|hx
   ·have hop':o=13:=hop
    have hz:¬(13:Int)=2:=by omega
    rw[gX,hop',if_neg hz,if_pos rfl,lz] at h0
    show∃j,bW fns t=some j∧j<k
    cases e:bW fns t with
    |none=>rw[e] at h0;simp only[fl] at h0;split at h0<;>omega
    |some j=>
     rw[e] at h0
     simp only[fl] at h0
     refine⟨j,rfl,?_⟩
     by_cases hj:k≤j
     ·rw[if_pos hj] at h0;split at h0<;>omega
     ·omega
   ·exact nI ks _ h x hx hop
theorem nI{fns:List Fd}{k:Nat}{vs:List LV}:∀(l:List Ex) (c:Int),bg fns k vs l c=0→∀x∈ca l,x.op=13→∃j,bW fns x.name=some j∧j<k
 |[],c,h,x,hx,_=>by simp[ca] at hx
 |e::r,c,h,x,hx,hop=>by
  rw[bg] at h
  rw[ca] at hx
  rcases List.mem_append.1 hx with hx|hx
  ·exact zQ e _ (gu h) x hx hop
  ·exact nI r _ h x hx hop
end
mutual
theorem CB{fns:List Fd}{k:Nat}:∀(s:Sm) (b d:Nat) (w:WS),(stW fns k b s w).code=0→∀x∈ca s.args++(eq (d+1) s.body++eq (d+1) s.els),x.op=13→∃j,bW fns x.name=some j∧j<k
 | .mk o n a bd el,b,d,w,h,x,hx,hop=>by
   rw[stW] at h
   rw[dW] at h
   have h1:=dN h
   rw[dW] at h1
   have h2:=dN h1
   have h3:=vg h2
   simp only[Sm.args,Sm.body,Sm.els,List.mem_append] at hx
   rcases hx with hx|hx|hx
   ·exact nI a _ h3 x hx hop
   ·exact mC bd _ (d+1) _ h1 x hx hop
   ·exact mC el _ (d+1) _ h x hx hop
theorem mC{fns:List Fd}{k:Nat}:∀(l:List Sm) (b d:Nat) (w:WS),(bn fns k b l w).code=0→∀x∈eq d l,x.op=13→∃j,bW fns x.name=some j∧j<k
 |[],b,d,w,h,x,hx,_=>by simp[eq,aW] at hx
 |s::r,b,d,w,h,x,hx,hop=>by
  rw[bn] at h
  rw[ro] at hx
  rcases List.mem_append.1 hx with hx|hx
  ·exact CB s b d _ (dN h) x hx hop
  ·exact mC r b d _ h x hx hop
end
theorem wN{vs:List LV}{s:List UInt8}{b:Nat}{c:Int}(h:pk vs s b c=0):c=0:=by
 unfold pk at h
 split at h
 ·exact h
 ·split at h
  ·unfold fl at h;split at h<;>omega
  ·exact h
theorem pV:∀{ps:List (List UInt8)} {w:WS},(bH ps w).code=0→w.code=0
 |[],w,h=>h
 |s::r,w,h=>wN (pV (ps:=r) (w:=eZ w s 0) h)
theorem sk{fns:List Fd}{k:Nat}{f:Fd}(h:(fnW fns k f).code=0):(∀x∈eq 1 f.body,x.op=13→∃j,bW fns x.name=some j∧j<k)∧bW fns f.name=some k:=by
 rw[fnW] at h
 refine⟨mC _ _ 1 _ h,?_⟩
 have h1:(if bW fns f.name=some k then(0:Int) else 2)=0:=pV (dN h)
 split at h1
 ·assumption
 ·omega
def xi(l:List Nat):List Int:=l.map fun(n:Nat)=>(n:Int)
theorem DJ{l:List Fd}{k:Nat}{f:Fd}(hc:bD l=0)(hk:l[k]?=some f):Lib.compact ((kh l f.body).mergeSort fun x y=>decide (x≤y))=xi (gh l f.body k):=by
 obtain⟨_,hall⟩:=(my l).1 hc
 obtain⟨hcalls,_⟩:=sk (hall k f hk)
 refine DH (zO (Cc _)) ?_ fun x=>?_
 ·rw[xi,List.pairwise_map,gh]
  exact(List.Pairwise.filter _ List.pairwise_lt_range).imp fun h=>by omega
 rw[zf (Cc _),List.mem_mergeSort,kh,xi,gh]
 simp only[List.mem_map,List.mem_filter,List.mem_range,decide_eq_true_eq]
 constructor
 ·rintro⟨e,⟨h1,h2⟩,rfl⟩
  obtain⟨j,h3,h4⟩:=hcalls e h1 h2
  obtain⟨h5,h6,h7⟩:=List.findIdx?_eq_some_iff_getElem.1 h3
  refine⟨j,⟨h4,?_⟩,by rw[h3];rfl⟩
  rw[List.getElem?_eq_getElem h5]
  simp only[decide_eq_true_eq] at h6⊢
  rw[h6]
  exact(nu _ _ 1 _).2 (.inr ⟨e,h1,h2,rfl⟩)
 ·rintro⟨i,⟨h1,h2⟩,rfl⟩
  have hil:i<l.length:=by have:=(List.getElem?_eq_some_iff.1 hk).1;omega
  have hg:=List.getElem?_eq_getElem hil
  rw[hg] at h2
  simp only[decide_eq_true_eq] at h2
  rcases(nu _ _ 1 _).1 h2 with h3|⟨e,h3,h4,h5⟩
  ·simp at h3
  ·obtain⟨_,hself⟩:=sk (hall i _ hg)
   exact⟨e,⟨h3,h4⟩,by rw[h5,hself];rfl⟩
end Go.Proofs.YtnjbhgpbgmpkcaaGreatDoor
