/-
  Contracts and lemmas that the card needs, part 9.
-/
import Derived.Test.YtaopbokndkdieaaGreatDoorCa8
namespace Go.Proofs.YtaopbokndkdieaaGreatDoor
open Go Go.Aw Go.ChangeShapes Go.WideShapes Go.ChangeAt Go.RowKit
set_option maxRecDepth 100000
abbrev MU:TypeId:=24
abbrev PH:TypeId:=22
abbrev QS:TypeId:=70
abbrev MT:TypeId:=59
abbrev OH:TypeId:=9
abbrev Lo:TypeId:=68
abbrev MW:TypeId:=119
abbrev Lh:TypeId:=117
abbrev Nu:TypeId:=168
abbrev Mu:TypeId:=3
abbrev Nt:TypeId:=4
abbrev DB:TypeId:=154
abbrev Kc:TypeId:=178
abbrev Lc:TypeId:=179
abbrev EY:TypeId:=36
abbrev Ad:TypeId:=5
theorem Oz:Kids Tryz.prog (· <Tryz.prog.types.size):=kids_rows (by kernel_rfl) (by kernel_rfl)
theorem PM:∀t e,t<Tryz.prog.types.size→Tryz.prog.underlying t=some (.slice e)→0<Tryz.prog.cellsOf e:=slices_full_of Tryz.prog (by kernel_rfl)
def JS:List TypeId:=[MU,PH,QS,MT,OH,Lo,MW,Lh,Nu,Mu,Nt,DB,Kc]
theorem JC:Plain Tryz.prog JS=true:=by kernel_rfl
theorem Ro:ownKnob Tryz.prog.godebug=none:=by kernel_rfl
theorem xc{H:Type}:∀l:List (DataW H),Rows.uptoBulkAll l=(l.map Rows.uptoBulk).sum
 |[]=>by simp[Rows.uptoBulkAll]
 |d::r=>by simp[Rows.uptoBulkAll,xc r]
theorem LQ{H:Type}:BulkOk (Rows.uptoBulk (H:=H)) where
 lit:=fun l=>by cases l<;>simp[Rows.uptoBulk]
 str:=fun s=>by simp[Rows.uptoBulk]
 nil:=by simp[Rows.uptoBulk]
 slice:=fun es sp=>by simp only[Rows.uptoBulk,xc];omega
 agg:=fun ps=>by simp only[Rows.uptoBulk,xc];omega
theorem IS{t e:TypeId}{vs:List PV}(h:Conf Tryz.prog t vs)(hu:Tryz.prog.underlying t=some (.slice e)):∃es,vs=[.lst (Tryz.prog.cellsOf e) es]∧es.length≤9223372036854775807∧∀x∈es,Conf Tryz.prog e x:=by
 cases h with
 |sl es e' hl hs=>rw[hu] at e';cases e';exact⟨es,rfl,hl,hs⟩
 |bool b e=>rw[e] at hu;cases hu
 |int n e=>rw[e] at hu;cases hu
 |str s e=>rw[e] at hu;cases hu
 |st vs e=>rw[e] at hu;cases hu
 |arr vs e=>rw[e] at hu;cases hu
def G0:aM:=fun g=>if g=dV then some dO else if g=cd then some [.tbl opK opV] else none
theorem MY:∀k,jt Tryz.prog (k+10) DB (Rows.laid_loop_example_wholeway_impl_keys (H:=Unit))=dO:=fun k=>by kernel_rfl
theorem QQ{W:World}{laid:List (String × DataW Unit)}(hL:laidMet Tryz.prog laid W)(h1:("loop.example/wholeway/impl.keys",Rows.laid_loop_example_wholeway_impl_keys)∈laid)(h2:("loop.example/wholeway/impl.opSign",Rows.laid_loop_example_wholeway_impl_opSign)∈laid):
 ∀g cs,G0 g=some cs→g<W.heap.size∧∀(j:Nat) (c:PV),cs[j]?=some c→∃v,W.cell? ⟨g,j,none⟩=some v∧PRel W (· <W.heap.size) c v:=by
 intro g cs h
 unfold G0 at h
 split at h
 ·rename_i e;subst e;cases h
  exact Gp JC hL (n:= "loop.example/wholeway/impl.keys") (d:=Rows.laid_loop_example_wholeway_impl_keys) (t:=DB) h1 (by kernel_rfl) (by kernel_rfl) (by decide) MY
 ·split at h
  ·rename_i e;subst e;cases h
   exact JD JC hL (n:= "loop.example/wholeway/impl.opSign") h2 (t:=Lc) (k:=Mu) (e:=Kc) (by kernel_rfl) (by kernel_rfl) (by kernel_rfl) (.inl ⟨.i64,by kernel_rfl⟩) (by decide) (by kernel_rfl) (by kernel_rfl) (fun m=>by kernel_rfl)
  ·cases h
def EP:List TypeId:=EY::Ad::JS
theorem Nl:Plain Tryz.prog EP=true:=by kernel_rfl
theorem DI{vs:List PV}(h:Conf Tryz.prog EY vs):∃l:List Int,vs=[qB l]∧l.length≤9223372036854775807∧Byt l:=by
 obtain⟨es,rfl,hl,h4⟩:=IS h (e:=Ad) (by kernel_rfl)
 have hk:∀x∈es,∃n:Int,x=[PV.int .u8 n]∧(Lit.int .u8 n).wf=true:=fun x hx=>HN (h4 x hx) (by kernel_rfl)
 obtain⟨l,rfl⟩:=EI (fun n:Int=>[PV.int .u8 n]) (fun x hx=>by obtain⟨n,e,_⟩:=hk x hx;exact⟨n,e⟩)
 rw[show Tryz.prog.cellsOf Ad=1 by kernel_rfl]
 refine⟨l,rfl,by rwa[RX] at hl,fun n hn=>?_⟩
 obtain⟨m,e,hw⟩:=hk [PV.int .u8 n] (RU.2 ⟨n,hn,rfl⟩)
 cases e
 simp[Lit.wf,IntKind.min,IntKind.max,IntKind.bits,IntKind.signed] at hw
 omega
end Go.Proofs.YtaopbokndkdieaaGreatDoor
