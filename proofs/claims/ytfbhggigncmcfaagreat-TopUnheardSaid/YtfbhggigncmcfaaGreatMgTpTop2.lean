/-
  Part 3 of the texts that the claim leans on.
-/
import Derived.Test.YtfbhggigncmcfaaGreatRows
import Derived.Laws.Externs
import Derived.Shelf.Strings.Search1
import Derived.Shelf.Strings.Search2
import Derived.Shelf.Strings.Search3
import Derived.Shelf.LaysM
import Derived.Test.YtfbhggigncmcfaaGreatProg
import Derived.Test.YtfbhggigncmcfaaGreatMgTpTop1
set_option maxRecDepth 100000
namespace Lf
open Go
structure an where
 aN:Sl
 Table:Sl
 Fuel:Int
 gH:Int
 bQ:Int
 Log:Int
 aG:Sl
abbrev an.v (x:an):Value:=.agg #[.slice x.aN.base x.aN.len x.aN.cap,.slice x.Table.base x.Table.len x.Table.cap,.int .i64 x.Fuel,.int .i64 x.gH,.int .i64 x.bQ,.int .i64 x.Log,.slice x.aG.base x.aG.len x.aG.cap]
@[reducible] def aQ : Shape where
 T:=an
 enc:=an.v
 dec:=λv=>match v with
  | .agg ⟨[.slice a0 a d,.slice a1 b e,.int .i64 a2,.int .i64 a3,.int .i64 a4,.int .i64 a5,.slice a6 c f]⟩=>some ⟨⟨a0,a,d⟩,⟨a1,b,e⟩,a2,a3,a4,a5,⟨a6,c,f⟩⟩
  | _=>none
 ok:=by intro v x h;split at h<;>cases h;rfl
structure aX where
 fm:Sl
 fQ:Sl
 jA:Int
 jB:Int
 gX:Int
 lH:Int
 eg:Sl
 fK:Sl
 gY:Sl
 kO:Int
 kP:Int
 jl:Int
 nk:Int
 fD:Sl
 S:Sl
 T:Sl
 Label:Int
abbrev aX.v (x:aX):Value:=.agg #[.slice x.fm.base x.fm.len x.fm.cap,.slice x.fQ.base x.fQ.len x.fQ.cap,.int .i64 x.jA,.int .i64 x.jB,.int .i64 x.gX,.int .i64 x.lH,.slice x.eg.base x.eg.len x.eg.cap,.slice x.fK.base x.fK.len x.fK.cap,.slice x.gY.base x.gY.len x.gY.cap,.int .i64 x.kO,.int .i64 x.kP,.int .i64 x.jl,.int .i64 x.nk,.slice x.fD.base x.fD.len x.fD.cap,.slice x.S.base x.S.len x.S.cap,.slice x.T.base x.T.len x.T.cap,.int .u64 x.Label]
@[reducible] def dD : Shape where
 T:=aX
 enc:=aX.v
 dec:=λv=>match v with
  | .agg ⟨[.slice a0 k s,.slice a1 l t,.int .i64 a2,.int .i64 a3,.int .i64 a4,.int .i64 a5,.slice a6 p z,.slice a7 q A,.slice i r B,.int .i64 j,.int .i64 a,.int .i64 b,.int .i64 c,.slice d m u,.slice e n w,.slice f o y,.int .u64 g]⟩=>some ⟨⟨a0,k,s⟩,⟨a1,l,t⟩,a2,a3,a4,a5,⟨a6,p,z⟩,⟨a7,q,A⟩,⟨i,r,B⟩,j,a,b,c,⟨d,m,u⟩,⟨e,n,w⟩,⟨f,o,y⟩,g⟩
  | _=>none
 ok:=by intro v x h;split at h<;>cases h;rfl
structure aC where
 Kind:Int
 N:Int
 V:Int
abbrev aC.v (x:aC):Value:=.agg #[.int .i64 x.Kind,.int .i64 x.N,.int .i64 x.V]
@[reducible] def bS : Shape where
 T:=aC
 enc:=aC.v
 dec:=λv=>match v with
  | .agg ⟨[.int .i64 a0,.int .i64 a1,.int .i64 a2]⟩=>some ⟨a0,a1,a2⟩
  | _=>none
 ok:=by intro v x h;split at h<;>cases h;rfl
structure cU where
 E:Int
 fg:Int
 Ae:Int
abbrev cU.v (x:cU):Value:=.agg #[.int .i64 x.E,.int .i64 x.fg,.int .i64 x.Ae]
@[reducible] def yu : Shape where
 T:=cU
 enc:=cU.v
 dec:=λv=>match v with
  | .agg ⟨[.int .i64 a0,.int .i64 a1,.int .i64 a2]⟩=>some ⟨a0,a1,a2⟩
  | _=>none
 ok:=by intro v x h;split at h<;>cases h;rfl
structure aD where
 fg:Int
 bZ:Sl
 aG:Sl
abbrev aD.v (x:aD):Value:=.agg #[.int .i64 x.fg,.slice x.bZ.base x.bZ.len x.bZ.cap,.slice x.aG.base x.aG.len x.aG.cap]
@[reducible] def qX : Shape where
 T:=aD
 enc:=aD.v
 dec:=λv=>match v with
  | .agg ⟨[.int .i64 a0,.slice a1 a c,.slice a2 b d]⟩=>some ⟨a0,⟨a1,a,c⟩,⟨a2,b,d⟩⟩
  | _=>none
 ok:=by intro v x h;split at h<;>cases h;rfl
structure eh where
 Part:Int
 A:Int
 F:Int
 OI:Int
abbrev eh.v (x:eh):Value:=.agg #[.int .i64 x.Part,.int .i64 x.A,.int .i64 x.F,.int .i64 x.OI]
@[reducible] def zxu : Shape where
 T:=eh
 enc:=eh.v
 dec:=λv=>match v with
  | .agg ⟨[.int .i64 a0,.int .i64 a1,.int .i64 a2,.int .i64 a3]⟩=>some ⟨a0,a1,a2,a3⟩
  | _=>none
 ok:=by intro v x h;split at h<;>cases h;rfl
structure aU where
 Part:Int
 Code:Sl
abbrev aU.v (x:aU):Value:=.agg #[.int .i64 x.Part,.slice x.Code.base x.Code.len x.Code.cap]
@[reducible] def bA : Shape where
 T:=aU
 enc:=aU.v
 dec:=λv=>match v with
  | .agg ⟨[.int .i64 a0,.slice a1 a b]⟩=>some ⟨a0,⟨a1,a,b⟩⟩
  | _=>none
 ok:=by intro v x h;split at h<;>cases h;rfl
structure aK where
 Op:Int
 A:Int
 B:Int
 C:Int
 iU:Int
abbrev aK.v (x:aK):Value:=.agg #[.int .i64 x.Op,.int .i64 x.A,.int .i64 x.B,.int .i64 x.C,.int .i64 x.iU]
@[reducible] def aV : Shape where
 T:=aK
 enc:=aK.v
 dec:=λv=>match v with
  | .agg ⟨[.int .i64 a0,.int .i64 a1,.int .i64 a2,.int .i64 a3,.int .i64 a4]⟩=>some ⟨a0,a1,a2,a3,a4⟩
  | _=>none
 ok:=by intro v x h;split at h<;>cases h;rfl
structure ed where
 m:Option Addr
 bY:Int
 owner:Int
abbrev ed.v (x:ed):Value:=.agg #[.pointer x.m,.int .i64 x.bY,.int .i64 x.owner]
@[reducible] def AJ : Shape where
 T:=ed
 enc:=ed.v
 dec:=λv=>match v with
  | .agg ⟨[.pointer a0,.int .i64 a1,.int .i64 a2]⟩=>some ⟨a0,a1,a2⟩
  | _=>none
 ok:=by intro v x h;split at h<;>cases h;rfl
structure cc where
 Cursor:Int
 Log:Sl
 nX:Int
 eN:Int
 eO:Sl
 dO:Sl
abbrev cc.v (x:cc):Value:=.agg #[.int .i64 x.Cursor,.slice x.Log.base x.Log.len x.Log.cap,.int .i64 x.nX,.int .i64 x.eN,.slice x.eO.base x.eO.len x.eO.cap,.slice x.dO.base x.dO.len x.dO.cap]
@[reducible] def cg : Shape where
 T:=cc
 enc:=cc.v
 dec:=λv=>match v with
  | .agg ⟨[.int .i64 a0,.slice a1 a d,.int .i64 a2,.int .i64 a3,.slice a4 b e,.slice a5 c f]⟩=>some ⟨a0,⟨a1,a,d⟩,a2,a3,⟨a4,b,e⟩,⟨a5,c,f⟩⟩
  | _=>none
 ok:=by intro v x h;split at h<;>cases h;rfl
structure gQ where
 a0:Int
 a1:Int
 a2:Int
 a3:Int
 a4:Int
 a5:Int
 a6:Int
 a7:Int
abbrev gQ.v (x:gQ):Value:=.agg #[.int .i64 x.a0,.int .i64 x.a1,.int .i64 x.a2,.int .i64 x.a3,.int .i64 x.a4,.int .i64 x.a5,.int .i64 x.a6,.int .i64 x.a7]
@[reducible] def xw : Shape where
 T:=gQ
 enc:=gQ.v
 dec:=λv=>match v with
  | .agg ⟨[.int .i64 a0,.int .i64 a1,.int .i64 a2,.int .i64 a3,.int .i64 a4,.int .i64 a5,.int .i64 a6,.int .i64 a7]⟩=>some ⟨a0,a1,a2,a3,a4,a5,a6,a7⟩
  | _=>none
 ok:=by intro v x h;split at h<;>cases h;rfl
structure br where
 State:Int
 PC:Int
 cw:Int
 cx:Int
 cC:Int
 cD:Int
 cE:Int
 cF:Int
 cG:Int
 cH:Int
 Cursor:Int
 Timer:Int
 km:Bool
 n8:Int
 fL:Sl
abbrev br.v (x:br):Value:=.agg #[.int .i64 x.State,.int .i64 x.PC,.int .i64 x.cw,.int .i64 x.cx,.int .i64 x.cC,.int .i64 x.cD,.int .i64 x.cE,.int .i64 x.cF,.int .i64 x.cG,.int .i64 x.cH,.int .i64 x.Cursor,.int .i64 x.Timer,.bool x.km,.int .i64 x.n8,.slice x.fL.base x.fL.len x.fL.cap]
@[reducible] def bB : Shape where
 T:=br
 enc:=br.v
 dec:=λv=>match v with
  | .agg ⟨[.int .i64 a0,.int .i64 a1,.int .i64 a2,.int .i64 a3,.int .i64 a4,.int .i64 a5,.int .i64 a6,.int .i64 a7,.int .i64 f,.int .i64 g,.int .i64 a,.int .i64 b,.bool c,.int .i64 d,.slice e i j]⟩=>some ⟨a0,a1,a2,a3,a4,a5,a6,a7,f,g,a,b,c,d,⟨e,i,j⟩⟩
  | _=>none
 ok:=by intro v x h;split at h<;>cases h;rfl
structure fR where
 dp:Int
 gH:Int
 Place:Int
 In:Int
 Out:Int
abbrev fR.v (x:fR):Value:=.agg #[.int .i64 x.dp,.int .i64 x.gH,.int .i64 x.Place,.int .i64 x.In,.int .i64 x.Out]
@[reducible] def Sj : Shape where
 T:=fR
 enc:=fR.v
 dec:=λv=>match v with
  | .agg ⟨[.int .i64 a0,.int .i64 a1,.int .i64 a2,.int .i64 a3,.int .i64 a4]⟩=>some ⟨a0,a1,a2,a3,a4⟩
  | _=>none
 ok:=by intro v x h;split at h<;>cases h;rfl
structure hO where
 many:Int
 gap:Int
 fuel:Int
abbrev hO.v (x:hO):Value:=.agg #[.int .i64 x.many,.int .i64 x.gap,.int .i64 x.fuel]
@[reducible] def H0 : Shape where
 T:=hO
 enc:=hO.v
 dec:=λv=>match v with
  | .agg ⟨[.int .i64 a0,.int .i64 a1,.int .i64 a2]⟩=>some ⟨a0,a1,a2⟩
  | _=>none
 ok:=by intro v x h;split at h<;>cases h;rfl
structure lh where
 a0:Bool
 a1:Bool
 a2:Bool
 a3:Bool
abbrev lh.v (x:lh):Value:=.agg #[.bool x.a0,.bool x.a1,.bool x.a2,.bool x.a3]
@[reducible] def Ze : Shape where
 T:=lh
 enc:=lh.v
 dec:=λv=>match v with
  | .agg ⟨[.bool a0,.bool a1,.bool a2,.bool a3]⟩=>some ⟨a0,a1,a2,a3⟩
  | _=>none
 ok:=by intro v x h;split at h<;>cases h;rfl
structure gZ where
 b:Sl
 at_:Int
 e:Int
 place:Int
abbrev gZ.v (x:gZ):Value:=.agg #[.slice x.b.base x.b.len x.b.cap,.int .i64 x.at_,.int .i64 x.e,.int .i64 x.place]
@[reducible] def UF : Shape where
 T:=gZ
 enc:=gZ.v
 dec:=λv=>match v with
  | .agg ⟨[.slice a0 a b,.int .i64 a1,.int .i64 a2,.int .i64 a3]⟩=>some ⟨⟨a0,a,b⟩,a1,a2,a3⟩
  | _=>none
 ok:=by intro v x h;split at h<;>cases h;rfl
structure fc where
 fg:Int
 dp:Int
 fh:Int
abbrev fc.v (x:fc):Value:=.agg #[.int .i64 x.fg,.int .i64 x.dp,.int .i64 x.fh]
@[reducible] def dK : Shape where
 T:=fc
 enc:=fc.v
 dec:=λv=>match v with
  | .agg ⟨[.int .i64 a0,.int .i64 a1,.int .i64 a2]⟩=>some ⟨a0,a1,a2⟩
  | _=>none
 ok:=by intro v x h;split at h<;>cases h;rfl
structure cl where
 dZ:Sl
 cM:Sl
 lK:Int
 iF:Int
abbrev cl.v (x:cl):Value:=.agg #[.slice x.dZ.base x.dZ.len x.dZ.cap,.slice x.cM.base x.cM.len x.cM.cap,.int .i64 x.lK,.int .i64 x.iF]
@[reducible] def bR : Shape where
 T:=cl
 enc:=cl.v
 dec:=λv=>match v with
  | .agg ⟨[.slice a0 a c,.slice a1 b d,.int .i64 a2,.int .i64 a3]⟩=>some ⟨⟨a0,a,c⟩,⟨a1,b,d⟩,a2,a3⟩
  | _=>none
 ok:=by intro v x h;split at h<;>cases h;rfl
structure aW where
 gB:Sl
 iK:Sl
 lY:Int
 od:Int
 my:Int
 oe:Int
 gC:Sl
 table:Option Addr
 ui:Option Addr
 tick:Int
 parts:Sl
 procs:Sl
abbrev aW.v (x:aW):Value:=.agg #[.slice x.gB.base x.gB.len x.gB.cap,.slice x.iK.base x.iK.len x.iK.cap,.int .i64 x.lY,.int .i64 x.od,.int .i64 x.my,.int .i64 x.oe,.slice x.gC.base x.gC.len x.gC.cap,.pointer x.table,.pointer x.ui,.int .i64 x.tick,.slice x.parts.base x.parts.len x.parts.cap,.slice x.procs.base x.procs.len x.procs.cap]
@[reducible] def IY : Shape where
 T:=aW
 enc:=aW.v
 dec:=λv=>match v with
  | .agg ⟨[.slice a0 e k,.slice a1 f l,.int .i64 a2,.int .i64 a3,.int .i64 a4,.int .i64 a5,.slice a6 j o,.pointer a7,.pointer c,.int .i64 d,.slice a g m,.slice b i n]⟩=>some ⟨⟨a0,e,k⟩,⟨a1,f,l⟩,a2,a3,a4,a5,⟨a6,j,o⟩,a7,c,d,⟨a,g,m⟩,⟨b,i,n⟩⟩
  | _=>none
 ok:=by intro v x h;split at h<;>cases h;rfl
structure bg where
 procs:Sl
 ah:Int
 log:Sl
 lost:Int
 forbidden:Int
 ae:Option Addr
 dY:Option Addr
abbrev bg.v (x:bg):Value:=.agg #[.slice x.procs.base x.procs.len x.procs.cap,.int .i64 x.ah,.slice x.log.base x.log.len x.log.cap,.int .i64 x.lost,.int .i64 x.forbidden,.pointer x.ae,.pointer x.dY]
@[reducible] def xu : Shape where
 T:=bg
 enc:=bg.v
 dec:=λv=>match v with
  | .agg ⟨[.slice a0 a c,.int .i64 a1,.slice a2 b d,.int .i64 a3,.int .i64 a4,.pointer a5,.pointer a6]⟩=>some ⟨⟨a0,a,c⟩,a1,⟨a2,b,d⟩,a3,a4,a5,a6⟩
  | _=>none
 ok:=by intro v x h;split at h<;>cases h;rfl
structure bc where
 PC:Int
 cw:Int
 cx:Int
 cC:Int
 cD:Int
 cE:Int
 cF:Int
 cG:Int
 cH:Int
abbrev bc.v (x:bc):Value:=.agg #[.int .i64 x.PC,.int .i64 x.cw,.int .i64 x.cx,.int .i64 x.cC,.int .i64 x.cD,.int .i64 x.cE,.int .i64 x.cF,.int .i64 x.cG,.int .i64 x.cH]
@[reducible] def fk : Shape where
 T:=bc
 enc:=bc.v
 dec:=λv=>match v with
  | .agg ⟨[.int .i64 a0,.int .i64 a1,.int .i64 a2,.int .i64 a3,.int .i64 a4,.int .i64 a5,.int .i64 a6,.int .i64 a7,.int .i64 a]⟩=>some ⟨a0,a1,a2,a3,a4,a5,a6,a7,a⟩
  | _=>none
 ok:=by intro v x h;split at h<;>cases h;rfl
structure aO where
 dG:Int
 part:Int
 code:Sl
 state:Int
 j3:Int
 fZ:Int
 gg:Int
 gh:Int
 gi:Int
 gk:Int
 gl:Int
 gm:Int
 gr:Int
 bL:Bool
 post:Option Addr
abbrev aO.v (x:aO):Value:=.agg #[.int .i64 x.dG,.int .i64 x.part,.slice x.code.base x.code.len x.code.cap,.int .i64 x.state,.int .i64 x.j3,.int .i64 x.fZ,.int .i64 x.gg,.int .i64 x.gh,.int .i64 x.gi,.int .i64 x.gk,.int .i64 x.gl,.int .i64 x.gm,.int .i64 x.gr,.bool x.bL,.pointer x.post]
@[reducible] def bm : Shape where
 T:=aO
 enc:=aO.v
 dec:=λv=>match v with
  | .agg ⟨[.int .i64 a0,.int .i64 a1,.slice a2 i j,.int .i64 a3,.int .i64 a4,.int .i64 a5,.int .i64 a6,.int .i64 a7,.int .i64 f,.int .i64 g,.int .i64 a,.int .i64 b,.int .i64 c,.bool d,.pointer e]⟩=>some ⟨a0,a1,⟨a2,i,j⟩,a3,a4,a5,a6,a7,f,g,a,b,c,d,e⟩
  | _=>none
 ok:=by intro v x h;split at h<;>cases h;rfl
structure hU where
 gB:Sl
 iK:Sl
 lY:Int
 od:Int
 my:Int
 oe:Int
 gC:Sl
 m:Option Addr
 time:Int
 messages:Sl
 gone:Sl
 sJ:Sl
 aj:Option Nat
 waits:Option Nat
abbrev hU.v (x:hU):Value:=.agg #[.slice x.gB.base x.gB.len x.gB.cap,.slice x.iK.base x.iK.len x.iK.cap,.int .i64 x.lY,.int .i64 x.od,.int .i64 x.my,.int .i64 x.oe,.slice x.gC.base x.gC.len x.gC.cap,.pointer x.m,.int .i64 x.time,.slice x.messages.base x.messages.len x.messages.cap,.slice x.gone.base x.gone.len x.gone.cap,.slice x.sJ.base x.sJ.len x.sJ.cap,.map x.aj,.map x.waits]
@[reducible] def UH : Shape where
 T:=hU
 enc:=hU.v
 dec:=λv=>match v with
  | .agg ⟨[.slice a0 g n,.slice a1 i o,.int .i64 a2,.int .i64 a3,.int .i64 a4,.int .i64 a5,.slice a6 l r,.pointer a7,.int .i64 e,.slice f m s,.slice a j p,.slice b k q,.map c,.map d]⟩=>some ⟨⟨a0,g,n⟩,⟨a1,i,o⟩,a2,a3,a4,a5,⟨a6,l,r⟩,a7,e,⟨f,m,s⟩,⟨a,j,p⟩,⟨b,k,q⟩,c,d⟩
  | _=>none
 ok:=by intro v x h;split at h<;>cases h;rfl
structure bJ where
 dp:Int
 fh:Int
abbrev bJ.v (x:bJ):Value:=.agg #[.int .i64 x.dp,.int .i64 x.fh]
@[reducible] def aH : Shape where
 T:=bJ
 enc:=bJ.v
 dec:=λv=>match v with
  | .agg ⟨[.int .i64 a0,.int .i64 a1]⟩=>some ⟨a0,a1⟩
  | _=>none
 ok:=by intro v x h;split at h<;>cases h;rfl
structure fN where
 l:Sl
abbrev fN.v (x:fN):Value:=.agg #[.slice x.l.base x.l.len x.l.cap]
@[reducible] def EO : Shape where
 T:=fN
 enc:=fN.v
 dec:=λv=>match v with
  | .agg ⟨[.slice a0 a b]⟩=>some ⟨⟨a0,a,b⟩⟩
  | _=>none
 ok:=by intro v x h;split at h<;>cases h;rfl
structure aM where
 owner:Int
 queue:Sl
abbrev aM.v (x:aM):Value:=.agg #[.int .i64 x.owner,.slice x.queue.base x.queue.len x.queue.cap]
@[reducible] def ft : Shape where
 T:=aM
 enc:=aM.v
 dec:=λv=>match v with
  | .agg ⟨[.int .i64 a0,.slice a1 a b]⟩=>some ⟨a0,⟨a1,a,b⟩⟩
  | _=>none
 ok:=by intro v x h;split at h<;>cases h;rfl
structure db where
 aj:Sl
 ah:Int
abbrev db.v (x:db):Value:=.agg #[.slice x.aj.base x.aj.len x.aj.cap,.int .i64 x.ah]
@[reducible] def Oc : Shape where
 T:=db
 enc:=db.v
 dec:=λv=>match v with
  | .agg ⟨[.slice a0 a b,.int .i64 a1]⟩=>some ⟨⟨a0,a,b⟩,a1⟩
  | _=>none
 ok:=by intro v x h;split at h<;>cases h;rfl
structure ay where
 due:Int
 dG:Int
abbrev ay.v (x:ay):Value:=.agg #[.int .i64 x.due,.int .i64 x.dG]
@[reducible] def aY : Shape where
 T:=ay
 enc:=ay.v
 dec:=λv=>match v with
  | .agg ⟨[.int .i64 a0,.int .i64 a1]⟩=>some ⟨a0,a1⟩
  | _=>none
 ok:=by intro v x h;split at h<;>cases h;rfl
structure ib where
 l:Sl
 of_:Option Nat
abbrev ib.v (x:ib):Value:=.agg #[.slice x.l.base x.l.len x.l.cap,.map x.of_]
@[reducible] def UJ : Shape where
 T:=ib
 enc:=ib.v
 dec:=λv=>match v with
  | .agg ⟨[.slice a0 a b,.map a1]⟩=>some ⟨⟨a0,a,b⟩,a1⟩
  | _=>none
 ok:=by intro v x h;split at h<;>cases h;rfl
structure iI where
 proc:Int
 lane:Int
abbrev iI.v (x:iI):Value:=.agg #[.int .i64 x.proc,.int .i64 x.lane]
@[reducible] def Wn : Shape where
 T:=iI
 enc:=iI.v
 dec:=λv=>match v with
  | .agg ⟨[.int .i64 a0,.int .i64 a1]⟩=>some ⟨a0,a1⟩
  | _=>none
 ok:=by intro v x h;split at h<;>cases h;rfl
structure iJ where
 lock:Int
 FC:Int
abbrev iJ.v (x:iJ):Value:=.agg #[.int .i64 x.lock,.int .i64 x.FC]
@[reducible] def Iw : Shape where
 T:=iJ
 enc:=iJ.v
 dec:=λv=>match v with
  | .agg ⟨[.int .i64 a0,.int .i64 a1]⟩=>some ⟨a0,a1⟩
  | _=>none
 ok:=by intro v x h;split at h<;>cases h;rfl
structure hH where
 dp:Int
 xH:Int
 Fe:Int
 Had:Int
abbrev hH.v (x:hH):Value:=.agg #[.int .i64 x.dp,.int .i64 x.xH,.int .i64 x.Fe,.int .i64 x.Had]
@[reducible] def UL : Shape where
 T:=hH
 enc:=hH.v
 dec:=λv=>match v with
  | .agg ⟨[.int .i64 a0,.int .i64 a1,.int .i64 a2,.int .i64 a3]⟩=>some ⟨a0,a1,a2,a3⟩
  | _=>none
 ok:=by intro v x h;split at h<;>cases h;rfl
structure hZ where
 table:Sl
 parts:Int
abbrev hZ.v (x:hZ):Value:=.agg #[.slice x.table.base x.table.len x.table.cap,.int .i64 x.parts]
@[reducible] def UN : Shape where
 T:=hZ
 enc:=hZ.v
 dec:=λv=>match v with
  | .agg ⟨[.slice a0 a b,.int .i64 a1]⟩=>some ⟨⟨a0,a,b⟩,a1⟩
  | _=>none
 ok:=by intro v x h;split at h<;>cases h;rfl
structure dJ where
 T:Sl
abbrev dJ.v (x:dJ):Value:=.agg #[.slice x.T.base x.T.len x.T.cap]
@[reducible] def zvo : Shape where
 T:=dJ
 enc:=dJ.v
 dec:=λv=>match v with
  | .agg ⟨[.slice a0 a b]⟩=>some ⟨⟨a0,a,b⟩⟩
  | _=>none
 ok:=by intro v x h;split at h<;>cases h;rfl
structure ia where
 labels:Sl
 by_:Option Nat
abbrev ia.v (x:ia):Value:=.agg #[.slice x.labels.base x.labels.len x.labels.cap,.map x.by_]
@[reducible] def UP : Shape where
 T:=ia
 enc:=ia.v
 dec:=λv=>match v with
  | .agg ⟨[.slice a0 a b,.map a1]⟩=>some ⟨⟨a0,a,b⟩,a1⟩
  | _=>none
 ok:=by intro v x h;split at h<;>cases h;rfl
structure dw where
 room:Int
 values:Sl
 waiters:Sl
 taken:Int
 dropped:Int
abbrev dw.v (x:dw):Value:=.agg #[.int .i64 x.room,.slice x.values.base x.values.len x.values.cap,.slice x.waiters.base x.waiters.len x.waiters.cap,.int .i64 x.taken,.int .i64 x.dropped]
@[reducible] def De : Shape where
 T:=dw
 enc:=dw.v
 dec:=λv=>match v with
  | .agg ⟨[.int .i64 a0,.slice a1 a c,.slice a2 b d,.int .i64 a3,.int .i64 a4]⟩=>some ⟨a0,⟨a1,a,c⟩,⟨a2,b,d⟩,a3,a4⟩
  | _=>none
 ok:=by intro v x h;split at h<;>cases h;rfl
structure iH where
 taken:Int
 many:Int
 open_:Sl
abbrev iH.v (x:iH):Value:=.agg #[.int .i64 x.taken,.int .i64 x.many,.slice x.open_.base x.open_.len x.open_.cap]
@[reducible] def Wo : Shape where
 T:=iH
 enc:=iH.v
 dec:=λv=>match v with
  | .agg ⟨[.int .i64 a0,.int .i64 a1,.slice a2 a b]⟩=>some ⟨a0,a1,⟨a2,a,b⟩⟩
  | _=>none
 ok:=by intro v x h;split at h<;>cases h;rfl
structure eD where
 Kind:Int
 To:Int
 fh:Int
abbrev eD.v (x:eD):Value:=.agg #[.int .i64 x.Kind,.int .i64 x.To,.int .i64 x.fh]
@[reducible] def Dp : Shape where
 T:=eD
 enc:=eD.v
 dec:=λv=>match v with
  | .agg ⟨[.int .i64 a0,.int .i64 a1,.int .i64 a2]⟩=>some ⟨a0,a1,a2⟩
  | _=>none
 ok:=by intro v x h;split at h<;>cases h;rfl
structure cq where
 xH:Int
 dp:Int
abbrev cq.v (x:cq):Value:=.agg #[.int .i64 x.xH,.int .i64 x.dp]
@[reducible] def N2 : Shape where
 T:=cq
 enc:=cq.v
 dec:=λv=>match v with
  | .agg ⟨[.int .i64 a0,.int .i64 a1]⟩=>some ⟨a0,a1⟩
  | _=>none
 ok:=by intro v x h;split at h<;>cases h;rfl
structure dA where
 has:Bool
 n:Int
abbrev dA.v (x:dA):Value:=.agg #[.bool x.has,.int .i64 x.n]
@[reducible] def Iq : Shape where
 T:=dA
 enc:=dA.v
 dec:=λv=>match v with
  | .agg ⟨[.bool a0,.int .i64 a1]⟩=>some ⟨a0,a1⟩
  | _=>none
 ok:=by intro v x h;split at h<;>cases h;rfl
end Lf
namespace Lf
open Go Go.Proofs Tryz
def cK (d i:TypeInfo) (sh:Shape):Ty:={bO:=d.desc,size:=i.size,bytes:=i.bytes,zero:=i.zero.getD (.tuple #[]),sh:=sh}
noncomputable section
def ty0 :Ty:=cK t0 t0 uA
def te :Ty:=cK t2 t2 (af .i64)
def uO :Ty:=cK t3 t3 (af .i64)
def ty4 :Ty:=cK t4 t4 bn
def ty5 :Ty:=cK t5 t5 (af .u8)
def ty9 :Ty:=cK t9 t9 qz
def O8 :Ty:=cK t20 t20 kg
def ye :Ty:=cK t22 t22 au
def tf :Ty:=cK t23 t23 au
def Bu :Ty:=cK t24 t24 au
def Hf :Ty:=cK t25 t26 aQ
def Hj :Ty:=cK t27 t27 au
def Hn :Ty:=cK t28 t28 (af .u64)
def Hv :Ty:=cK t29 t30 dD
def O9 :Ty:=cK t32 t32 au
def HH :Ty:=cK t3 t33 (af .i64)
def Pa :Ty:=cK t34 t34 (nK au (af .i64))
def Pb :Ty:=cK t36 t36 ag
def Pc :Ty:=cK t37 t37 (pU ag (af .i64) (af .i64))
def Bv :Ty:=cK t39 t40 bS
def HK :Ty:=cK t41 t42 yu
def Pd :Ty:=cK t45 t45 au
def Pe :Ty:=cK t46 t46 au
def Pf :Ty:=cK t47 t48 qX
def Pg :Ty:=cK t51 t51 au
def Ph :Ty:=cK t54 t55 zxu
def Pj :Ty:=cK t58 t58 (nK (af .i64) (af .i64))
def Bw :Ty:=cK t62 t62 au
def HL :Ty:=cK t63 t64 bA
def Bx :Ty:=cK t69 t70 aV
def Pk :Ty:=cK t71 t71 (pU aQ (af .i64) (af .i64))
def Pl :Ty:=cK t73 t73 ag
def Pm :Ty:=cK t74 t74 (nK ag (af .i64))
def Pn :Ty:=cK t76 t77 AJ
def Po :Ty:=cK t78 t78 kg
def Pp :Ty:=cK t79 t79 (nK kg bn)
def Pq :Ty:=cK t80 t80 gv
def Bz :Ty:=cK t83 t83 au
def Pr :Ty:=cK t84 t84 au
def Pt :Ty:=cK t85 t86 cg
def HM :Ty:=cK t88 t88 xw
def Pu :Ty:=cK t89 t89 au
def Pv :Ty:=cK t90 t91 bB
def Pw :Ty:=cK t93 t93 au
def Px :Ty:=cK t94 t94 au
def Py :Ty:=cK t95 t95 (pU au au (af .i64))
def Pz :Ty:=cK t97 t98 Sj
def F8 :Ty:=cK t99 t100 H0
def F9 :Ty:=cK t101 t101 (nK H0 bn)
def Ga :Ty:=cK t105 t105 (pU (af .i64) (af .i64) bn)
def Gb :Ty:=cK t112 t112 Ze
def Gc :Ty:=cK t117 t117 ag
def Gd :Ty:=cK t118 t119 UF
def Ge :Ty:=cK t122 t122 ag
def AD :Ty:=cK t128 t129 dK
def wu :Ty:=cK t131 t131 au
def uk :Ty:=cK t132 t132 au
def Gf :Ty:=cK t133 t134 bR
def Gg :Ty:=cK t135 t135 ag
def Gh :Ty:=cK t136 t136 ag
def Gi :Ty:=cK t137 t137 au
def Gj :Ty:=cK t138 t138 au
def Gk :Ty:=cK t139 t140 IY
def Gl :Ty:=cK t141 t141 ag
def Gm :Ty:=cK t142 t142 (nK au au)
def Gn :Ty:=cK t143 t143 ag
def Gp :Ty:=cK t144 t144 ag
def Gq :Ty:=cK t145 t146 xu
def Gr :Ty:=cK t149 t149 ag
def Gs :Ty:=cK t150 t150 (nK au (af .i64))
def Gt :Ty:=cK t151 t152 fk
def Gu :Ty:=cK t153 t153 ag
def Gv :Ty:=cK t154 t155 bm
def Gw :Ty:=cK t157 t157 (nK (af .i64) bn)
def Gx :Ty:=cK t159 t159 ag
def Gy :Ty:=cK t160 t160 gv
def Gz :Ty:=cK t161 t161 gv
def GA :Ty:=cK t162 t163 UH
def GC :Ty:=cK t166 t166 kf
def GD :Ty:=cK t167 t167 (pU ag (af .i64) (af .i64))
def GF :Ty:=cK t169 t169 (nK (af .u64) (af .u64))
def GG :Ty:=cK t171 t171 ag
def GH :Ty:=cK t172 t172 (pU ag (af .i64) (af .i64))
def GI :Ty:=cK t177 t177 kf
def GJ :Ty:=cK t183 t183 (pU ag (af .i64) (af .i64))
def GK :Ty:=cK t185 t185 (nK ag (af .i64))
def GL :Ty:=cK t188 t188 (nK ag (af .i64))
def wv :Ty:=cK t191 t192 aH
def GM :Ty:=cK t193 t193 au
def GN :Ty:=cK t194 t195 EO
def GO :Ty:=cK t196 t197 ft
def GP :Ty:=cK t199 t199 au
def GQ :Ty:=cK t200 t201 Oc
def GR :Ty:=cK t202 t202 ag
def um :Ty:=cK t204 t205 aY
def GS :Ty:=cK t206 t206 (nK aY bn)
def wx :Ty:=cK t207 t207 au
def GU :Ty:=cK t208 t208 gv
def GV :Ty:=cK t209 t210 UJ
def GW :Ty:=cK t212 t213 Wn
def GX :Ty:=cK t215 t216 Iw
def GY :Ty:=cK t217 t217 (nK Iw bn)
def GZ :Ty:=cK t218 t219 UL
def G0 :Ty:=cK t226 t226 kf
def G3 :Ty:=cK t227 t228 UN
def G4 :Ty:=cK t230 t230 (af .u64)
def G5 :Ty:=cK t231 t232 zvo
def G6 :Ty:=cK t240 t240 gv
def G7 :Ty:=cK t241 t242 UP
def G8 :Ty:=cK t243 t243 (nK (af .i64) bn)
def G9 :Ty:=cK t245 t245 (nK ag (af .i64))
def Ha :Ty:=cK t248 t248 kf
def Hb :Ty:=cK t250 t250 (nK (af .u64) (af .u64))
def Hc :Ty:=cK t253 t254 De
def Hd :Ty:=cK t256 t257 Wo
def He :Ty:=cK t259 t259 kf
def Hg :Ty:=cK t263 t264 Dp
def Hh :Ty:=cK t265 t265 (nK fk Dp)
def Hi :Ty:=cK t269 t269 (nK bn (af .i64))
def Hk :Ty:=cK t272 t272 (nK (af .i64) (af .i64))
def Hl :Ty:=cK t275 t275 au
def Hm :Ty:=cK t277 t278 N2
def Ho :Ty:=cK t283 t283 (zx bn bn bn bn)
def Hq :Ty:=cK t286 t286 Iq
def Hr :Ty:=cK t287 t287 au
def Hs :Ty:=cK t295 t295 (af .u32)
def Ht :Ty:=cK t296 t296 (nK (af .u32) (af .u32))
def Hu :Ty:=cK t298 t298 (nK aV bn)
def Hw :Ty:=cK t300 t300 (pU Dp bn bn)
def Hx :Ty:=cK t303 t303 (nK (af .i64) (af .i64))
def Hy :Ty:=cK t307 t307 (zy (af .i64) (af .i64) aH bn (af .i64))
def Hz :Ty:=cK t310 t310 ag
def HA :Ty:=cK t317 t317 kf
def HB :Ty:=cK t318 t318 gv
def HC :Ty:=cK t320 t320 ag
def wy :Ty:=cK t322 t322 (jP .f64)
def HD :Ty:=cK t326 t326 kf
def HE :Ty:=cK t326 t327 kf
def HF :Ty:=cK t329 t329 (zx (af .i64) aH bn (af .i64))
def HI :Ty:=cK t332 t332 (TF 34)
def HJ :Ty:=cK t338 t338 kf
def q6 :List (List (Option Ty)):=[[some ty0,none,some te,some uO,some ty4,some ty5,none,none,none,some ty9,none,none,none,none,none,none],
 [none,none,none,none,some O8,none,some ye,some tf,some Bu,none,some Hf,some Hj,some Hn,none,some Hv,none],
 [some O9,some HH,some Pa,none,some Pb,some Pc,none,none,some Bv,none,some HK,none,none,some Pd,some Pe,none],
 [some Pf,none,none,some Pg,none,none,none,some Ph,none,none,some Pj,none,none,none,some Bw,none],
 [some HL,none,none,none,none,none,some Bx,some Pk,none,some Pl,some Pm,none,none,some Pn,some Po,some Pp],
 [some Pq,none,none,some Bz,some Pr,none,some Pt,none,some HM,some Pu,none,some Pv,none,some Pw,some Px,some Py],
 [none,none,some Pz,none,some F8,some F9,none,none,none,some Ga,none,none,none,none,none,none],
 [some Gb,none,none,none,none,some Gc,none,some Gd,none,none,some Ge,none,none,none,none,none],
 [none,some AD,none,some wu,some uk,none,some Gf,some Gg,some Gh,some Gi,some Gj,none,some Gk,some Gl,some Gm,some Gn],
 [some Gp,none,some Gq,none,none,some Gr,some Gs,none,some Gt,some Gu,none,some Gv,none,some Gw,none,some Gx],
 [some Gy,some Gz,none,some GA,none,none,some GC,some GD,none,some GF,none,some GG,some GH,none,none,none],
 [none,some GI,none,none,none,none,none,some GJ,none,some GK,none,none,some GL,none,none,none],
 [some wv,some GM,none,some GN,none,some GO,none,some GP,none,some GQ,some GR,none,none,some um,some GS,some wx],
 [some GU,none,some GV,none,none,some GW,none,none,some GX,some GY,none,some GZ,none,none,none,none],
 [none,none,some G0,none,some G3,none,some G4,none,some G5,none,none,none,none,none,none,none],
 [some G6,none,some G7,some G8,none,some G9,none,none,some Ha,none,some Hb,none,none,none,some Hc,none],
 [none,some Hd,none,some He,none,none,none,none,some Hg,some Hh,none,none,none,some Hi,none,none],
 [some Hk,none,none,some Hl,none,none,some Hm,none,none,none,none,some Ho,none,none,some Hq,some Hr],
 [none,none,none,none,none,none,none,some Hs,some Ht,none,some Hu,none,some Hw,none,none,some Hx],
 [none,none,none,some Hy,none,none,some Hz,none,none,none,none,none,none,some HA,some HB,none],
 [some HC,none,some wy,none,none,none,some HD,some HE,none,some HF,none,none,some HI,none,none,none],
 [none,none,some HJ]]
def BA (t:Nat):Option Ty:=match nth q6 (t / 16) with
 | some r=>match nth r (t%16) with
  | some e=>e
  | none=>none
 | none=>none
def BI :List (List Bool):=[[false,false,true,true,true,true,true,true,true,true,true,true,true,true,true,true],
 [true,true,true,true,true,true,true,true,true,true,true,true,true,true,true,true],
 [true,true,true,true,true,true,true,true,true,true,true,true,true,true,true,true],
 [true,true,true,true,true,true,true,true,true,true,true,true,true,true,true,true],
 [true,true,true,true,true,true,true,true,true,true,true,true,true,true,true,true],
 [true,true,true,true,true,true,true,true,true,true,true,true,true,true,true,true],
 [true,true,true,true,true,true,true,true,true,true,true,true,true,true,true,true],
 [true,true,true,true,true,true,true,true,true,true,true,true,true,true,true,true],
 [true,true,true,true,true,true,true,true,true,true,true,true,true,true,true,true],
 [true,true,true,true,true,true,true,true,true,true,true,true,true,true,true,true],
 [true,true,true,true,true,true,true,true,true,true,true,true,true,false,true,true],
 [true,true,true,true,true,true,true,true,true,true,true,true,true,true,true,true],
 [true,true,true,true,true,true,true,true,true,true,true,true,true,true,true,true],
 [true,true,true,true,true,true,true,true,true,false,false,true,true,true,true,true],
 [true,true,false,true,true,false,true]]
def A3 (g:Nat):Bool:=match nth BI (g / 16) with
 | some r=>match nth r (g%16) with
  | some e=>e
  | none=>false
 | none=>false
def vI (g:Nat):Option (Array Value->Sem Value):=cond (Nat.beq g 173) (some (Extern.SlicesOverlaps.overlaps #[207,207] #[4])) (cond (Nat.beq g 217) (some Extern.MathFloatBits.float64frombits) (cond (Nat.beq g 218) (some Extern.MathFloatBits.float64bits) (cond (Nat.beq g 229) (some Extern.BytealgIndexByte.indexByte) (none))))
def tb :Tb:={ty:=BA,call:=A3,ext:=vI}
abbrev ztg :Nat:=3
abbrev zqf :Nat:=5
abbrev Nw :Nat:=6
abbrev OA :Nat:=7
abbrev AG :Nat:=8
abbrev Uc :Nat:=9
abbrev IX :Nat:=10
abbrev JM :Nat:=11
abbrev IN :Nat:=18
abbrev zkx :Nat:=19
abbrev zky :Nat:=20
abbrev IK :Nat:=21
abbrev Tq :Nat:=22
abbrev Iv :Nat:=23
abbrev zqg :Nat:=24
abbrev YF :Nat:=25
abbrev YG :Nat:=26
abbrev Kc :Nat:=27
abbrev zkz :Nat:=28
abbrev zii :Nat:=29
abbrev Uf :Nat:=30
abbrev zmx :Nat:=31
abbrev znz :Nat:=39
abbrev Vd :Nat:=43
abbrev zmy :Nat:=44
abbrev BO :Nat:=45
abbrev Vf :Nat:=46
abbrev ziy :Nat:=47
abbrev zla :Nat:=48
abbrev zmz :Nat:=49
abbrev yf :Nat:=50
abbrev Vh :Nat:=51
abbrev vd :Nat:=52
abbrev Vj :Nat:=53
abbrev V5 :Nat:=54
abbrev EL :Nat:=55
abbrev NF :Nat:=56
abbrev Wp :Nat:=57
abbrev Cl :Nat:=58
abbrev H2 :Nat:=59
abbrev zxv :Nat:=60
abbrev UR :Nat:=61
abbrev Sm :Nat:=62
abbrev UT :Nat:=63
abbrev Ui :Nat:=64
abbrev zlb :Nat:=65
abbrev NH :Nat:=66
abbrev If :Nat:=67
abbrev NP :Nat:=68
abbrev EM :Nat:=69
abbrev xv :Nat:=70
abbrev yn :Nat:=71
abbrev zoa :Nat:=73
abbrev zmg :Nat:=74
abbrev zob :Nat:=75
abbrev Om :Nat:=76
abbrev WN :Nat:=78
abbrev Vl :Nat:=81
abbrev zoc :Nat:=82
abbrev xr :Nat:=83
abbrev Tr :Nat:=84
abbrev Ts :Nat:=85
abbrev SA :Nat:=86
abbrev I8 :Nat:=87
abbrev Tt :Nat:=88
abbrev YH :Nat:=89
abbrev SD :Nat:=90
abbrev On :Nat:=91
abbrev Vn :Nat:=92
abbrev zuj :Nat:=93
abbrev Oo :Nat:=94
abbrev EP :Nat:=95
abbrev Cm :Nat:=96
abbrev zwx :Nat:=97
abbrev BJ :Nat:=98
abbrev Oq :Nat:=99
abbrev BK :Nat:=100
abbrev OB :Nat:=101
abbrev xt :Nat:=102
abbrev uo :Nat:=103
abbrev Nz :Nat:=104
abbrev WO :Nat:=105
abbrev zrf :Nat:=108
abbrev Uk :Nat:=109
abbrev Tu :Nat:=110
abbrev SG :Nat:=111
abbrev NW :Nat:=112
abbrev Jj :Nat:=113
abbrev IC :Nat:=114
abbrev NA :Nat:=115
abbrev zjx :Nat:=116
abbrev KC :Nat:=117
abbrev Ns :Nat:=118
abbrev Tv :Nat:=121
abbrev Rz :Nat:=122
abbrev V7 :Nat:=123
abbrev NI :Nat:=124
abbrev Od :Nat:=125
abbrev Iy :Nat:=126
abbrev QV :Nat:=127
abbrev zfj :Nat:=128
abbrev zfz :Nat:=129
abbrev NJ :Nat:=130
abbrev Co :Nat:=131
abbrev Ca :Nat:=132
abbrev Np :Nat:=133
abbrev KD :Nat:=134
abbrev P9 :Nat:=135
abbrev XD :Nat:=136
abbrev Re :Nat:=137
abbrev Qm :Nat:=138
abbrev zuk :Nat:=141
abbrev IF :Nat:=142
abbrev xx :Nat:=143
abbrev Cp :Nat:=144
abbrev SK :Nat:=145
abbrev SM :Nat:=146
abbrev NN :Nat:=147
abbrev NK :Nat:=148
abbrev IZ :Nat:=149
abbrev BQ :Nat:=150
abbrev N3 :Nat:=151
abbrev NX :Nat:=152
abbrev NQ :Nat:=153
abbrev zxw :Nat:=154
abbrev Xf :Nat:=155
abbrev WQ :Nat:=156
abbrev zul :Nat:=157
abbrev zxx :Nat:=158
abbrev xq :Nat:=159
abbrev Tw :Nat:=160
abbrev SP :Nat:=162
abbrev Nt :Nat:=163
abbrev Zh :Nat:=164
abbrev N6 :Nat:=165
abbrev Cq :Nat:=166
abbrev N7 :Nat:=167
abbrev I3 :Nat:=168
abbrev zde :Nat:=169
abbrev I4 :Nat:=170
abbrev zrh :Nat:=171
abbrev zum :Nat:=172
abbrev zfk :Nat:=174
abbrev wH :Nat:=176
abbrev BL :Nat:=177
abbrev wD :Nat:=178
abbrev DA :Nat:=179
abbrev DB :Nat:=180
abbrev zri :Nat:=181
abbrev Sb :Nat:=182
abbrev Xg :Nat:=183
abbrev OC :Nat:=184
abbrev V9 :Nat:=185
abbrev Xh :Nat:=186
abbrev BM :Nat:=187
abbrev zun :Nat:=188
abbrev znf :Nat:=189
abbrev zxz :Nat:=190
abbrev Ke :Nat:=191
abbrev NY :Nat:=192
abbrev IA :Nat:=193
abbrev IB :Nat:=194
abbrev zya :Nat:=195
abbrev zsz :Nat:=196
abbrev WR :Nat:=197
abbrev XG :Nat:=198
abbrev Yh :Nat:=200
abbrev Kg :Nat:=201
abbrev JH :Nat:=202
abbrev C7 :Nat:=203
abbrev BN :Nat:=204
abbrev EY :Nat:=205
abbrev JI :Nat:=206
abbrev Xi :Nat:=207
abbrev ID :Nat:=208
abbrev zwy :Nat:=209
abbrev zuo :Nat:=210
abbrev TL :Nat:=211
abbrev Xj :Nat:=212
abbrev WS :Nat:=213
abbrev zdn :Nat:=214
abbrev zup :Nat:=219
abbrev zwz :Nat:=220
abbrev zcz :Nat:=222
abbrev NL :Nat:=223
end
end Lf
set_option linter.unusedVariables false
namespace Lf
open Go
abbrev yI(x:Int):Value:=.int .i64 x
abbrev yP(x:Option Addr):Value:=.pointer x
abbrev yN:Value:=.slice none 0 0
abbrev yH:Shape:=af .i64
abbrev fj(h:Hp)(p:Addr)(n:Nat)(K:Int->Prop):Prop:=aR none (af .i64) h (Addr.add p n) K
abbrev dz(h:Hp)(p:Addr)(n:Nat)(K:Sl->Prop):Prop:=aR none au h (Addr.add p n) K
abbrev mj(h:Hp)(p:Addr)(n:Nat)(K:Option Addr->Prop):Prop:=aR none ag h (Addr.add p n) K
def RB (P:Program) (t:aX) (Q:(Bool->(Hp->Prop))) (h:Hp):Prop:=
 aa P zqf [t.v] bn (λr C=>(if (!r)=true then
 Q true C
 else
 bu P Nw [(.agg #[t.fm.v,t.fQ.v,(yI t.jA),(yI t.jB),(yI t.gX),(yI t.lH),t.eg.v])] au yH (λW r2 U=>bu P Nw [(.agg #[t.fK.v,t.gY.v,(yI t.kO),(yI t.kP),(yI t.jl),(yI t.nk),t.fD.v])] au yH (λZ r4 D=>aI ((r2 !=0) || (r4 !=0)) λy=>(if y then
 Q true D
 else
 jm P OA [W.v] ag yH yH (λj r6 r7 V=>jm P OA [Z.v] ag yH yH (λl r9 a8 F=>aI ((Option.isNone j) || (Option.isNone l)) λy1=>aI (y1 || (r6 !=0)) λy2=>aI (y2 || (r9 !=0)) λy3=>(if y3 then
 Q false F
 else
 cL (λk=>bT (α1:=Int) (α2:=Int) (λI i G o=>aI ((decide (i<(t.S.len:Int))) || (decide (G<(t.T.len:Int)))) λy4=>(if y4 then
 aA (α1:=Int) (λJ a e=>(((decide (a<(t.S.len:Int)))=true->(bF t.S.base t.S.len a))/\aR (some (decide (a<(t.S.len:Int)))) yH e (Addr.add (sat t.S.base 3 a) 0) λx=>aI ((decide (a<(t.S.len:Int)))&&(x !=1)) λy5=>(if y5 then
 ((bF t.S.base t.S.len a)/\aR none bS e (sat t.S.base 3 a) λA=>aa P AG [(yP j),A.v] yu (λf b=>J (yw (a+1)) b) e)
 else
 aA (α1:=Int) (λK c b=>(((decide (c<(t.T.len:Int)))=true->(bF t.T.base t.T.len c))/\aR (some (decide (c<(t.T.len:Int)))) yH b (Addr.add (sat t.T.base 3 c) 0) λA=>aI ((decide (c<(t.T.len:Int)))&&(A !=1)) λy6=>(if y6 then
 ((bF t.T.base t.T.len c)/\aR none bS b (sat t.T.base 3 c) λB=>aa P AG [(yP l),B.v] yu (λf d=>K (yw (c+1)) d) b)
 else
 (if (!((a==(t.S.len:Int))==(c==(t.T.len:Int))))=true then
 Q false b
 else
 (if (a==(t.S.len:Int))=true then
 k b
 else
 cL (λH=>aA (α1:=Int) (λL n d=>((bF t.S.base t.S.len a)/\aR none yH d (Addr.add (sat t.S.base 3 a) 1) λB=>aI ((decide (n<B))&&(decide (n<300))) λy7=>(if y7 then
 aa P AG [(yP j),(.agg #[(yI 1),(yI 1),(yI 0)])] yu (λf p=>aa P AG [(yP l),(.agg #[(yI 1),(yI 1),(yI 0)])] yu (λs m=>iu none P (cS .neq 42 (.tmp 161) (.tmp 162) f.v s.v) bn m λg=>cY (some (!g)) (aa P JM [(yP j)] qX) (λu M=>((True/\(True/\(True/\(True/\True))))/\cY (some (!g)) (aa P IX [(.agg #[t.fm.v,t.fQ.v,(yI t.jA),(yI t.jB),(yI t.gX),(yI t.lH),t.eg.v]),u.v,(.int .u64 t.Label)] qX) (λw N=>((True/\(True/\True))/\cY (some (!g)) (aa P JM [(yP l)] qX) (λz O=>((True/\(True/\True))/\cY (some (!g)) (aa P IX [(.agg #[t.fK.v,t.gY.v,(yI t.kO),(yI t.kP),(yI t.jl),(yI t.nk),t.fD.v]),z.v,(.int .u64 t.Label)] qX) (λX R=>cY (some (!g)) (aa P Uc [w.v,X.v] bn) (λY q=>aI (g || (!Y)) λy8=>(if y8 then
 Q false q
 else
 (if (f.E !=0)=true then
 H q
 else
 L (yw (n+1)) q))) R) O)) N)) M)) m) p) d
 else
 H d))) 0 b)
 (λd=>I (yw (a+1)) (yw (c+1)) d)))))) G e))) i o
 else
 k o)) 0 0 F)
 (λo=>aa P JM [(yP j)] qX (λf e=>((True/\(True/\(True/\(True/\True))))/\aa P IX [(.agg #[t.fm.v,t.fQ.v,(yI t.jA),(yI t.jB),(yI t.gX),(yI t.lH),t.eg.v]),f.v,(.int .u64 t.Label)] qX (λs b=>((True/\(True/\True))/\aa P JM [(yP l)] qX (λu d=>((True/\(True/\True))/\aa P IX [(.agg #[t.fK.v,t.gY.v,(yI t.kO),(yI t.kP),(yI t.jl),(yI t.nk),t.fD.v]),u.v,(.int .u64 t.Label)] qX (λw p=>aa P Uc [s.v,w.v] bn (λz m=>Q z m) p) d)) b)) e)) o))) V) D)) U) C)) h
def Vp (P:Program) (t:aX) (Q:(Bool->(Hp->Prop))) (h:Hp):Prop:=
 aI ((decide ((t.S.len:Int)>1024)) || (decide ((t.T.len:Int)>1024))) λy=>(if y then
 Q false h
 else
 bu P IN [(.agg #[t.fm.v,t.fQ.v,(yI t.jA),(yI t.jB),(yI t.gX),(yI t.lH),t.eg.v])] yH yH (λr z n=>bu P IN [(.agg #[t.fK.v,t.gY.v,(yI t.kO),(yI t.kP),(yI t.jl),(yI t.nk),t.fD.v])] yH yH (λr2 A o=>aI ((r !=0) || (r2 !=0)) λk=>cY (some (!k)) (aa P zkx [(.agg #[t.fm.v,t.fQ.v,(yI t.jA),(yI t.jB),(yI t.gX),(yI t.lH),t.eg.v]),(.agg #[t.fK.v,t.gY.v,(yI t.kO),(yI t.kP),(yI t.jl),(yI t.nk),t.fD.v])] bn) (λq j=>aI (k || (!q)) λu=>(if u then
 Q false j
 else
 aA (α1:=Int) (λl p e=>(if decide (p<(t.eg.len:Int)) then
 ((bF t.eg.base t.eg.len p)/\aR none au e (Addr.add (sat t.eg.base 2 p) 1) λx=>((bF t.fD.base t.fD.len p)/\aR none au e (Addr.add (sat t.fD.base 2 p) 1) λg=>aa P zky [x.v,g.v] bn (λa f=>aa P IK [(.agg #[t.fm.v,t.fQ.v,(yI t.jA),(yI t.jB),(yI t.gX),(yI t.lH),t.eg.v]),(yI p),(.int .u64 t.Label)] bn (λc d=>aI (c&&(!a)) λw=>(if w then
 Q false d
 else
 l (yw (p+1)) d)) f) e))
 else
 aa P Tq [(.agg #[t.fm.v,t.fQ.v,(yI t.jA),(yI t.jB),(yI t.gX),(yI t.lH),t.eg.v]),t.S.v,(.int .u64 t.Label)] au (λa f=>aa P Tq [(.agg #[t.fK.v,t.gY.v,(yI t.kO),(yI t.kP),(yI t.jl),(yI t.nk),t.fD.v]),t.T.v,(.int .u64 t.Label)] au (λc d=>(if ((a.len:Int) !=(c.len:Int))=true then
 Q false d
 else
 aA (α1:=Int) (λm i b=>(if decide (i<(a.len:Int)) then
 ((bF a.base a.len i)/\aR none bS b (sat a.base 3 i) λx=>((bF c.base c.len i)/\aR none bS b (sat c.base 3 i) λg=>iu none P (cS .neq 40 (.tmp 111) (.tmp 115) x.v g.v) bn b λs=>(if s then
 Q false b
 else
 m (yw (i+1)) b)))
 else
 Q true b)) 0 d)) f) e)) 0 j)) o) n) h)
def SS (P:Program) (c:an) (Q:(Sl->(Int->(Hp->Prop)))) (h:Hp):Prop:=
 bu P IN [c.v] yH yH (λr U u=>(if (r !=0)=true then
 Q ⟨none,0,0⟩ r u
 else
 bh [(.int .u8 70),(.int .u8 66),(.int .u8 67),(.int .u8 70),(.int .u8 1),(.int .u8 (IntKind.wrap .u8 (c.aN.len:Int)))] (λa I=>bT (α1:=Sl) (α2:=Int) (λw b i n=>(if decide (i<(c.aN.len:Int)) then
 ((bF c.aN.base c.aN.len i)/\aR none (af .u64) n (sat c.aN.base 1 i) λx=>aa P Iv [b.v,(.int .u64 x),(yI 8)] au (λr2 o=>w r2 (yw (i+1)) o) n)
 else
 bh [(.int .u8 (IntKind.wrap .u8 (c.Table.len:Int)))] (λa1 o=>fu 1 1 [(.int .u8 0)] ⟨b.base,b.len,b.cap⟩ ⟨(some a1),1,1⟩ (λr2 J=>bT (α1:=Sl) (α2:=Int) (λy e g p=>(if decide (g<(c.Table.len:Int)) then
 ((bF c.Table.base c.Table.len g)/\aR none yH p (sat c.Table.base 1 g) λx=>bh [(.int .u8 (IntKind.wrap .u8 x))] (λa2 q=>fu 1 1 [(.int .u8 0)] ⟨e.base,e.len,e.cap⟩ ⟨(some a2),1,1⟩ (λt s=>y t (yw (g+1)) s) q) p)
 else
 aa P Iv [e.v,(.int .u64 (IntKind.wrap .u64 c.Fuel)),(yI 2)] au (λt q=>bh [(.int .u8 (IntKind.wrap .u8 c.gH)),(.int .u8 (IntKind.wrap .u8 c.bQ))] (λa2 s=>fu 1 1 [(.int .u8 0)] t ⟨(some a2),2,2⟩ (λL K=>aa P Iv [L.v,(.int .u64 (IntKind.wrap .u64 c.Log)),(yI 2)] au (λM B=>bh [(.int .u8 (IntKind.wrap .u8 (c.aG.len:Int)))] (λa3 C=>fu 1 1 [(.int .u8 0)] M ⟨(some a3),1,1⟩ (λN D=>bT (α1:=Sl) (α2:=Int) (λz d j l=>(if decide (j<(c.aG.len:Int)) then
 ((bF c.aG.base c.aG.len j)/\aR none bA l (sat c.aG.base 2 j) λx=>bh [(.int .u8 (IntKind.wrap .u8 x.Part))] (λa4 E=>fu 1 1 [(.int .u8 0)] ⟨d.base,d.len,d.cap⟩ ⟨(some a4),1,1⟩ (λO F=>aa P Iv [O.v,(.int .u64 (IntKind.wrap .u64 (x.Code.len:Int))),(yI 2)] au (λR G=>bT (α1:=Sl) (α2:=Int) (λA f k m=>(if decide (k<(x.Code.len:Int)) then
 ((bF x.Code.base x.Code.len k)/\aR none aV m (sat x.Code.base 5 k) λT=>aa P zqg [f.v,T.v] au (λS H=>A S (yw (k+1)) H) m)
 else
 z ⟨f.base,f.len,f.cap⟩ (yw (j+1)) m)) R 0 G) F) E) l)
 else
 Q ⟨d.base,d.len,d.cap⟩ 0 l)) N 0 D) C) B) K) s) q) p)) r2 0 J) o) n)) ⟨(some a),6,6⟩ 0 I) u)) h
def Cr (P:Program) (i:Sl) (Q:(Option Addr->(Int->(Int->(Hp->Prop))))) (h:Hp):Prop:=
 jm P YF [i.v] aQ yH yH (λr d r2 b=>(if (d !=0)=true then
 Q none d r2 b
 else
 bu P YG [r.v] ag yH (λg e c=>(if (e !=0)=true then
 Q none e 0 c
 else
 bh [(yP g),(yI 0),(yI (-1))] (λa f=>Q (some a) 0 0 f) c)) b)) h
def Dk (P:Program) (r:Option Addr) (s:aC) (Q:(cU->(Hp->Prop))) (h:Hp):Prop:=
 cQ (α1:=Int) (λk=>aa P Kc [] gv (λd a=>((True/\True)/\nm none (.int .i64) kg .nilFunc d (yI s.Kind) a λx ok=>(if ok then
 gK P tb x.v [(yP r),s.v] yH (λr2 b=>k r2 b) a
 else
 k 1 a))) h)
 (λe a=>ai none r λp=>fj a p 1 λx=>ai none r λc=>fj a c 2 λf=>Q ⟨e,x,f⟩ a)
def Un (P:Program) (a:aD) (b:aD) (Q:(Bool->(Hp->Prop))) (h:Hp):Prop:=
 aI ((a.fg !=b.fg) || ((a.bZ.len:Int) !=(b.bZ.len:Int))) λy=>aI (y || ((a.aG.len:Int) !=(b.aG.len:Int))) λl=>(if l then
 Q false h
 else
 aA (α1:=Int) (λj i e=>(if decide (i<(a.bZ.len:Int)) then
 ((bF a.bZ.base a.bZ.len i)/\aR none cg e (sat a.bZ.base 6 i) λx=>((bF b.bZ.base b.bZ.len i)/\aR none cg e (sat b.bZ.base 6 i) λf=>aa P zkz [x.v,f.v] bn (λr c=>(if (!r)=true then
 Q false c
 else
 j (yw (i+1)) c)) e))
 else
 aA (α1:=Int) (λk d c=>(if decide (d<(a.aG.len:Int)) then
 ((bF a.aG.base a.aG.len d)/\aR none bB c (sat a.aG.base 15 d) λx=>((bF b.aG.base b.aG.len d)/\aR none bB c (sat b.aG.base 15 d) λf=>aa P zii [x.v,f.v] bn (λr g=>(if (!r)=true then
 Q false g
 else
 k (yw (d+1)) g)) c))
 else
 Q true c)) 0 e)) 0 h)
def Wa (P:Program) (c:an) (s:aD) (a:Int) (Q:(aD->(Hp->Prop))) (h:Hp):Prop:=
 bT (α1:=Int) (α2:=aD) (λj i out g=>(if decide (i<(s.bZ.len:Int)) then
 cQ (α1:=cc) (λk=>aa P Uf [c.v,(yI i),(.int .u64 a)] bn (λr b=>(if r then
 ((bF s.bZ.base s.bZ.len i)/\aR none cg b (sat s.bZ.base 6 i) λx=>k x b)
 else
 k ⟨0,⟨none,0,0⟩,0,0,⟨none,0,0⟩,⟨none,0,0⟩⟩ b)) g)
 (λx b=>bh [(yI x.Cursor),x.Log.v,(yI x.nX),(yI x.eN),x.eO.v,x.dO.v] (λa1 d=>fu 6 96 [(yI 0),yN,(yI 0),(yI 0),yN,yN] ⟨out.bZ.base,out.bZ.len,out.bZ.cap⟩ ⟨(some a1),1,1⟩ (λr f=>j (yw (i+1)) ⟨out.fg,r,out.aG⟩ f) d) b)
 else
 bT (α1:=Int) (α2:=aD) (λl p e b=>(if decide (p<(s.aG.len:Int)) then
 cQ (α1:=br) (λk=>aa P IK [c.v,(yI p),(.int .u64 a)] bn (λr d=>(if r then
 ((bF s.aG.base s.aG.len p)/\aR none bB d (sat s.aG.base 15 p) λx=>k x d)
 else
 k ⟨0,0,0,0,0,0,0,0,0,0,0,0,false,0,⟨none,0,0⟩⟩ d)) b)
 (λx d=>bh [(yI x.State),(yI x.PC),(yI x.cw),(yI x.cx),(yI x.cC),(yI x.cD),(yI x.cE),(yI x.cF),(yI x.cG),(yI x.cH),(yI x.Cursor),(yI x.Timer),(.bool x.km),(yI x.n8),x.fL.v] (λa1 f=>fu 15 136 [(yI 0),(yI 0),(yI 0),(yI 0),(yI 0),(yI 0),(yI 0),(yI 0),(yI 0),(yI 0),(yI 0),(yI 0),(.bool false),(yI 0),yN] ⟨e.aG.base,e.aG.len,e.aG.cap⟩ ⟨(some a1),1,1⟩ (λr m=>l (yw (p+1)) ⟨e.fg,e.bZ,r⟩ m) f) d)
 else
 Q e b)) 0 out g)) 0 ⟨s.fg,⟨none,0,0⟩,⟨none,0,0⟩⟩ h
def XI (P:Program) (r:Option Addr) (Q:(aD->(Hp->Prop))) (h:Hp):Prop:=
 ai none r λp=>mj h p 0 λx=>aa P zmx [(yP x)] qX (λb a=>Q b a) h
def Vr (P:Program) (c:an) (Q:(Int->(Int->(Hp->Prop)))) (h:Hp):Prop:=
 bu P Vd [c.aN.v] yH yH (λr A f=>(if (r !=0)=true then
 Q r 0 f
 else
 aa P zmy [c.Table.v,(yI (c.aN.len:Int))] yH (λr2 j=>(if (r2 !=0)=true then
 Q r2 1 j
 else
 aa P BO [(yI c.Fuel),(yI 1),(yI 256)] bn (λs n=>((True/\(True/\(True/\True)))/\aa P BO [(yI c.gH),(yI 1),(yI 64)] bn (λt o=>((True/\(True/\True))/\aa P BO [(yI c.bQ),(yI 0),(yI 8)] bn (λu p=>((True/\True)/\aa P BO [(yI c.Log),(yI 0),(yI 4096)] bn (λw q=>aA (α1:=Int) (λl i b=>(if decide (i<4) then
 ((0<=i/\i<4)/\∃x:Bool,((List.get?Internal (α:=Value) [(.bool s),(.bool t),(.bool u),(.bool w)] (0+((Int.toNat i)*1)))=(some (.bool x))/\(if (!x)=true then
 Q 2 (yw (2+i)) b
 else
 l (yw (i+1)) b)))
 else
 (if ((c.aG.len:Int)==0)=true then
 Q 1 6 b
 else
 (if decide ((c.aG.len:Int)>32) then
 Q 3 6 b
 else
 aA (α1:=Int) (λm a d=>(if decide (a<(c.aG.len:Int)) then
 ((bF c.aG.base c.aG.len a)/\aR none yH d (Addr.add (sat c.aG.base 2 a) 0) λx=>aa P BO [(yI x),(yI 0),(yI (yw ((c.aN.len:Int)-1)))] bn (λy e=>(if (!y)=true then
 Q 2 (yw (7+a)) e
 else
 ((bF c.aG.base c.aG.len a)/\aR none au e (Addr.add (sat c.aG.base 2 a) 1) λz=>bu P Vf [z.v,(yI c.bQ)] yH yH (λk B g=>(if (k !=0)=true then
 Q k (yw (7+a)) g
 else
 m (yw (a+1)) g)) e))) d)
 else
 Q 0 0 d)) 0 b)))) 0 q) p)) o)) n)) j)) f)) h
def RD (P:Program) (a:an) (b:an) (Q:(Bool->(Hp->Prop))) (h:Hp):Prop:=
 aa P ziy [a.aN.v,b.aN.v] bn (λr f=>cY (some (!(!r))) (aa P zla [a.Table.v,b.Table.v] bn) (λg d=>aI ((!r) || (!g)) λy=>aI (y || (a.Fuel !=b.Fuel)) λk=>aI (k || (a.gH !=b.gH)) λl=>aI (l || (a.bQ !=b.bQ)) λm=>aI (m || (a.Log !=b.Log)) λn=>aI (n || ((a.aG.len:Int) !=(b.aG.len:Int))) λo=>(if o then
 Q false d
 else
 aA (α1:=Int) (λe i c=>(if decide (i<(a.aG.len:Int)) then
 ((bF a.aG.base a.aG.len i)/\aR none yH c (Addr.add (sat a.aG.base 2 i) 0) λx=>((bF b.aG.base b.aG.len i)/\aR none yH c (Addr.add (sat b.aG.base 2 i) 0) λj=>(if (x !=j)=true then
 Q false c
 else
 e (yw (i+1)) c)))
 else
 Q true c)) 0 d)) f) h
def RF (P:Program) (a:Sl) (b:Sl) (Q:(Bool->(Hp->Prop))) (h:Hp):Prop:=
 (if ((a.len:Int) !=(b.len:Int))=true then
 Q false h
 else
 aA (α1:=Int) (λd i c=>(if decide (i<(a.len:Int)) then
 ((bF a.base a.len i)/\aR none aV c (sat a.base 5 i) λx=>((bF b.base b.len i)/\aR none aV c (sat b.base 5 i) λe=>iu none P (cS .neq 70 (.tmp 20) (.tmp 24) x.v e.v) bn c λf=>(if f then
 Q false c
 else
 d (yw (i+1)) c)))
 else
 Q true c)) 0 h)
def Up (P:Program) (c:an) (p:Int) (a:Int) (Q:(Bool->(Hp->Prop))) (h:Hp):Prop:=
 aI ((decide (p>=0))&&(decide (p<(c.aG.len:Int)))) λy=>((y=true->(bF c.aG.base c.aG.len p))/\aR (some y) yH h (Addr.add (sat c.aG.base 2 p) 0) λx=>cY (some y) (aa P Uf [c.v,(yI x),(.int .u64 a)] bn) (λr b=>aI (y&&r) λd=>Q d b) h)
def Tx (P:Program) (c:an) (l:Sl) (a:Int) (Q:(Sl->(Hp->Prop))) (h:Hp):Prop:=
 bh [] (λa1 g=>bT (α1:=Sl) (α2:=Int) (λf out i d=>(if decide (i<(l.len:Int)) then
 cQ (α1:=Sl) (λk=>((bF l.base l.len i)/\aR none bS d (sat l.base 3 i) λx=>aa P zmz [c.v,x.v,(.int .u64 a)] bn (λr b=>(if (!r)=true then
 ((bF l.base l.len i)/\aR none bS b (sat l.base 3 i) λe=>bh [(yI e.Kind),(yI e.N),(yI e.V)] (λa2 j=>fu 3 24 [(yI 0),(yI 0),(yI 0)] ⟨out.base,out.len,out.cap⟩ ⟨(some a2),1,1⟩ (λo m=>k o m) j) b)
 else
 k ⟨out.base,out.len,out.cap⟩ b)) d))
 (λn b=>f n (yw (i+1)) b)
 else
 Q ⟨out.base,out.len,out.cap⟩ d)) ⟨(some a1),0,0⟩ 0 g) h
def SV (P:Program) (b:Sl) (n:Int) (many:Int) (Q:(Sl->(Hp->Prop))) (h:Hp):Prop:=
 bT (α1:=Sl) (α2:=Int) (λe c i d=>(if decide (i<many) then
 (0<=(yw (8*i))/\bh [(.int .u8 (IntKind.wrap .u8 (gy .u64 n (yw (8*i)))))] (λa f=>fu 1 1 [(.int .u8 0)] ⟨c.base,c.len,c.cap⟩ ⟨(some a),1,1⟩ (λr g=>e r (yw (i+1)) g) f) d)
 else
 Q ⟨c.base,c.len,c.cap⟩ d)) b 0 h
def Vt (P:Program) (b:Sl) (x:aK) (Q:(Sl->(Hp->Prop))) (h:Hp):Prop:=
 bh [(.int .u8 (IntKind.wrap .u8 x.Op)),(.int .u8 (IntKind.wrap .u8 x.A)),(.int .u8 (IntKind.wrap .u8 x.B)),(.int .u8 (IntKind.wrap .u8 x.C))] (λa f=>fu 1 1 [(.int .u8 0)] b ⟨(some a),4,4⟩ (λr g=>bT (α1:=Sl) (α2:=Int) (λe c i d=>(if decide (i<8) then
 (0<=(yw (8*i))/\bh [(.int .u8 (IntKind.wrap .u8 (gy .u64 (IntKind.wrap .u64 x.iU) (yw (8*i)))))] (λa1 j=>fu 1 1 [(.int .u8 0)] ⟨c.base,c.len,c.cap⟩ ⟨(some a1),1,1⟩ (λl k=>e l (yw (i+1)) k) j) d)
 else
 Q ⟨c.base,c.len,c.cap⟩ d)) r 0 g) f) h
def YI (P:Program) (b:Sl) (Q:(an->(Int->(Int->(Hp->Prop))))) (h:Hp):Prop:=
 bh [yN,yN,(yI 0),(yI 0),(yI 0),(yI 0),yN] (λa q=>bh [b.v,(yI 0),(yI 0),(yI 0)] (λa1 j=>cQ (α1:=an) (λk=>(if decide ((b.len:Int)>1048576) then
 bC P yf [(yP (some a1)),(yI 22),(yI 1048576)] (λe=>k ⟨⟨none,0,0⟩,⟨none,0,0⟩,0,0,0,0,⟨none,0,0⟩⟩ e) j
 else
 bC P Vh [(yP (some a1))] (λe=>aa P vd [(yP (some a1))] bn (λr c=>(if r then
 k ⟨⟨none,0,0⟩,⟨none,0,0⟩,0,0,0,0,⟨none,0,0⟩⟩ c
 else
 bC P Vj [(yP (some a1)),(yP (some a))] (λE=>aa P vd [(yP (some a1))] bn (λH l=>(if H then
 k ⟨⟨none,0,0⟩,⟨none,0,0⟩,0,0,0,0,⟨none,0,0⟩⟩ l
 else
 bC P V5 [(yP (some a1)),(yP (some a))] (λF=>aa P vd [(yP (some a1))] bn (λr2 m=>(if r2 then
 k ⟨⟨none,0,0⟩,⟨none,0,0⟩,0,0,0,0,⟨none,0,0⟩⟩ m
 else
 aa P EL [(yP (some a1)),(yI 2),(yI 2)] yH (λI G=>cJ G (Addr.add a 2) [(yI I)] (λs=>aa P EL [(yP (some a1)),(yI 3),(yI 1)] yH (λJ t=>cJ t (Addr.add a 3) [(yI J)] (λu=>aa P EL [(yP (some a1)),(yI 4),(yI 1)] yH (λK w=>cJ w (Addr.add a 4) [(yI K)] (λz=>aa P EL [(yP (some a1)),(yI 5),(yI 2)] yH (λL A=>cJ A (Addr.add a 5) [(yI L)] (λB=>aa P NF [(yP (some a1)),(yI 32)] yH (λM C=>aA (α1:=Int) (λo n D=>cY (some (decide (n>0))) (aa P vd [(yP (some a1))] bn) (λN d=>aI ((decide (n>0))&&(!N)) λy=>(if y then
 bC P Wp [(yP (some a1)),(yP (some a))] (λi=>o (yw (n-1)) i) d
 else
 ai none (some a1) λp=>fj d p 1 λx=>(if decide (x<(b.len:Int)) then
 ai none (some a1) λf=>fj d f 1 λg=>bC P yf [(yP (some a1)),(yI 6),(yI g)] (λi=>k ⟨⟨none,0,0⟩,⟨none,0,0⟩,0,0,0,0,⟨none,0,0⟩⟩ i) d
 else
 k ⟨⟨none,0,0⟩,⟨none,0,0⟩,0,0,0,0,⟨none,0,0⟩⟩ d))) D) M C) B)) z)) u)) s)) m)) F) l)) E) c)) e) j))
 (λt2 e=>aa P vd [(yP (some a1))] bn (λr c=>(if r then
 ai none (some a1) λp=>fj c p 2 λx=>ai none (some a1) λf=>fj c f 3 λg=>(((bf c (Addr.add p 2) [(yI x)])/\((bf c (Addr.add f 3) [(yI g)])/\True))/\Q ⟨⟨none,0,0⟩,⟨none,0,0⟩,0,0,0,0,⟨none,0,0⟩⟩ x g c)
 else
 aR none aQ c a λx=>Q x 0 0 c)) e)) q) h
def YJ (P:Program) (c:an) (Q:(Option Addr->(Int->(Hp->Prop)))) (h:Hp):Prop:=
 bu P Cl [c.v] yH yH (λr f a=>(if (r !=0)=true then
 Q none r a
 else
 aa P zxv [c.v] qX (λr2 b=>((True/\True)/\aa P H2 [c.v,r2.v] ag (λe d=>Q e 0 d) b)) a)) h
def Cs (P:Program)  (Q:(Option Nat->(Hp->Prop))) (h:Hp):Prop:=
 E5  (λr a=>xD (.int .i64) r (yI 1) (.func (.func 61) #[] #[]) (λb=>xD (.int .i64) r (yI 2) (.func (.func 62) #[] #[]) (λc=>xD (.int .i64) r (yI 3) (.func (.func 63) #[] #[]) (λd=>Q r d) c) b) a) h
def RH (P:Program) (a:cc) (b:cc) (Q:(Bool->(Hp->Prop))) (h:Hp):Prop:=
 aI ((a.Cursor !=b.Cursor) || (a.nX !=b.nX)) λy=>aI (y || (a.eN !=b.eN)) λm=>aI (m || ((a.Log.len:Int) !=(b.Log.len:Int))) λn=>aI (n || ((a.dO.len:Int) !=(b.dO.len:Int))) λo=>(if o then
 Q false h
 else
 aA (α1:=Int) (λj i c=>(if decide (i<(a.Log.len:Int)) then
 ((bF a.Log.base a.Log.len i)/\aR none dK c (sat a.Log.base 3 i) λx=>((bF b.Log.base b.Log.len i)/\aR none dK c (sat b.Log.base 3 i) λg=>iu none P (cS .neq 129 (.tmp 56) (.tmp 61) x.v g.v) bn c λl=>(if l then
 Q false c
 else
 j (yw (i+1)) c)))
 else
 aA (α1:=Int) (λk d e=>(if decide (d<(a.dO.len:Int)) then
 ((bF a.dO.base a.dO.len d)/\aR none au e (sat a.dO.base 1 d) λx=>((bF b.dO.base b.dO.len d)/\aR none au e (sat b.dO.base 1 d) λg=>aa P Ui [x.v,g.v] bn (λr f=>(if (!r)=true then
 Q false f
 else
 k (yw (d+1)) f)) e))
 else
 aa P Ui [a.eO.v,b.eO.v] bn (λr f=>Q r f) e)) 0 c)) 0 h)
def QX (P:Program) (a:br) (b:br) (Q:(Bool->(Hp->Prop))) (h:Hp):Prop:=
 aI ((a.State !=b.State) || (a.PC !=b.PC)) λy=>iu (some (!y)) P (cS .neq 88 (.tmp 21) (.tmp 23) (.agg #[(yI a.cw),(yI a.cx),(yI a.cC),(yI a.cD),(yI a.cE),(yI a.cF),(yI a.cG),(yI a.cH)]) (.agg #[(yI b.cw),(yI b.cx),(yI b.cC),(yI b.cD),(yI b.cE),(yI b.cF),(yI b.cG),(yI b.cH)])) bn h λx=>aI (y || x) λj=>aI (j || (a.Cursor !=b.Cursor)) λk=>aI (k || (a.Timer !=b.Timer)) λl=>aI (l || (!(a.km==b.km))) λm=>aI (m || (a.n8 !=b.n8)) λn=>aI (n || ((a.fL.len:Int) !=(b.fL.len:Int))) λo=>(if o then
 Q false h
 else
 aA (α1:=Int) (λe i c=>(if decide (i<(a.fL.len:Int)) then
 ((bF a.fL.base a.fL.len i)/\aR none bR c (sat a.fL.base 4 i) λf=>((bF b.fL.base b.fL.len i)/\aR none bR c (sat b.fL.base 4 i) λg=>aa P zlb [f.v,g.v] bn (λr d=>(if (!r)=true then
 Q false d
 else
 e (yw (i+1)) d)) c))
 else
 Q true c)) 0 h)
def Ur (P:Program) (c:an) (i:Int) (a:Int) (Q:(Bool->(Hp->Prop))) (h:Hp):Prop:=
 aI ((decide (i>=0))&&(decide (i<(c.aN.len:Int)))) λy=>((y=true->(bF c.aN.base c.aN.len i))/\aR (some y) (af .u64) h (sat c.aN.base 1 i) λx=>cY (some y) (aa P znz [(.int .u64 x),(.int .u64 a)] bn) (λr b=>aI (y&&r) λd=>Q d b) h)
def Nx (P:Program) (m:Option Addr) (Q:(aD->(Hp->Prop))) (h:Hp):Prop:=
 ai none m λp=>fj h p 9 λx=>ai none m λU=>dz h U 10 λC=>bT (α1:=Int) (α2:=aD) (λO B s n=>(if decide (B<(C.len:Int)) then
 ((bF C.base C.len B)/\aR none ag n (sat C.base 1 B) λd=>ai none d λF=>mj n F 5 λe=>bu P NH [(yP e)] au au (λr G b=>ai none d λz=>fj b z 1 λE=>ai none d λA=>dz b A 2 λj=>ai none d λt=>fj b t 3 λk=>ai none d λu=>fj b u 4 λw=>aa P If [j.v] au (λr2 c=>((True/\((bf c (Addr.add z 1) [(yI E)])/\((bf c (Addr.add t 3) [(yI k)])/\((bf c (Addr.add u 4) [(yI w)])/\True))))/\bh [(yI E),r2.v,(yI k),(yI w),r.v,G.v] (λa g=>((True/\True)/\fu 6 96 [(yI 0),yN,(yI 0),(yI 0),yN,yN] ⟨s.bZ.base,s.bZ.len,s.bZ.cap⟩ ⟨(some a),1,1⟩ (λH i=>O (yw (B+1)) ⟨s.fg,H,s.aG⟩ i) g)) c)) b) n)
 else
 ai none m λF=>dz n F 11 λd=>bT (α1:=Int) (α2:=aD) (λR l s1 b=>(if decide (l<(d.len:Int)) then
 ((bF d.base d.len l)/\aR none ag b (sat d.base 1 l) λe=>ai none e λz=>mj b z 14 λE=>bu P NP [(yP E)] au yH (λr G c=>ai none m λA=>dz c A 10 λj=>ai none e λt=>fj c t 1 λk=>((bF j.base j.len k)/\aR none ag c (sat j.base 1 k) λw=>ai none w λu=>mj c u 6 λN=>aa P xv [(yI l)] yH (λr2 g=>(((bf g (Addr.add A 10) [j.v])/\((bf g (Addr.add t 1) [(yI k)])/\((bf g (sat j.base 1 k) [(yP w)])/\((bf g (Addr.add u 6) [(yP N)])/\True))))/\bu P EM [(yP N),(yI r2)] yH bn (λH r4 i=>ai none m λI=>dz i I 10 λy=>ai none e λJ=>fj i J 1 λD=>((bF y.base y.len D)/\aR none ag i (sat y.base 1 D) λL=>ai none L λK=>mj i K 6 λM=>aa P yn [(yI l)] yH (λZ o=>(((bf o (Addr.add I 10) [y.v])/\((bf o (Addr.add J 1) [(yI D)])/\((bf o (sat y.base 1 D) [(yP L)])/\((bf o (Addr.add K 6) [(yP M)])/\True))))/\bu P EM [(yP M),(yI Z)] yH bn (λr6 r7 q=>ai none e λV=>fj q V 3 λa8=>ai none e λW=>aR none yH q (Addr.add (Addr.add W 4) 0) λa9=>ai none e λX=>aR none xw q (Addr.add (Addr.add X 4) 1) λf=>ai none e λY=>aR none bn q (Addr.add Y 13) λb0=>bh [(yI a8),(yI a9),(yI f.a0),(yI f.a1),(yI f.a2),(yI f.a3),(yI f.a4),(yI f.a5),(yI f.a6),(yI f.a7),(yI G),(yI H),(.bool b0),(yI r6),r.v] (λa S=>((True/\True)/\fu 15 136 [(yI 0),(yI 0),(yI 0),(yI 0),(yI 0),(yI 0),(yI 0),(yI 0),(yI 0),(yI 0),(yI 0),(yI 0),(.bool false),(yI 0),yN] ⟨s1.aG.base,s1.aG.len,s1.aG.cap⟩ ⟨(some a),1,1⟩ (λr8 T=>R (yw (l+1)) ⟨s1.fg,s1.bZ,r8⟩ T) S)) q) o)) i)) g)) c)) b)
 else
 Q s1 b)) 0 s n)) 0 ⟨x,⟨none,0,0⟩,⟨none,0,0⟩⟩ h
def TA (P:Program) (a:Int) (b:Int) (Q:(Bool->(Hp->Prop))) (h:Hp):Prop:=
 aA (α1:=Int) (λe n c=>(if decide (n<64) then
 aa P Vl [(.int .u64 a),(yI n)] bn (λr f=>cY (some r) (aa P Vl [(.int .u64 b),(yI n)] bn) (λg d=>aI (r&&(!g)) λy=>(if y then
 Q false d
 else
 e (yw (n+1)) d)) f) c
 else
 Q true c)) 0 h
def zqh (P:Program) (l:Sl) (Q:(Int->(Int->(Hp->Prop)))) (h:Hp):Prop:=
 (if ((l.len:Int)==0)=true then
 Q 1 0 h
 else
 (if decide ((l.len:Int)>8) then
 Q 3 8 h
 else
 aA (α1:=Int) (λb i a=>(if decide (i<(l.len:Int)) then
 ((bF l.base l.len i)/\aR none (af .u64) a (sat l.base 1 i) λx=>((bF l.base l.len (yw (i-1)))/\aR none (af .u64) a (sat l.base 1 (yw (i-1))) λc=>(if (x==c)=true then
 Q 8 i a
 else
 ((bF l.base l.len i)/\aR none (af .u64) a (sat l.base 1 i) λd=>((bF l.base l.len (yw (i-1)))/\aR none (af .u64) a (sat l.base 1 (yw (i-1))) λe=>(if decide (d<e) then
 Q 7 i a
 else
 b (yw (i+1)) a))))))
 else
 Q 0 0 a)) 1 h))
def SX (P:Program) (l:Sl) (parts:Int) (Q:(Int->(Hp->Prop))) (h:Hp):Prop:=
 (if ((l.len:Int)==0)=true then
 Q 1 h
 else
 (if decide ((l.len:Int)>64) then
 Q 3 h
 else
 aA (α1:=Int) (λc i a=>(if decide (i<(l.len:Int)) then
 ((bF l.base l.len i)/\aR none yH a (sat l.base 1 i) λx=>aa P BO [(yI x),(yI 0),(yI (yw (parts-1)))] bn (λr b=>(if (!r)=true then
 Q 2 b
 else
 c (yw (i+1)) b)) a)
 else
 Q 0 a)) 0 h))
def SZ (P:Program) (n:Int) (least:Int) (iA:Int) (Q:(Bool->(Hp->Prop))) (h:Hp):Prop:=
 aI ((decide (n>=least))&&(decide (n<=iA))) λy=>Q y h
def Vv (P:Program) (l:Sl) (ae:Int) (Q:(Int->(Int->(Hp->Prop)))) (h:Hp):Prop:=
 aI ((decide (ae<0)) || (decide (ae>8))) λy=>(if y then
 Q 1 0 h
 else
 (if decide ((l.len:Int)>256) then
 Q 3 256 h
 else
 aA (α1:=Int) (λc i a=>(if decide (i<(l.len:Int)) then
 ((bF l.base l.len i)/\aR none aV a (sat l.base 5 i) λx=>aa P zoc [x.v,(yI (l.len:Int)),(yI ae)] yH (λr b=>(if (r !=0)=true then
 Q r i b
 else
 c (yw (i+1)) b)) a)
 else
 Q 0 0 a)) 0 h))
def Q4 (P:Program) (a:Sl) (b:Sl) (Q:(Bool->(Hp->Prop))) (h:Hp):Prop:=
 (if ((a.len:Int) !=(b.len:Int))=true then
 Q false h
 else
 aA (α1:=Int) (λd i c=>(if decide (i<(a.len:Int)) then
 ((bF a.base a.len i)/\aR none (af .u64) c (sat a.base 1 i) λx=>((bF b.base b.len i)/\aR none (af .u64) c (sat b.base 1 i) λe=>(if (x !=e)=true then
 Q false c
 else
 d (yw (i+1)) c)))
 else
 Q true c)) 0 h)
def RJ (P:Program) (a:Sl) (b:Sl) (Q:(Bool->(Hp->Prop))) (h:Hp):Prop:=
 (if ((a.len:Int) !=(b.len:Int))=true then
 Q false h
 else
 aA (α1:=Int) (λd i c=>(if decide (i<(a.len:Int)) then
 ((bF a.base a.len i)/\aR none yH c (sat a.base 1 i) λx=>((bF b.base b.len i)/\aR none yH c (sat b.base 1 i) λe=>(if (x !=e)=true then
 Q false c
 else
 d (yw (i+1)) c)))
 else
 Q true c)) 0 h)
def znh (P:Program) (c:an) (s:aC) (a:Int) (Q:(Bool->(Hp->Prop))) (h:Hp):Prop:=
 aa P IK [c.v,(yI s.N),(.int .u64 a)] bn (λr b=>aI ((s.Kind==2) || (s.Kind==3)) λy=>aI (y&&(!r)) λd=>Q d b) h
def Wx (P:Program) (r:Option Addr) (e:Int) (place:Int) (Q:(Hp->Prop)) (h:Hp):Prop:=
 cY (some (e !=0)) (aa P vd [(yP r)] bn) (λf a=>aI ((e !=0)&&(!f)) λy=>(if y then
 ai none r λp=>cJ a (Addr.add p 2) [(yI e)] (λb=>ai none r λd=>cJ b (Addr.add d 3) [(yI place)] (λc=>Q c))
 else
 Q a)) h
def Vx (P:Program) (r:Option Addr) (Q:(Hp->Prop)) (h:Hp):Prop:=
 aA (α1:=Int) (λd b c=>(if decide (b<5) then
 bh [(yI 0)] (λa e=>cJ e a [(yI b)] (λf=>aa P xr [(yP r),(yI 1),(.func (.func 84) #[] #[(yP (some a))])] (af .u64) (λi g=>d (yw (b+1)) g) f)) c
 else
 Q c)) 0 h
def NR (P:Program) (r:Option Addr) (Q:(Bool->(Hp->Prop))) (h:Hp):Prop:=
 ai none r λp=>fj h p 2 λx=>Q (x !=0) h
def Vz (P:Program) (r:Option Addr) (c:Option Addr) (Q:(Hp->Prop)) (h:Hp):Prop:=
 bh [(yP c)] (λa k=>aa P NF [(yP r),(yI 8)] yH (λs l=>aA (α1:=Int) (λj n m=>cY (some (decide (n>0))) (aa P vd [(yP r)] bn) (λr2 e=>aI ((decide (n>0))&&(!r2)) λy=>(if y then
 aa P xr [(yP r),(yI 8),(.func (.func 85) #[] #[(yP (some a))])] (af .u64) (λt b=>aR none ag b a λx=>aR none ag b a λg=>ai none g λp=>dz b p 0 λi=>bh [(.int .u64 t)] (λa1 d=>(((bf d a [(yP x)])/\((bf d a [(yP g)])/\((bf d (Addr.add p 0) [i.v])/\True)))/\fu 1 8 [(.int .u64 0)] i ⟨(some a1),1,1⟩ (λu f=>(((bf f a [(yP x)])/\True)/\ai none x λq=>cJ f (Addr.add q 0) [u.v] (λo=>j (yw (n-1)) o))) d)) b) e
 else
 Q e)) m) s l) k) h
def Wb (P:Program) (r:Option Addr) (c:Option Addr) (Q:(Hp->Prop)) (h:Hp):Prop:=
 aa P NF [(yP r),(yI 64)] yH (λm g=>aA (α1:=Int) (λf n i=>cY (some (decide (n>0))) (aa P vd [(yP r)] bn) (λr2 b=>aI ((decide (n>0))&&(!r2)) λy=>(if y then
 ai none c λp=>dz b p 1 λx=>aa P SA [(yP r),(yP c)] yH (λo d=>(((bf d (Addr.add p 1) [x.v])/\True)/\bh [(yI o)] (λa e=>(((bf e (Addr.add p 1) [x.v])/\True)/\fu 1 8 [(yI 0)] x ⟨(some a),1,1⟩ (λq j=>ai none c λl=>cJ j (Addr.add l 1) [q.v] (λk=>f (yw (n-1)) k)) e)) d)) b
 else
 Q b)) i) m g) h
def VB (P:Program) (r:Option Addr) (part:Int) (bytes:Int) (Q:(Int->(Hp->Prop))) (h:Hp):Prop:=
 bh [(yI part)] (λa b=>aa P I8 [(yP r),(yI bytes),(.func (.func 88) #[] #[(yP (some a))])] yH (λd c=>Q d c) b) h
def Uu (P:Program) (r:Option Addr) (iA:Int) (Q:(Int->(Hp->Prop))) (h:Hp):Prop:=
 bh [(yI iA)] (λa b=>aa P I8 [(yP r),(yI 1),(.func (.func 90) #[] #[(yP (some a))])] yH (λd c=>Q d c) b) h
def Wz (P:Program) (r:Option Addr) (c:Option Addr) (Q:(Hp->Prop)) (h:Hp):Prop:=
 aa P SA [(yP r),(yP c)] yH (λq l=>aa P I8 [(yP r),(yI 2),(.func (.func 92) #[] #[])] yH (λr2 m=>bT (α1:=Int) (α2:=aU) (λk i p n=>cY (some (decide (i<r2))) (aa P vd [(yP r)] bn) (λs d=>aI ((decide (i<r2))&&(!s)) λy=>(if y then
 ai none c λf=>fj d f 4 λx=>aa P zuj [(yP r),(yI r2),(yI x)] aV (λb e=>((True/\True)/\bh [(yI b.Op),(yI b.A),(yI b.B),(yI b.C),(yI b.iU)] (λa g=>((True/\True)/\fu 5 40 [(yI 0),(yI 0),(yI 0),(yI 0),(yI 0)] ⟨p.Code.base,p.Code.len,p.Code.cap⟩ ⟨(some a),1,1⟩ (λt j=>k (yw (i+1)) ⟨p.Part,t⟩ j) g)) e)) d
 else
 ai none c λf=>dz d f 6 λx=>bh [(yI p.Part),p.Code.v] (λa e=>(((bf e (Addr.add f 6) [x.v])/\True)/\fu 2 32 [(yI 0),yN] x ⟨(some a),1,1⟩ (λb g=>ai none c λo=>cJ g (Addr.add o 6) [b.v] (λj=>Q j)) e)) d)) n) 0 ⟨q,⟨none,0,0⟩⟩ m) l) h
def Ct (P:Program) (c:an) (Q:(Int->(Int->(Hp->Prop)))) (h:Hp):Prop:=
 bu P Oo [c.aN.v] yH yH (λr w j=>(if (r !=0)=true then
 Q r 0 j
 else
 aa P On [(yI (c.Table.len:Int)),(yI 64)] yH (λr2 k=>(if (r2 !=0)=true then
 Q r2 1 k
 else
 jm P Om [c.Table.v,(yI (c.aN.len:Int))] ag yH yH (λy o z l=>(if (o !=0)=true then
 Q o 1 l
 else
 bh [(yI 0),(yI 0),(yI c.Fuel),(yI c.gH),(yI c.bQ),(yI c.Log)] (λa t=>aA (α1:=Int) (λq b g=>(if decide (b<6) then
 ((bF (some a) 6 b)/\aR none yH g (sat (some a) 1 b) λx=>aa P YH [(yI b),(yI x)] yH (λf e=>(if (f !=0)=true then
 Q f b e
 else
 q (yw (b+1)) e)) g)
 else
 aa P On [(yI (c.aG.len:Int)),(yI 32)] yH (λf e=>(if (f !=0)=true then
 Q f 6 e
 else
 aA (α1:=Int) (λs d i=>(if decide (d<(c.aG.len:Int)) then
 ((bF c.aG.base c.aG.len d)/\aR none bA i (sat c.aG.base 2 d) λx=>aa P EP [(yI x.Part),(yI 0),(yI (yw ((c.aN.len:Int)-1)))] bn (λu m=>(if (!u)=true then
 Q 2 (yw (7+d)) m
 else
 bu P Cm [x.Code.v,(yI c.bQ)] yH yH (λp A n=>(if (p !=0)=true then
 Q p (yw (7+d)) n
 else
 s (yw (d+1)) n)) m)) i)
 else
 Q 0 0 i)) 0 e)) g)) 0 t) l)) k)) j)) h
def Yi (P:Program) (c:an) (s:aD) (Q:(Option Addr->(Hp->Prop))) (h:Hp):Prop:=
 aa P zwx [c.v] aQ (λr M=>((True/\True)/\bh [r.aN.v,r.Table.v,(yI r.Fuel),(yI r.gH),(yI r.bQ),(yI r.Log),r.aG.v,(yP none),(yP none),(yI s.fg),yN,yN] (λa R=>jm P BJ [c.aN.v] ag yH yH (λr1 r2 r3 S=>ai none (some a) λp=>cJ S (Addr.add p 7) [(yP r1)] (λT=>jm P Om [c.Table.v,(yI (c.aN.len:Int))] ag yH yH (λr4 r5 r6 U=>ai none (some a) λW=>cJ U (Addr.add W 8) [(yP r4)] (λV=>aA (α1:=Int) (λK y D=>(if decide (y<(s.bZ.len:Int)) then
 ((bF s.bZ.base s.bZ.len y)/\aR none cg D (sat s.bZ.base 6 y) λx=>bu P Oq [x.eO.v,x.dO.v] ag yH (λF r8 e=>ai none (some a) λg=>dz e g 10 λd=>aa P If [x.Log.v] au (λG f=>(((bf f (Addr.add g 10) [d.v])/\(True/\(True/\(True/\True))))/\aa P BK [] ag (λE l=>(((bf l (Addr.add g 10) [d.v])/\(True/\(True/\(True/\True))))/\bh [yN,(yI x.Cursor),G.v,(yI x.nX),(yI x.eN),(yP F),(yP E)] (λa1 m=>(((bf m (Addr.add g 10) [d.v])/\True)/\bh [(yP (some a1))] (λa2 u=>(((bf u (Addr.add g 10) [d.v])/\True)/\fu 1 8 [(yP none)] d ⟨(some a2),1,1⟩ (λq i=>ai none (some a) λn=>cJ i (Addr.add n 10) [q.v] (λB=>K (yw (y+1)) B)) u)) m)) l)) f)) e) D)
 else
 aA (α1:=Int) (λL b e=>(if decide (b<(s.aG.len:Int)) then
 cL (λk=>((bF s.aG.base s.aG.len b)/\aR none bB e (sat s.aG.base 15 b) λx=>ai none (some a) λg=>aR none au e (Addr.add (Addr.add g 0) 6) λd=>((bF d.base d.len b)/\aR none bA e (sat d.base 2 b) λz=>bu P OB [(yI c.gH),x.fL.v,(yI x.Cursor)] ag yH (λF r8 f=>ai none (some a) λn=>dz f n 11 λH=>bh [(yI b),(yI z.Part),z.Code.v,(yI x.State),(yI x.PC),(yI x.cw),(yI x.cx),(yI x.cC),(yI x.cD),(yI x.cE),(yI x.cF),(yI x.cG),(yI x.cH),(.bool x.km),(yP F)] (λa1 l=>(((bf l (Addr.add n 11) [H.v])/\True)/\bh [(yP (some a1))] (λa2 m=>(((bf m (Addr.add n 11) [H.v])/\True)/\fu 1 8 [(yP none)] H ⟨(some a2),1,1⟩ (λG u=>ai none (some a) λX=>cJ u (Addr.add X 11) [G.v] (λi=>ai none (some a) λY=>dz i Y 10 λI=>((bF I.base I.len z.Part)/\aR none ag i (sat I.base 1 z.Part) λA=>ai none A λZ=>dz i Z 0 λx6=>bh [(yI b)] (λa3 B=>fu 1 8 [(yI 0)] x6 ⟨(some a3),1,1⟩ (λE N=>ai none A λp7=>cJ N (Addr.add p7 0) [E.v] (λC=>cL (λJ=>(if decide (x.Timer>0) then
 ai none A λo=>mj C o 6 λt=>aa P xv [(yI b)] yH (λq j=>(((bf j (Addr.add o 6) [(yP t)])/\(True/\True))/\aa P xt [(yP t),(yI q),(yI x.Timer)] yH (λa8 w=>J w) j)) C
 else
 J C))
 (λj=>(if decide (x.n8>0) then
 ai none A λo=>mj j o 6 λt=>aa P yn [(yI b)] yH (λq w=>(((bf w (Addr.add o 6) [(yP t)])/\(True/\True))/\aa P xt [(yP t),(yI q),(yI x.n8)] yH (λa8 O=>k O) w)) j
 else
 k j)))) B) i))) m)) l)) f) e)))
 (λf=>L (yw (b+1)) f)
 else
 Q (some a) e)) 0 D)) 0 V)) T)) R) M)) h
def XJ (P:Program) (c:an) (Q:(aD->(Hp->Prop))) (h:Hp):Prop:=
 (dW 96 [(yI 0),yN,(yI 0),(yI 0),yN,yN] (c.aN.len:Int) (c.aN.len:Int) (λr q=>((True/\True)/\dW 136 [(yI 0),(yI 0),(yI 0),(yI 0),(yI 0),(yI 0),(yI 0),(yI 0),(yI 0),(yI 0),(yI 0),(yI 0),(.bool false),(yI 0),yN] (c.aG.len:Int) (c.aG.len:Int) (λd s=>aA (α1:=Int) (λo b n=>(if decide (b<(r.len:Int)) then
 cL (λk=>(bh [(yI (-1))] (λa e=>((True/\(True/\(True/\(True/\True))))/\(aa P uo [(.slice (some a) 1 1),(yI c.bQ)] au (λr2 g=>((True/\(True/\(True/\True)))/\((bF r.base r.len b)/\(dW 24 [yN] c.bQ c.bQ (λl f=>((True/\(True/\True))/\cJ f (Addr.add (sat r.base 6 b) 4) [r2.v] (λi=>((True/\True)/\((bF r.base r.len b)/\cJ i (Addr.add (sat r.base 6 b) 5) [l.v] (λj=>k j)))))) g/\cJ g (Addr.add (sat r.base 6 b) 4) [r2.v] (λf=>((True/\(True/\True))/\dW 24 [yN] c.bQ c.bQ (λl i=>((True/\(True/\True))/\((bF r.base r.len b)/\cJ i (Addr.add (sat r.base 6 b) 5) [l.v] (λj=>k j)))) f)))))) e/\dW 24 [yN] c.bQ c.bQ (λr2 g=>((True/\(True/\(True/\True)))/\aa P uo [(.slice (some a) 1 1),(yI c.bQ)] au (λl f=>((True/\(True/\(True/\True)))/\((bF r.base r.len b)/\cJ f (Addr.add (sat r.base 6 b) 4) [l.v] (λi=>((True/\(True/\True))/\((bF r.base r.len b)/\cJ i (Addr.add (sat r.base 6 b) 5) [r2.v] (λj=>k j))))))) g)) e))) n/\dW 24 [yN] c.bQ c.bQ (λr2 e=>((True/\(True/\(True/\True)))/\bh [(yI (-1))] (λa g=>((True/\(True/\(True/\(True/\True))))/\aa P uo [(.slice (some a) 1 1),(yI c.bQ)] au (λl f=>((True/\(True/\(True/\True)))/\((bF r.base r.len b)/\cJ f (Addr.add (sat r.base 6 b) 4) [l.v] (λi=>((True/\(True/\True))/\((bF r.base r.len b)/\cJ i (Addr.add (sat r.base 6 b) 5) [r2.v] (λj=>k j))))))) g)) e)) n))
 (λe=>o (yw (b+1)) e)
 else
 aA (α1:=Int) (λp m e=>(if decide (m<(d.len:Int)) then
 dW 64 [yN,yN,(yI 0),(yI 0)] (yw ((c.aN.len:Int)+1)) (yw ((c.aN.len:Int)+1)) (λr2 g=>((True/\True)/\((bF d.base d.len m)/\cJ g (Addr.add (sat d.base 15 m) 14) [r2.v] (λf=>p (yw (m+1)) f)))) e
 else
 Q ⟨0,r,d⟩ e)) 0 n)) 0 s) q)) h/\dW 136 [(yI 0),(yI 0),(yI 0),(yI 0),(yI 0),(yI 0),(yI 0),(yI 0),(yI 0),(yI 0),(yI 0),(yI 0),(.bool false),(yI 0),yN] (c.aG.len:Int) (c.aG.len:Int) (λr q=>((True/\True)/\dW 96 [(yI 0),yN,(yI 0),(yI 0),yN,yN] (c.aN.len:Int) (c.aN.len:Int) (λd s=>((True/\True)/\aA (α1:=Int) (λo b n=>(if decide (b<(d.len:Int)) then
 cL (λk=>(bh [(yI (-1))] (λa e=>((True/\(True/\(True/\(True/\True))))/\(aa P uo [(.slice (some a) 1 1),(yI c.bQ)] au (λr2 g=>((True/\(True/\(True/\True)))/\((bF d.base d.len b)/\(dW 24 [yN] c.bQ c.bQ (λl f=>((True/\(True/\True))/\cJ f (Addr.add (sat d.base 6 b) 4) [r2.v] (λi=>((True/\True)/\((bF d.base d.len b)/\cJ i (Addr.add (sat d.base 6 b) 5) [l.v] (λj=>k j)))))) g/\cJ g (Addr.add (sat d.base 6 b) 4) [r2.v] (λf=>((True/\(True/\True))/\dW 24 [yN] c.bQ c.bQ (λl i=>((True/\(True/\True))/\((bF d.base d.len b)/\cJ i (Addr.add (sat d.base 6 b) 5) [l.v] (λj=>k j)))) f)))))) e/\dW 24 [yN] c.bQ c.bQ (λr2 g=>((True/\(True/\(True/\True)))/\aa P uo [(.slice (some a) 1 1),(yI c.bQ)] au (λl f=>((True/\(True/\(True/\True)))/\((bF d.base d.len b)/\cJ f (Addr.add (sat d.base 6 b) 4) [l.v] (λi=>((True/\(True/\True))/\((bF d.base d.len b)/\cJ i (Addr.add (sat d.base 6 b) 5) [r2.v] (λj=>k j))))))) g)) e))) n/\dW 24 [yN] c.bQ c.bQ (λr2 e=>((True/\(True/\(True/\True)))/\bh [(yI (-1))] (λa g=>((True/\(True/\(True/\(True/\True))))/\aa P uo [(.slice (some a) 1 1),(yI c.bQ)] au (λl f=>((True/\(True/\(True/\True)))/\((bF d.base d.len b)/\cJ f (Addr.add (sat d.base 6 b) 4) [l.v] (λi=>((True/\(True/\True))/\((bF d.base d.len b)/\cJ i (Addr.add (sat d.base 6 b) 5) [r2.v] (λj=>k j))))))) g)) e)) n))
 (λe=>o (yw (b+1)) e)
 else
 aA (α1:=Int) (λp m e=>(if decide (m<(r.len:Int)) then
 dW 64 [yN,yN,(yI 0),(yI 0)] (yw ((c.aN.len:Int)+1)) (yw ((c.aN.len:Int)+1)) (λr2 g=>((True/\True)/\((bF r.base r.len m)/\cJ g (Addr.add (sat r.base 15 m) 14) [r2.v] (λf=>p (yw (m+1)) f)))) e
 else
 Q ⟨0,d,r⟩ e)) 0 n)) 0 s)) q)) h)
def N4 (P:Program) (r:Option Addr) (s:aC) (Q:(Int->(Hp->Prop))) (h:Hp):Prop:=
 (if decide (s.N<1) then
 Q 1 h
 else
 ai none r λp=>fj h p 1 λx=>(if (decide (s.N>(yw (65536-x))))=true then
 Q 3 h
 else
 aA (α1:=Int) (λg f a=>(if decide (f<s.N) then
 ai none r λc=>mj a c 0 λe=>aa P zoa [(yP e)] yH (λj b=>ai none r λd=>cJ b (Addr.add d 2) [(yI j)] (λi=>g (yw (f+1)) i)) a
 else
 ai none r λc=>fj a c 1 λe=>ai none r λd=>cJ a (Addr.add d 1) [(yI (yw (e+s.N)))] (λb=>Q 0 b))) 0 h))
def zxa (P:Program) (r:Option Addr) (s:aC) (Q:(Int->(Hp->Prop))) (h:Hp):Prop:=
 ai none r λp=>mj h p 0 λx=>aa P zmg [(yP x),(yI s.N),(yI s.V)] yH (λb a=>Q b a) h
def H4 (P:Program) (r:Option Addr) (s:aC) (Q:(Int->(Hp->Prop))) (h:Hp):Prop:=
 ai none r λp=>mj h p 0 λx=>aa P zob [(yP x),(yI s.N)] yH (λb a=>Q b a) h
def Uw (P:Program) (a:Sl) (b:Sl) (Q:(Bool->(Hp->Prop))) (h:Hp):Prop:=
 (if ((a.len:Int) !=(b.len:Int))=true then
 Q false h
 else
 aA (α1:=Int) (λd i c=>(if decide (i<(a.len:Int)) then
 ((bF a.base a.len i)/\aR none yH c (sat a.base 1 i) λx=>((bF b.base b.len i)/\aR none yH c (sat b.base 1 i) λe=>(if (x !=e)=true then
 Q false c
 else
 d (yw (i+1)) c)))
 else
 Q true c)) 0 h)
def RM (P:Program) (a:cl) (b:cl) (Q:(Bool->(Hp->Prop))) (h:Hp):Prop:=
 aI (((a.dZ.len:Int) !=(b.dZ.len:Int)) || ((a.cM.len:Int) !=(b.cM.len:Int))) λy=>aI (y || (a.lK !=b.lK)) λl=>aI (l || (a.iF !=b.iF)) λm=>(if m then
 Q false h
 else
 aA (α1:=Int) (λg i e=>(if decide (i<(a.dZ.len:Int)) then
 ((bF a.dZ.base a.dZ.len i)/\aR none yH e (sat a.dZ.base 1 i) λx=>((bF b.dZ.base b.dZ.len i)/\aR none yH e (sat b.dZ.base 1 i) λf=>(if (x !=f)=true then
 Q false e
 else
 g (yw (i+1)) e)))
 else
 aA (α1:=Int) (λj d c=>(if decide (d<(a.cM.len:Int)) then
 ((bF a.cM.base a.cM.len d)/\aR none aH c (sat a.cM.base 2 d) λx=>((bF b.cM.base b.cM.len d)/\aR none aH c (sat b.cM.base 2 d) λf=>iu none P (cS .neq 192 (.tmp 66) (.tmp 71) x.v f.v) bn c λk=>(if k then
 Q false c
 else
 j (yw (d+1)) c)))
 else
 Q true c)) 0 e)) 0 h)
def Wc (P:Program) (l:Option Addr) (Q:(Sl->(Sl->(Hp->Prop)))) (h:Hp):Prop:=
 ai none l λp=>dz h p 0 λx=>qH (α1:=Sl) (α2:=Sl) (α3:=Int) (λe aB av b c=>(if decide (b<(x.len:Int)) then
 ((bF x.base x.len b)/\aR none ft c (sat x.base 2 b) λd=>bh [(yI d.owner)] (λa f=>fu 1 8 [(yI 0)] ⟨aB.base,aB.len,aB.cap⟩ ⟨(some a),1,1⟩ (λr g=>aa P Nz [d.queue.v] au (λm i=>bh [m.v] (λa1 j=>fu 1 24 [yN] ⟨av.base,av.len,av.cap⟩ ⟨(some a1),1,1⟩ (λr2 k=>e r r2 (yw (b+1)) k) j) i) g) f) c)
 else
 Q ⟨aB.base,aB.len,aB.cap⟩ ⟨av.base,av.len,av.cap⟩ c)) ⟨none,0,0⟩ ⟨none,0,0⟩ 0 h
def Qu (P:Program) (s:Sl) (Q:(Sl->(Hp->Prop))) (h:Hp):Prop:=
 iu none P (cS .eql 83 (.tmp 3) (.const yN) s.v yN) bn h λx=>(if x then
 Q ⟨none,0,0⟩ h
 else
 bh [] (λa b=>fu 3 24 [(yI 0),(yI 0),(yI 0)] ⟨(some a),0,0⟩ s (λr c=>Q r c) b) h)
def WV (P:Program) (p:Option Addr) (Q:(Sl->(Int->(Hp->Prop)))) (h:Hp):Prop:=
 ai none p λj=>dz h j 0 λx=>bT (α1:=Sl) (α2:=Int) (λe out c b=>(if decide (c<(x.len:Int)) then
 ((bF x.base x.len c)/\aR none ag b (sat x.base 1 c) λd=>aa P WO [(yP d)] bR (λr f=>bh [r.dZ.v,r.cM.v,(yI r.lK),(yI r.iF)] (λa g=>fu 4 64 [yN,yN,(yI 0),(yI 0)] ⟨out.base,out.len,out.cap⟩ ⟨(some a),1,1⟩ (λl i=>e l (yw (c+1)) i) g) f) b)
 else
 ai none p λk=>fj b k 1 λd=>Q ⟨out.base,out.len,out.cap⟩ d b)) ⟨none,0,0⟩ 0 h
def NS (P:Program) (w:Option Addr) (dG:Int) (Q:(Int->(Bool->(Hp->Prop)))) (h:Hp):Prop:=
 ai none w λp=>aR none gv h (Addr.add p 1) λx=>nm none (.int .i64) aY (.agg #[(yI 0),(yI 0)]) x (yI dG) h λa ok=>Q a.due ok h
def NZ (P:Program) (p:Int) (Q:(Int->(Hp->Prop))) (h:Hp):Prop:=
 Q (yw (2*p)) h
def N0 (P:Program) (p:Int) (Q:(Int->(Hp->Prop))) (h:Hp):Prop:=
 Q (yw ((yw (2*p))+1)) h
def NB (P:Program) (m:Option Addr) (Q:(Int->(Hp->Prop))) (h:Hp):Prop:=
 ai none m λp=>mj h p 8 λx=>ai none m λC=>fj h C 9 λL=>aa P zrf [(yP x),(yI L)] yH (λr f=>ai none m λF=>dz f F 10 λj=>((bF j.base j.len r)/\aR none ag f (sat j.base 1 r) λb=>bC P Uk [(yP m),(yP b)] (λs=>ai none m λG=>aR none yH s (Addr.add (Addr.add G 0) 2) λN=>cL (λk=>aA (α1:=Int) (λy t c=>(if decide (t<N) then
 ai none b λg=>dz c g 0 λl=>aA (α1:=Int) (λz d a=>(if decide (d<(l.len:Int)) then
 ai none b λi=>fj a i 1 λn=>ai none b λH=>dz a H 0 λe=>((e.len:Int)≠0/\ai none m λI=>dz a I 11 λo=>ai none b λJ=>dz a J 0 λq=>((bF q.base q.len (Int.tmod (yw (n+d)) (e.len:Int)))/\aR none yH a (sat q.base 1 (Int.tmod (yw (n+d)) (e.len:Int))) λu=>((bF o.base o.len u)/\aR none ag a (sat o.base 1 u) λv=>ai none v λK=>fj a K 3 λM=>(if (M==0)=true then
 ai none b λD=>dz a D 0 λw=>((w.len:Int)≠0/\ai none b λE=>cJ a (Addr.add E 1) [(yI (Int.tmod (yw ((Int.tmod (yw (n+d)) (e.len:Int))+1)) (w.len:Int)))] (λA=>bC P Tu [(yP m),(yP v)] (λB=>y (yw (t+1)) B) A))
 else
 z (yw (d+1)) a))))
 else
 k a)) 0 c
 else
 k c)) 0 s)
 (λc=>ai none m λg=>fj c g 9 λl=>ai none m λi=>cJ c (Addr.add i 9) [(yI (yw (l+1)))] (λa=>Q r a))) f)) h
def Nv (P:Program) (m:Option Addr) (p:Int) (v:Int) (Q:(Int->(Hp->Prop))) (h:Hp):Prop:=
 aa P SG [(yP m),(yI p)] yH (λr a=>(if (r !=0)=true then
 Q r a
 else
 ai none m λg=>dz a g 11 λx=>((bF x.base x.len p)/\aR none ag a (sat x.base 1 p) λd=>ai none m λi=>dz a i 10 λf=>ai none d λj=>mj a j 14 λl=>aa P NW [(yP l),(yI (f.len:Int)),(yI v)] yH (λe b=>(if (e !=0)=true then
 ai none d λk=>mj b k 14 λn=>bC P Jj [(yP n),(yI (f.len:Int))] (λc=>Q e c) b
 else
 bC P IC [(yP m),(yP d)] (λc=>Q 0 c) b)) a))) h
def NC (P:Program) (m:Option Addr) (p:Int) (Q:(Int->(Hp->Prop))) (h:Hp):Prop:=
 aa P SG [(yP m),(yI p)] yH (λr a=>(if (r !=0)=true then
 Q r a
 else
 ai none m λc=>dz a c 11 λx=>((bF x.base x.len p)/\aR none ag a (sat x.base 1 p) λd=>bC P NA [(yP m),(yP d),(yI 6)] (λb=>Q 0 b) a))) h
def LB (P:Program) (table:Sl) (parts:Int) (Q:(Option Addr->(Int->(Int->(Hp->Prop))))) (h:Hp):Prop:=
 bh [(yI parts)] (λa b=>aR none yH b a λx=>aR (some (!(decide (x<1)))) yH b a λi=>aI ((decide (x<1)) || (decide (i>8))) λy=>aI (y || ((table.len:Int)==0)) λj=>(if j then
 Q none 1 0 b
 else
 (if decide ((table.len:Int)>64) then
 Q none 3 64 b
 else
 aa P zjx [table.v,(.func (.func 117) #[] #[(yP (some a))])] yH (λr c=>(if decide (r>=0) then
 Q none 2 r c
 else
 aR none yH c a λe=>aa P Nz [table.v] au (λg d=>(((bf d a [(yI e)])/\True)/\bh [g.v,(yI e)] (λa1 f=>Q (some a1) 0 0 f) d)) c)) b))) h
def WW (P:Program) (x:Int) (y:Int) (Q:(Int->(Int->(Hp->Prop)))) (h:Hp):Prop:=
 ((0:Int)<=(32:Int)/\((0:Int)<=(32:Int)/\((0:Int)<=(32:Int)/\((0:Int)<=(32:Int)/\((0:Int)<=(32:Int)/\Q (IntKind.wrap .u64 ((IntKind.wrap .u64 ((IntKind.wrap .u64 ((gy .u64 x (32:Int))*(gy .u64 y (32:Int))))+(gy .u64 (IntKind.wrap .u64 ((IntKind.wrap .u64 ((gy .u64 x (32:Int))*(dM .and .u64 y (4294967295:Int))))+(gy .u64 (IntKind.wrap .u64 ((dM .and .u64 x (4294967295:Int))*(dM .and .u64 y (4294967295:Int)))) (32:Int)))) (32:Int))))+(gy .u64 (IntKind.wrap .u64 ((dM .and .u64 (IntKind.wrap .u64 ((IntKind.wrap .u64 ((gy .u64 x (32:Int))*(dM .and .u64 y (4294967295:Int))))+(gy .u64 (IntKind.wrap .u64 ((dM .and .u64 x (4294967295:Int))*(dM .and .u64 y (4294967295:Int)))) (32:Int)))) (4294967295:Int))+(IntKind.wrap .u64 ((dM .and .u64 x (4294967295:Int))*(gy .u64 y (32:Int)))))) (32:Int)))) (IntKind.wrap .u64 (x*y)) h)))))
def VD (P:Program) (a:Int) (n:Int) (Q:(Bool->(Hp->Prop))) (h:Hp):Prop:=
 aI ((decide (n>=0))&&(decide (n<=63))) λy=>((y=true->0<=n)/\aI (y&&((dM .and .u64 (gy .u64 a n) 1)==1)) λb=>Q b h)
def TC (P:Program) (x:aK) (n:Int) (ae:Int) (Q:(Int->(Hp->Prop))) (h:Hp):Prop:=
 bu P Tv [x.v,(yI n),(yI ae)] yH yH (λr b a=>Q r a) h
def VF (P:Program) (r:Option Addr) (many:Int) (j:xm) (Q:(Int->(Hp->Prop))) (h:Hp):Prop:=
 aa P vd [(yP r)] bn (λA a=>(if A then
 Q 0 a
 else
 ai none r λp=>dz a p 0 λx=>ai none r λt=>fj a t 1 λB=>(if (decide ((yw ((x.len:Int)-B))<many))=true then
 ai none r λi=>dz a i 0 λd=>bC P yf [(yP r),(yI 5),(yI (d.len:Int))] (λb=>Q 0 b) a
 else
 ai none r λi=>dz a i 0 λd=>ai none r λu=>fj a u 1 λe=>ai none r λv=>fj a v 1 λk=>((0<=e/\(e<=(yw (k+many))/\(yw (k+many))<=(d.cap:Int)))/\aI (α:=Sl) ⟨(be d.base 1 (Int.toNat e) d.cap),((Int.toNat (yw (k+many)))-(Int.toNat e)),(d.cap-(Int.toNat e))⟩ λy=>bT (α1:=Int) (α2:=Int) (λq n c b=>(if decide (c<(y.len:Int)) then
 ((bF y.base y.len c)/\aR none (af .u8) b (sat y.base 1 c) λf=>(0<=(yw (8*c))/\q (dM .or .u64 n (qV .u64 (IntKind.wrap .u64 f) (yw (8*c)))) (yw (c+1)) b))
 else
 ai none r λo=>fj b o 1 λf=>gK P tb (.func (.func j.g) j.first j.captured) [(.int .u64 n)] yH (λr2 l=>(((bf l (Addr.add o 1) [(yI f)])/\True)/\bC P yf [(yP r),(yI r2),(yI f)] (λm=>ai none r λw=>fj m w 1 λC=>ai none r λz=>cJ m (Addr.add z 1) [(yI (yw (C+many)))] (λs=>Q n s)) l)) b)) 0 0 a)))) h
def TE (P:Program) (n:Int) (a1:Addr) (Q:(Int->(Hp->Prop))) (h:Hp):Prop:=
 aR none yH h a1 λx=>((0<=x/\x<5)/\(if ((IntKind.wrap .u8 n) !=(((UInt8.toNat (List.getD [70,66,67,70,1] (Int.toNat x) 0)):Nat):Int))=true then
 Q 4 h
 else
 Q 0 h))
def TG (P:Program) (a:Int) (a1:Addr) (Q:(Int->(Hp->Prop))) (h:Hp):Prop:=
 aR none ag h a1 λx=>ai none x λp=>dz h p 0 λb=>aR (some (decide ((yw ((b.len:Int)-1))>=0))) ag h a1 λg=>ai (some (decide ((yw ((b.len:Int)-1))>=0))) g λe=>aR (some (decide ((yw ((b.len:Int)-1))>=0))) au h (Addr.add e 0) λc=>(((decide ((yw ((b.len:Int)-1))>=0))=true->(bF c.base c.len (yw ((b.len:Int)-1))))/\aR (some (decide ((yw ((b.len:Int)-1))>=0))) (af .u64) h (sat c.base 1 (yw ((b.len:Int)-1))) λi=>aI ((decide ((yw ((b.len:Int)-1))>=0))&&(a==i)) λy=>(if y then
 Q 8 h
 else
 aR (some (decide ((yw ((b.len:Int)-1))>=0))) ag h a1 λj=>ai (some (decide ((yw ((b.len:Int)-1))>=0))) j λf=>aR (some (decide ((yw ((b.len:Int)-1))>=0))) au h (Addr.add f 0) λd=>(((decide ((yw ((b.len:Int)-1))>=0))=true->(bF d.base d.len (yw ((b.len:Int)-1))))/\aR (some (decide ((yw ((b.len:Int)-1))>=0))) (af .u64) h (sat d.base 1 (yw ((b.len:Int)-1))) λk=>aI ((decide ((yw ((b.len:Int)-1))>=0))&&(decide (a<k))) λl=>(if l then
 Q 7 h
 else
 Q 0 h))))
def S1 (P:Program) (r:Option Addr) (c:Option Addr) (Q:(Int->(Hp->Prop))) (h:Hp):Prop:=
 bh [(yP c)] (λa b=>aa P I8 [(yP r),(yI 1),(.func (.func 122) #[] #[(yP (some a))])] yH (λe d=>Q e d) b) h
def WX (P:Program) (r:Option Addr) (many:Int) (wrong:xm) (Q:(Int->(Hp->Prop))) (h:Hp):Prop:=
 bh [(.func (.func wrong.g) wrong.first wrong.captured)] (λa b=>aa P xr [(yP r),(yI many),(.func (.func 123) #[] #[(yP (some a))])] (af .u64) (λd c=>Q (yw d) c) b) h
def zod (P:Program) (n:Int) (a1:Addr) (Q:(Int->(Hp->Prop))) (h:Hp):Prop:=
 aR none yH h a1 λx=>aa P YH [(yI x),(yI n)] yH (λr a=>Q r a) h
def YK (P:Program) (part:Int) (n:Int) (Q:(Int->(Hp->Prop))) (h:Hp):Prop:=
 (if (part==2)=true then
 aa P EP [(yI n),(yI 1),(yI 256)] bn (λr a=>(if (!r)=true then
 Q 2 a
 else
 Q 0 a)) h
 else
 (if (part==3)=true then
 aa P EP [(yI n),(yI 1),(yI 64)] bn (λr a=>(if (!r)=true then
 Q 2 a
 else
 Q 0 a)) h
 else
 (if (part==4)=true then
 aa P EP [(yI n),(yI 0),(yI 8)] bn (λr a=>(if (!r)=true then
 Q 2 a
 else
 Q 0 a)) h
 else
 (if (part==5)=true then
 aa P EP [(yI n),(yI 0),(yI 4096)] bn (λr a=>(if (!r)=true then
 Q 2 a
 else
 Q 0 a)) h
 else
 Q 0 h))))
def znm (P:Program) (n:Int) (a1:Addr) (Q:(Int->(Hp->Prop))) (h:Hp):Prop:=
 aR none yH h a1 λx=>aa P On [(yI n),(yI x)] yH (λr a=>Q r a) h
def BP (P:Program) (n:Int) (iA:Int) (Q:(Int->(Hp->Prop))) (h:Hp):Prop:=
 (if (n==0)=true then
 Q 1 h
 else
 (if decide (n>iA) then
 Q 3 h
 else
 Q 0 h))
def VH (P:Program) (n:Int) (Q:(Int->(Hp->Prop))) (h:Hp):Prop:=
 (if decide (n>256) then
 Q 3 h
 else
 Q 0 h)
def WY (P:Program) (r:Option Addr) (n:Int) (ae:Int) (Q:(aK->(Hp->Prop))) (h:Hp):Prop:=
 aa P vd [(yP r)] bn (λu a=>(if u then
 Q ⟨0,0,0,0,0⟩ a
 else
 ai none r λp=>fj a p 1 λx=>ai none r λs=>dz a s 0 λw=>(if (decide ((yw ((w.len:Int)-x))<12))=true then
 ai none r λt=>dz a t 0 λy=>bC P yf [(yP r),(yI 5),(yI (y.len:Int))] (λf=>Q ⟨0,0,0,0,0⟩ f) a
 else
 aa P xr [(yP r),(yI 1),(.func (.func 124) #[] #[])] (af .u64) (λr2 f=>aa P xr [(yP r),(yI 1),(.func (.func 124) #[] #[])] (af .u64) (λb j=>aa P xr [(yP r),(yI 1),(.func (.func 124) #[] #[])] (af .u64) (λc k=>aa P xr [(yP r),(yI 1),(.func (.func 124) #[] #[])] (af .u64) (λd l=>aa P xr [(yP r),(yI 8),(.func (.func 124) #[] #[])] (af .u64) (λe m=>aa P Od [(.agg #[(yI (yw r2)),(yI (yw b)),(yI (yw c)),(yI (yw d)),(yI (yw e))]),(yI n),(yI ae)] yH (λg i=>(if (g !=0)=true then
 aa P Iy [(.agg #[(yI (yw r2)),(yI (yw b)),(yI (yw c)),(yI (yw d)),(yI (yw e))]),(yI g)] yH (λv o=>bC P yf [(yP r),(yI g),(yI (yw (x+v)))] (λq=>Q ⟨(yw r2),(yw b),(yw c),(yw d),(yw e)⟩ q) o) i
 else
 Q ⟨(yw r2),(yw b),(yw c),(yw d),(yw e)⟩ i)) m) l) k) j) f) a))) h
def LD (P:Program) (l:Sl) (Q:(Int->(Int->(Hp->Prop)))) (h:Hp):Prop:=
 (if ((l.len:Int)==0)=true then
 Q 1 0 h
 else
 (if decide ((l.len:Int)>8) then
 Q 3 8 h
 else
 aA (α1:=Int) (λb i a=>(if decide (i<(l.len:Int)) then
 ((bF l.base l.len i)/\aR none (af .u64) a (sat l.base 1 i) λx=>((bF l.base l.len (yw (i-1)))/\aR none (af .u64) a (sat l.base 1 (yw (i-1))) λc=>(if (x==c)=true then
 Q 8 i a
 else
 ((bF l.base l.len i)/\aR none (af .u64) a (sat l.base 1 i) λd=>((bF l.base l.len (yw (i-1)))/\aR none (af .u64) a (sat l.base 1 (yw (i-1))) λe=>(if decide (d<e) then
 Q 7 i a
 else
 b (yw (i+1)) a))))))
 else
 Q 0 0 a)) 1 h))
def YL (P:Program) (n:Int) (from_:Int) (to:Int) (Q:(Bool->(Hp->Prop))) (h:Hp):Prop:=
 aI ((decide (n>=from_))&&(decide (n<=to))) λy=>Q y h
def Cu (P:Program) (l:Sl) (ae:Int) (Q:(Int->(Int->(Hp->Prop)))) (h:Hp):Prop:=
 aI ((decide (ae<0)) || (decide (ae>8))) λy=>(if y then
 Q 1 0 h
 else
 (if decide ((l.len:Int)>256) then
 Q 3 256 h
 else
 aA (α1:=Int) (λd a b=>(if decide (a<(l.len:Int)) then
 ((bF l.base l.len a)/\aR none aV b (sat l.base 5 a) λx=>aa P Od [x.v,(yI (l.len:Int)),(yI ae)] yH (λr c=>(if (r !=0)=true then
 Q r a c
 else
 d (yw (a+1)) c)) b)
 else
 Q 0 0 b)) 0 h))
def Xk (P:Program) (c:an) (Q:(an->(Hp->Prop))) (h:Hp):Prop:=
 aa P QV [c.aN.v] au (λr e=>((True/\(True/\True))/\aa P Nz [c.Table.v] au (λk f=>((True/\True)/\aa P zfj [c.aG.v] au (λr2 g=>aA (α1:=Int) (λd a b=>(if decide (a<(r2.len:Int)) then
 ((bF r2.base r2.len a)/\aR none bA b (sat r2.base 2 a) λx=>aa P zfz [x.Code.v] au (λl i=>((True/\True)/\((bF r2.base r2.len a)/\cJ i (Addr.add (sat r2.base 2 a) 1) [l.v] (λj=>d (yw (a+1)) j)))) b)
 else
 Q ⟨r,k,c.Fuel,c.gH,c.bQ,c.Log,r2⟩ b)) 0 g) f)) e)) h
def LG (P:Program) (l:Sl) (Q:(Option Addr->(Int->(Int->(Hp->Prop))))) (h:Hp):Prop:=
 bu P Oo [l.v] yH yH (λr m d=>(if (r !=0)=true then
 Q none r m d
 else
 aa P QV [l.v] au (λr2 g=>E5  (λn i=>bh [r2.v,(.map n)] (λa e=>ai none (some a) λp=>dz e p 0 λx=>aA (α1:=Int) (λf b c=>(if decide (b<(x.len:Int)) then
 ((bF x.base x.len b)/\aR none (af .u64) c (sat x.base 1 b) λo=>ai none (some a) λk=>aR none gv c (Addr.add k 1) λq=>xD (.int .u64) q (.int .u64 o) (yI b) (λj=>f (yw (b+1)) j) c)
 else
 Q (some a) 0 0 c)) 0 e) i) g) d)) h
def BR (P:Program) (aB:Sl) (av:Sl) (Q:(Option Addr->(Int->(Hp->Prop)))) (h:Hp):Prop:=
 aI ((decide ((aB.len:Int)>8)) || (decide ((av.len:Int)>8))) λy=>(if y then
 Q none 3 h
 else
 (if ((aB.len:Int) !=(av.len:Int))=true then
 Q none 4 h
 else
 bh [yN] (λa w=>aA (α1:=Int) (λt b c=>(if decide (b<(aB.len:Int)) then
 ((bF aB.base aB.len b)/\aR none yH c (sat aB.base 1 b) λx=>((((!(decide (x<(-1))))&&(x==(-1)))=true->(bF av.base av.len b))/\aR (some ((!(decide (x<(-1))))&&(x==(-1)))) au c (sat av.base 1 b) λE=>aI ((x==(-1))&&(decide ((E.len:Int)>0))) λy1=>aI ((decide (x<(-1))) || y1) λG=>(if G then
 Q none 4 c
 else
 ai none (some a) λp=>dz c p 0 λF=>bh [(yI x),yN] (λa1 A=>fu 2 32 [(yI 0),yN] F ⟨(some a1),1,1⟩ (λr B=>ai none (some a) λC=>cJ B (Addr.add C 0) [r.v] (λn=>((bF av.base av.len b)/\aR none au n (sat av.base 1 b) λj=>aA (α1:=Int) (λu i l=>(if decide (i<(j.len:Int)) then
 ((bF j.base j.len i)/\aR none yH l (sat j.base 1 i) λk=>bu P NJ [(yP (some a)),(yI k)] yH bn (λJ r2 d=>aI (r2 || (decide (k<0))) λH=>aI (H || (k==x)) λI=>(if I then
 Q none 4 d
 else
 ai none (some a) λm=>dz d m 0 λe=>ai none (some a) λq=>dz d q 0 λf=>((bF f.base f.len b)/\aR none au d (Addr.add (sat f.base 2 b) 1) λs=>bh [(yI k)] (λa2 g=>(((bf g (Addr.add m 0) [e.v])/\((bf g (Addr.add q 0) [f.v])/\((bf g (Addr.add (sat f.base 2 b) 1) [s.v])/\True)))/\fu 1 8 [(yI 0)] s ⟨(some a2),1,1⟩ (λD o=>(((bf o (Addr.add m 0) [e.v])/\True)/\((bF e.base e.len b)/\cJ o (Addr.add (sat e.base 2 b) 1) [D.v] (λz=>u (yw (i+1)) z)))) g)) d))) l)
 else
 t (yw (b+1)) l)) 0 n))) A) c)))
 else
 Q (some a) 0 c)) 0 w) h))
def Ot (P:Program)  (Q:(Option Addr->(Hp->Prop))) (h:Hp):Prop:=
 E5  (λr b=>bh [yN,(.map r)] (λa c=>Q (some a) c) b) h
def Cv (P:Program) (room:Int) (l:Sl) (ah:Int) (Q:(Option Addr->(Int->(Hp->Prop)))) (h:Hp):Prop:=
 aI ((decide ((l.len:Int)<1)) || (decide ((l.len:Int)>9))) λy=>aI (y || (decide (room<1))) λo=>aI (o || (decide (room>64))) λq=>(if q then
 Q none 1 h
 else
 aI ((decide (ah<0)) || (decide (ah>=(l.len:Int)))) λs=>(if s then
 Q none 2 h
 else
 bh [yN,(yI ah)] (λa f=>aA (α1:=Int) (λe b c=>(if decide (b<(l.len:Int)) then
 ((bF l.base l.len b)/\aR none bR c (sat l.base 4 b) λx=>bu P Co [(yI room),x.v] ag yH (λr m d=>(if (m !=0)=true then
 Q none 4 d
 else
 ai none (some a) λp=>dz d p 0 λn=>bh [(yP r)] (λa1 g=>fu 1 8 [(yP none)] n ⟨(some a1),1,1⟩ (λr2 i=>ai none (some a) λk=>cJ i (Addr.add k 0) [r2.v] (λj=>e (yw (b+1)) j)) g) d)) c)
 else
 Q (some a) 0 c)) 0 f) h))
def NT (P:Program) (w:Option Addr) (dG:Int) (due:Int) (Q:(Int->(Hp->Prop))) (h:Hp):Prop:=
 aI ((decide (dG<0)) || (decide (due<0))) λy=>(if y then
 Q 1 h
 else
 aa P Ca [(yP w),(yI dG)] bn (λr b=>ai none w λp=>dz b p 0 λx=>bu P Np [x.v,(.agg #[(yI due),(yI dG)]),(.func (.func 134) #[] #[])] yH bn (λm r2 c=>ai none w λf=>dz c f 0 λg=>bh [(yI due),(yI dG)] (λa d=>(((bf d (Addr.add f 0) [g.v])/\True)/\aa P P9 [g.v,(yI m),(.slice (some a) 1 1)] au (λn i=>ai none w λk=>cJ i (Addr.add k 0) [n.v] (λe=>ai none w λl=>aR none gv e (Addr.add l 1) λo=>xD (.int .i64) o (yI dG) (.agg #[(yI due),(yI dG)]) (λj=>Q 0 j) e)) d)) c) b) h)
def S3 (P:Program) (x:Sl) (count:Int) (Q:(Sl->(Hp->Prop))) (h:Hp):Prop:=
 cL (λk=>(if decide (count<0) then
 False
 else
 k h))
 (λd=>bu P XD [(.int .u64 (IntKind.wrap .u64 (x.len:Int))),(.int .u64 (IntKind.wrap .u64 count))] (af .u64) (af .u64) (λr a e=>cL (λk=>aI ((decide (r>0)) || (decide (a>9223372036854775807))) λy=>(if y then
 False
 else
 k e))
 (λf=>dW 8 [(yI 0)] (yw a) (yw a) (λr2 g=>fY 1 r2 x (λl i=>aA (α1:=Int) (λc n b=>(if decide (n<(r2.len:Int)) then
 ((0<=n/\n<=(r2.len:Int))/\aI (α:=Sl) ⟨(be r2.base 1 (Int.toNat n) r2.cap),(r2.len-(Int.toNat n)),(r2.cap-(Int.toNat n))⟩ λy=>((0<=n/\n<=(r2.cap:Int))/\aI (α:=Sl) ⟨(be r2.base 1 0 r2.cap),((Int.toNat n)-0),(r2.cap-0)⟩ λo=>fY 1 y o (λm j=>c (yw (n+m)) j) b))
 else
 Q r2 b)) l i) g) f)) d)
def EK (P:Program) (s:Sl) (Q:(Sl->(Hp->Prop))) (h:Hp):Prop:=
 iu none P (cS .eql 23 (.tmp 3) (.const yN) s.v yN) bn h λx=>(if x then
 Q ⟨none,0,0⟩ h
 else
 bh [] (λa b=>fu 1 8 [(yI 0)] ⟨(some a),0,0⟩ s (λr c=>Q r c) b) h)
def WZ (P:Program) (l:Option Addr) (Q:(cl->(Hp->Prop))) (h:Hp):Prop:=
 ai none l λp=>dz h p 1 λx=>ai none l λg=>dz h g 2 λi=>ai none l λc=>fj h c 3 λe=>ai none l λd=>fj h d 4 λf=>aa P Re [x.v] au (λr a=>(((bf a (Addr.add g 2) [i.v])/\((bf a (Addr.add c 3) [(yI e)])/\((bf a (Addr.add d 4) [(yI f)])/\True)))/\aa P Qm [i.v] au (λj b=>(((bf b (Addr.add c 3) [(yI e)])/\((bf b (Addr.add d 4) [(yI f)])/\True))/\Q ⟨r,j,e,f⟩ b)) a)) h
def Wd (P:Program) (s:Option Addr) (t:Int) (Q:(Int->(Hp->Prop))) (h:Hp):Prop:=
 (if decide (t<0) then
 Q (-1) h
 else
 ai none s λp=>dz h p 0 λx=>ai none s λb=>dz h b 0 λa=>((a.len:Int)≠0/\((bF x.base x.len (Int.tmod t (a.len:Int)))/\aR none yH h (sat x.base 1 (Int.tmod t (a.len:Int))) λc=>Q c h)))
def Uy (P:Program) (m:Option Addr) (x:Option Addr) (Q:(Hp->Prop)) (h:Hp):Prop:=
 ai none x λp=>mj h p 6 λz=>ai none m λq=>fj h q 9 λA=>aa P zuk [(yP z),(yI A)] au (λr o=>aA (α1:=Int) (λn e a=>(if decide (e<(r.len:Int)) then
 cL (λk=>((bF r.base r.len e)/\aR none yH a (sat r.base 1 e) λi=>ai none m λs=>dz a s 11 λj=>((2:Int)≠(0:Int)/\((bF j.base j.len (yw (Int.tdiv i (2:Int))))/\aR none ag a (sat j.base 1 (yw (Int.tdiv i (2:Int)))) λb=>ai none b λt=>fj a t 0 λB=>aa P yn [(yI B)] yH (λy c=>(if (i==y)=true then
 ai none b λg=>aR none fk c (Addr.add g 4) λl=>aa P xx [l.v] fk (λr2 d=>bC P IF [(yP m),(yP b),r2.v] (λf=>k f) d) c
 else
 ai none b λg=>cJ c (Addr.add g 13) [(.bool true)] (λd=>ai none b λu=>fj d u 3 λl=>(if (l==(1:Int))=true then
 ai none b λw=>cJ d (Addr.add w 3) [(yI (0:Int))] (λf=>k f)
 else
 k d)))) a))))
 (λc=>n (yw (e+(1:Int))) c)
 else
 Q a)) (0:Int) o) h
def TI (P:Program) (m:Option Addr) (p:Option Addr) (Q:(Hp->Prop)) (h:Hp):Prop:=
 ai none p λH=>aR none fk h (Addr.add H 4) λx=>ai none p λI=>dz h I 2 λS=>ai none m λJ=>fj h J 9 λT=>ai none p λK=>fj h K 0 λU=>bu P Cp [x.v,S.v,(yI T),(yI U)] fk Dp (λr d F=>ai none p λL=>cJ F (Addr.add L 4) [(yI r.PC),(yI r.cw),(yI r.cx),(yI r.cC),(yI r.cD),(yI r.cE),(yI r.cF),(yI r.cG),(yI r.cH)] (λu=>ai none m λM=>dz u M 10 λD=>ai none p λN=>fj u N 1 λE=>((bF D.base D.len E)/\aR none ag u (sat D.base 1 E) λn=>(if (d.Kind==1)=true then
 bC P NA [(yP m),(yP p),(yI 5)] (λb=>Q b) u
 else
 (if (d.Kind==2)=true then
 bC P SK [(yP m),(yP p),(yI d.To),(yI d.fh)] (λb=>Q b) u
 else
 cQ (α1:=Bool) (λk=>(if (d.Kind==3)=true then
 k (d.Kind==3) u
 else
 k (d.Kind==4) u))
 (λR b=>(if R then
 bC P SM [(yP m),(yP p),(.bool (d.Kind==4))] (λc=>Q c) b
 else
 (if (d.Kind==5)=true then
 ai none p λq=>cJ b (Addr.add q 13) [(.bool false)] (λc=>ai none n λs=>mj c s 6 λo=>ai none p λf=>fj c f 0 λt=>aa P xv [(yI t)] yH (λr2 e=>(((bf e (Addr.add s 6) [(yP o)])/\True)/\aa P Ca [(yP o),(yI r2)] bn (λA i=>(if decide (d.fh>0) then
 ai none n λl=>mj i l 6 λg=>ai none p λC=>fj i C 0 λy=>ai none m λz=>fj i z 9 λB=>aa P xv [(yI y)] yH (λj w=>(((bf w (Addr.add l 6) [(yP g)])/\((bf w (Addr.add z 9) [(yI B)])/\(True/\True)))/\aa P xt [(yP g),(yI j),(yI (yw (B+(ju d.fh 1099511627776))))] yH (λO G=>Q G) w)) i
 else
 Q i)) e)) c)
 else
 (if (d.Kind==6)=true then
 ai none n λq=>mj b q 6 λo=>ai none p λs=>fj b s 0 λt=>ai none m λf=>fj b f 9 λg=>aa P yn [(yI t)] yH (λr2 c=>(((bf c (Addr.add q 6) [(yP o)])/\((bf c (Addr.add f 9) [(yI g)])/\(True/\True)))/\aa P xt [(yP o),(yI r2),(yI (yw (g+(ju (qx d.fh 1) 1099511627776))))] yH (λA e=>ai none p λl=>cJ e (Addr.add l 3) [(yI 4)] (λi=>Q i)) c)) b
 else
 (if (d.Kind==7)=true then
 ai none n λq=>mj b q 5 λo=>ai none p λs=>fj b s 0 λt=>bu P NN [(yP o),(yI d.To),(yI t)] bn yH (λr2 A c=>(if r2 then
 ai none p λf=>aR none fk c (Addr.add f 4) λg=>aa P xx [g.v] fk (λj e=>ai none p λl=>cJ e (Addr.add l 4) [(yI j.PC),(yI j.cw),(yI j.cx),(yI j.cC),(yI j.cD),(yI j.cE),(yI j.cF),(yI j.cG),(yI j.cH)] (λi=>Q i)) c
 else
 ai none p λf=>cJ c (Addr.add f 3) [(yI 3)] (λe=>Q e))) b
 else
 (if (d.Kind==8)=true then
 ai none n λq=>mj b q 5 λo=>ai none p λs=>fj b s 0 λt=>aa P NK [(yP o),(yI t)] au (λr2 c=>((True/\True)/\aa P Ns [r2.v,(yI d.To)] bn (λA e=>(if A then
 ai none n λf=>mj e f 5 λg=>ai none p λl=>fj e l 0 λy=>bu P IZ [(yP g),(yI d.To),(yI y)] yH yH (λj O i=>bC P BQ [(yP m),(yI j)] (λw=>Q w) i) e
 else
 Q e)) c)) b
 else
 (if (d.Kind==9)=true then
 ai none n λq=>dz b q 2 λo=>ai none m λs=>aR none yH b (Addr.add (Addr.add s 0) 5) λt=>(if decide ((o.len:Int)<t) then
 ai none n λf=>dz b f 2 λg=>ai none m λl=>fj b l 9 λy=>ai none p λC=>fj b C 0 λB=>bh [(yI y),(yI B),(yI d.fh)] (λa c=>(((bf c (Addr.add f 2) [g.v])/\True)/\fu 3 24 [(yI 0),(yI 0),(yI 0)] g ⟨(some a),1,1⟩ (λr2 e=>ai none n λz=>cJ e (Addr.add z 2) [r2.v] (λi=>Q i)) c)) b
 else
 ai none n λf=>fj b f 3 λg=>aa P N3 [(yI g)] yH (λr2 c=>ai none n λl=>cJ c (Addr.add l 3) [(yI r2)] (λe=>Q e)) b)
 else
 Q b)))))))))))) h
def S5 (P:Program) (m:Option Addr) (p:Int) (Q:(Int->(Hp->Prop))) (h:Hp):Prop:=
 ai (some (!(decide (p<0)))) m λc=>aR (some (!(decide (p<0)))) au h (Addr.add c 11) λx=>aI ((decide (p<0)) || (decide (p>=(x.len:Int)))) λy=>(if y then
 Q 17 h
 else
 ai none m λd=>dz h d 11 λa=>((bF a.base a.len p)/\aR none ag h (sat a.base 1 p) λf=>ai none f λe=>fj h e 3 λg=>aa P NX [(yI g)] bn (λr b=>(if (!r)=true then
 Q 18 b
 else
 Q 0 b)) h))
def N1 (P:Program) (p:Option Addr) (lane:Int) (v:Int) (Q:(Int->(Hp->Prop))) (h:Hp):Prop:=
 aa P NQ [(yP p),(yI lane)] bn (λr a=>(if (!r)=true then
 Q 2 a
 else
 ai none p λc=>dz a c 0 λx=>((bF x.base x.len lane)/\aR none ag a (sat x.base 1 lane) λe=>aa P zxw [(yP e),(yI v)] yH (λd b=>Q d b) a))) h
def NV (P:Program) (p:Option Addr) (lane:Int) (Q:(Hp->Prop)) (h:Hp):Prop:=
 aa P NQ [(yP p),(yI lane)] bn (λr a=>(if r then
 ai none p λc=>dz a c 0 λx=>((bF x.base x.len lane)/\aR none ag a (sat x.base 1 lane) λd=>bC P Xf [(yP d)] (λb=>Q b) a)
 else
 Q a)) h
def TK (P:Program) (m:Option Addr) (q:Option Addr) (Q:(Hp->Prop)) (h:Hp):Prop:=
 ai none q λp=>fj h p 3 λx=>(if (x==1)=true then
 ai none q λb=>cJ h (Addr.add b 3) [(yI 0)] (λa=>Q a)
 else
 Q h)
def TN (P:Program) (m:Option Addr) (p:Option Addr) (state:Int) (Q:(Hp->Prop)) (h:Hp):Prop:=
 ai none m λM=>dz h M 10 λx=>ai none p λS=>fj h S 1 λE=>((bF x.base x.len E)/\aR none ag h (sat x.base 1 E) λn=>ai none p λT=>cJ h (Addr.add T 3) [(yI state)] (λJ=>ai none p λU=>cJ J (Addr.add U 13) [(.bool false)] (λA=>ai none n λV=>dz A V 0 λo=>aA (α1:=Int) (λG k a=>(if decide (k<(o.len:Int)) then
 ((bF o.base o.len k)/\aR none yH a (sat o.base 1 k) λq=>ai none m λv=>dz a v 11 λe=>((bF e.base e.len q)/\aR none ag a (sat e.base 1 q) λb=>ai none b λw=>mj a w 14 λz=>ai none p λg=>fj a g 0 λs=>aa P WQ [(yP z),(yI s)] bn (λr t=>G (yw (k+1)) t) a))
 else
 ai none n λv=>mj a v 5 λq=>ai none p λw=>fj a w 0 λe=>aa P zul [(yP q),(yI e)] au (λr t=>aA (α1:=Int) (λH l d=>(if decide (l<(r.len:Int)) then
 ((bF r.base r.len l)/\aR none N2 d (sat r.base 2 l) λb=>bC P BQ [(yP m),(yI b.dp)] (λf=>H (yw (l+1)) f) d)
 else
 ai none n λg=>mj d g 6 λb=>ai none p λW=>fj d W 0 λz=>aa P xv [(yI z)] yH (λX f=>(((bf f (Addr.add g 6) [(yP b)])/\True)/\aa P Ca [(yP b),(yI X)] bn (λr2 u=>ai none n λD=>mj u D 6 λs=>ai none p λN=>fj u N 0 λx9=>aa P yn [(yI x9)] yH (λY B=>(((bf B (Addr.add D 6) [(yP s)])/\True)/\aa P Ca [(yP s),(yI Y)] bn (λr4 C=>ai none p λO=>mj C O 14 λZ=>aa P zxx [(yP Z)] au (λi K=>aA (α1:=Int) (λI j c=>(if decide (j<(i.len:Int)) then
 ((bF i.base i.len j)/\aR none aH c (sat i.base 2 j) λF=>ai none m λR=>dz c R 11 λy=>((bF y.base y.len F.dp)/\aR none ag c (sat y.base 1 F.dp) λa8=>bC P xq [(yP m),(yP a8),(yI 2)] (λL=>I (yw (j+1)) L) c))
 else
 Q c)) 0 K) C) B)) u) f)) d)) 0 t) a)) 0 A)))
def Rg (P:Program) (s:Sl) (f:xm) (Q:(Int->(Hp->Prop))) (h:Hp):Prop:=
 aA (α1:=Int) (λd a b=>(if decide (a<(s.len:Int)) then
 ((bF s.base s.len a)/\aR none yH b (sat s.base 1 a) λx=>gK P tb (.func (.func f.g) f.first f.captured) [(yI x)] bn (λr c=>(if r then
 Q a c
 else
 d (yw (a+1)) c)) b)
 else
 Q (-1) b)) 0 h
def YM (P:Program) (p:Int) (a1:Addr) (Q:(Bool->(Hp->Prop))) (h:Hp):Prop:=
 aR (some (!(decide (p<0)))) yH h a1 λx=>aI ((decide (p<0)) || (decide (p>=x))) λy=>Q y h
def RO (P:Program) (s:Sl) (v:Int) (Q:(Bool->(Hp->Prop))) (h:Hp):Prop:=
 aa P Tw [s.v,(yI v)] yH (λr a=>Q (decide (r>=0)) a) h
def TP (P:Program) (x:aK) (n:Int) (ae:Int) (Q:(Int->(Int->(Hp->Prop)))) (h:Hp):Prop:=
 aI ((decide (x.Op<0)) || (decide (x.Op>=34))) λy=>(if y then
 Q 9 0 h
 else
 nV P SP [(yI x.Op)] bn bn bn bn (λr i r2 j g=>aa P Nt [(yI x.A),(.bool r)] yH (λd b=>(if (d !=0)=true then
 Q d 1 b
 else
 aa P Nt [(yI x.B),(.bool i)] yH (λe c=>(if (e !=0)=true then
 Q e 2 c
 else
 aa P Nt [(yI x.C),(.bool r2)] yH (λf a=>(if (f !=0)=true then
 Q f 3 a
 else
 aI ((!j)&&(x.iU !=0)) λk=>(if k then
 Q 11 4 a
 else
 aI ((x.Op==22) || (x.Op==23)) λl=>aI ((decide (x.iU<0)) || (decide (x.iU>n))) λm=>aI (l&&m) λo=>(if o then
 Q 12 4 a
 else
 aI ((x.Op==29) || (x.Op==30)) λp=>aI ((decide (x.iU<0)) || (decide (x.iU>=ae))) λq=>aI (p&&q) λs=>(if s then
 Q 13 4 a
 else
 Q 0 0 a))))) c)) b)) g) h)
def zlc (P:Program) (n:Int) (a1:Addr) (Q:(Int->(Hp->Prop))) (h:Hp):Prop:=
 aR none ag h a1 λx=>ai none x λp=>dz h p 0 λa=>(if decide (n>=(a.len:Int)) then
 Q 2 h
 else
 Q 0 h)
def zrp (P:Program) (n:Int) (a1:Addr) (Q:(Int->(Hp->Prop))) (h:Hp):Prop:=
 aR none kf h a1 λx=>gK P tb (.func (.func x.g) x.first x.captured) [(yI (yw n))] yH (λr a=>Q r a) h
def zrq (P:Program) (a0:Int) (Q:(Int->(Hp->Prop))) (h:Hp):Prop:=
 Q 0 h
def Zl (P:Program) (x:aK) (n:Int) (ae:Int) (Q:(Int->(Hp->Prop))) (h:Hp):Prop:=
 bu P Zh [x.v,(yI n),(yI ae)] yH yH (λr b a=>Q r a) h
def YN (P:Program) (x:aK) (e:Int) (Q:(Int->(Hp->Prop))) (h:Hp):Prop:=
 (if (e==9)=true then
 Q 0 h
 else
 nV P N6 [(yI x.Op)] bn bn bn bn (λr j r2 l g=>bh [(.bool r),(yI x.A),(.bool j),(yI x.B),(.bool r2),(yI x.C)] (λa i=>aA (α1:=Int) (λf b c=>(if decide (b<3) then
 ((bF (some a) 3 b)/\aR none Iq c (sat (some a) 2 b) λd=>aI (d.has&&(decide (d.n>=8))) λy=>aI ((!d.has)&&(d.n !=0)) λy1=>aI (y || y1) λk=>(if k then
 Q (yw (1+b)) c
 else
 f (yw (b+1)) c))
 else
 Q 4 c)) 0 i) g) h)
def Nq (P:Program) (s:Sl) (Q:(Sl->(Hp->Prop))) (h:Hp):Prop:=
 iu none P (cS .eql 22 (.tmp 3) (.const yN) s.v yN) bn h λx=>(if x then
 Q ⟨none,0,0⟩ h
 else
 bh [] (λa b=>fu 1 8 [(.int .u64 0)] ⟨(some a),0,0⟩ s (λr c=>Q r c) b) h)
def zfl (P:Program) (s:Sl) (Q:(Sl->(Hp->Prop))) (h:Hp):Prop:=
 iu none P (cS .eql 24 (.tmp 3) (.const yN) s.v yN) bn h λx=>(if x then
 Q ⟨none,0,0⟩ h
 else
 bh [] (λa b=>fu 2 32 [(yI 0),yN] ⟨(some a),0,0⟩ s (λr c=>Q r c) b) h)
def zga (P:Program) (s:Sl) (Q:(Sl->(Hp->Prop))) (h:Hp):Prop:=
 iu none P (cS .eql 62 (.tmp 3) (.const yN) s.v yN) bn h λx=>(if x then
 Q ⟨none,0,0⟩ h
 else
 bh [] (λa b=>fu 5 40 [(yI 0),(yI 0),(yI 0),(yI 0),(yI 0)] ⟨(some a),0,0⟩ s (λr c=>Q r c) b) h)
def We (P:Program) (l:Option Addr) (p:Int) (Q:(Int->(Bool->(Hp->Prop)))) (h:Hp):Prop:=
 ai none l λe=>dz h e 0 λx=>aA (α1:=Int) (λd a b=>(if decide (a<(x.len:Int)) then
 ((bF x.base x.len a)/\aR none ft b (sat x.base 2 a) λf=>aa P Ns [f.queue.v,(yI p)] bn (λr c=>(if r then
 Q a true c
 else
 d (yw (a+1)) c)) b)
 else
 Q 0 false b)) 0 h
def Cw (P:Program) (room:Int) (s:cl) (Q:(Option Addr->(Int->(Hp->Prop)))) (h:Hp):Prop:=
 bu P Cq [(yI room)] ag yH (λr c a=>(if (c !=0)=true then
 Q none c a
 else
 aI ((decide ((s.cM.len:Int)>0))&&(decide ((s.dZ.len:Int)<room))) λy=>aI ((decide ((s.dZ.len:Int)>room)) || y) λd=>cY (some (!d)) (aa P N7 [(yI s.lK),(yI 0),(yI 65535)] bn) (λr2 i=>aI (d || (!r2)) λe=>cY (some (!e)) (aa P N7 [(yI s.iF),(yI 0),(yI 65535)] bn) (λw j=>aI (e || (!w)) λf=>cY (some (!f)) (aa P I3 [s.cM.v] bn) (λr4 b=>aI (f || r4) λA=>(if A then
 Q none 4 b
 else
 aa P Re [s.dZ.v] au (λx k=>((True/\True)/\aa P Qm [s.cM.v] au (λz l=>ai none r λp=>cJ l (Addr.add p 1) [x.v] (λm=>ai none r λq=>cJ m (Addr.add q 2) [z.v] (λn=>ai none r λt=>cJ n (Addr.add t 3) [(yI s.lK)] (λo=>((True/\True)/\ai none r λu=>cJ o (Addr.add u 4) [(yI s.iF)] (λg=>Q r 0 g)))))) k)) b)) j) i) a)) h
def NM (P:Program) (w:Option Addr) (dG:Int) (Q:(Bool->(Hp->Prop))) (h:Hp):Prop:=
 ai none w λp=>aR none gv h (Addr.add p 1) λx=>nm none (.int .i64) aY (.agg #[(yI 0),(yI 0)]) x (yI dG) h λn ok=>(if (!ok)=true then
 Q false h
 else
 ai none w λk=>dz h k 0 λc=>aA (α1:=Int) (λi b a=>(if decide (b<(c.len:Int)) then
 ((bF c.base c.len b)/\aR none aY a (sat c.base 2 b) λf=>iu none P (cS .eql 205 (.tmp 30) (.tmp 31) f.v n.v) bn a λo=>(if o then
 ai none w λe=>dz a e 0 λq=>aa P zde [q.v,(yI b),(yI (yw (b+1)))] au (λr d=>ai none w λl=>cJ d (Addr.add l 0) [r.v] (λg=>ai none w λm=>aR none gv g (Addr.add m 1) λs=>wP (.int .i64) s (yI dG) (λj=>Q true j) g)) a
 else
 i (yw (b+1)) a))
 else
 ai none w λe=>aR none gv a (Addr.add e 1) λf=>wP (.int .i64) f (yI dG) (λd=>Q true d) a)) 0 h)
def PM (P:Program) (x:Sl) (target:ay) (cmp:xm) (Q:(Int->(Bool->(Hp->Prop)))) (h:Hp):Prop:=
 bT (α1:=Int) (α2:=Int) (λd i j b=>(if decide (i<j) then
 jU (α1:=Int) (α2:=Int) (λk=>((0:Int)<=(1:Int)/\((bF x.base x.len (yw (gy .u64 (IntKind.wrap .u64 (yw (i+j))) (1:Int))))/\aR none aY b (sat x.base 2 (yw (gy .u64 (IntKind.wrap .u64 (yw (i+j))) (1:Int)))) λc=>gK P tb (.func (.func cmp.g) cmp.first cmp.captured) [c.v,target.v] yH (λr a=>(if decide (r<(0:Int)) then
 k (yw ((yw (gy .u64 (IntKind.wrap .u64 (yw (i+j))) (1:Int)))+(1:Int))) j a
 else
 k i (yw (gy .u64 (IntKind.wrap .u64 (yw (i+j))) (1:Int))) a)) b)))
 (λe f a=>d e f a)
 else
 (((decide (i<(x.len:Int)))=true->(bF x.base x.len i))/\aR (some (decide (i<(x.len:Int)))) aY b (sat x.base 2 i) λc=>cY (some (decide (i<(x.len:Int)))) (gK P tb (.func (.func cmp.g) cmp.first cmp.captured) [c.v,target.v] yH) (λr a=>aI ((decide (i<(x.len:Int)))&&(r==(0:Int))) λy=>Q i y a) b))) (0:Int) (x.len:Int) h
def YO (P:Program) (a:ay) (b:ay) (Q:(Int->(Hp->Prop))) (h:Hp):Prop:=
 aa P zrh [(yI a.due),(yI b.due)] yH (λr c=>((True/\(True/\True))/\aa P zum [(yI a.dG),(yI b.dG)] yH (λg d=>bh [(yI r),(yI g)] (λa1 e=>aa P I4 [(.slice (some a1) 2 2)] yH (λr2 f=>Q r2 f) e) d) c)) h
def zdf (P:Program) (s:Sl) (i:Int) (v:Sl) (Q:(Sl->(Hp->Prop))) (h:Hp):Prop:=
 ((0<=i/\i<=(s.len:Int))/\aI (α:=Sl) ⟨(be s.base 2 (Int.toNat i) s.cap),(s.len-(Int.toNat i)),(s.cap-(Int.toNat i))⟩ λy=>(if ((v.len:Int)==0)=true then
 Q s h
 else
 (if (i==(s.len:Int))=true then
 fu 2 16 [(yI 0),(yI 0)] s v (λr b=>Q r b) h
 else
 (if (decide ((yw ((s.len:Int)+(v.len:Int)))>(s.cap:Int)))=true then
 ((0<=i/\i<=(s.cap:Int))/\aI (α:=Sl) ⟨(be s.base 2 0 s.cap),((Int.toNat i)-0),(s.cap-0)⟩ λa=>yC 2 16 [(yI 0),(yI 0)] a (yw ((yw ((s.len:Int)+(v.len:Int)))-i)) (λr b=>((0<=i/\i<=(r.len:Int))/\aI (α:=Sl) ⟨(be r.base 2 (Int.toNat i) r.cap),(r.len-(Int.toNat i)),(r.cap-(Int.toNat i))⟩ λg=>fY 2 g v (λj c=>((0<=(yw (i+(v.len:Int)))/\(yw (i+(v.len:Int)))<=(r.len:Int))/\aI (α:=Sl) ⟨(be r.base 2 (Int.toNat (yw (i+(v.len:Int)))) r.cap),(r.len-(Int.toNat (yw (i+(v.len:Int))))),(r.cap-(Int.toNat (yw (i+(v.len:Int)))))⟩ λe=>((0<=i/\i<=(s.len:Int))/\aI (α:=Sl) ⟨(be s.base 2 (Int.toNat i) s.cap),(s.len-(Int.toNat i)),(s.cap-(Int.toNat i))⟩ λf=>fY 2 e f (λr2 d=>Q r d) c))) b)) h)
 else
 ((0<=(yw ((s.len:Int)+(v.len:Int)))/\(yw ((s.len:Int)+(v.len:Int)))<=(s.cap:Int))/\aI (α:=Sl) ⟨(be s.base 2 0 s.cap),((Int.toNat (yw ((s.len:Int)+(v.len:Int))))-0),(s.cap-0)⟩ λa=>((0<=(yw (i+(v.len:Int)))/\(yw (i+(v.len:Int)))<=(a.len:Int))/\aI (α:=Sl) ⟨(be a.base 2 (Int.toNat (yw (i+(v.len:Int)))) a.cap),(a.len-(Int.toNat (yw (i+(v.len:Int))))),(a.cap-(Int.toNat (yw (i+(v.len:Int)))))⟩ λg=>kE P (Extern.SlicesOverlaps.overlaps #[207,207] #[4] #[v.v,g.v]) bn (λr b=>(if (!r)=true then
 ((0<=(yw (i+(v.len:Int)))/\(yw (i+(v.len:Int)))<=(a.len:Int))/\aI (α:=Sl) ⟨(be a.base 2 (Int.toNat (yw (i+(v.len:Int)))) a.cap),(a.len-(Int.toNat (yw (i+(v.len:Int))))),(a.cap-(Int.toNat (yw (i+(v.len:Int)))))⟩ λe=>((0<=i/\i<=(a.len:Int))/\aI (α:=Sl) ⟨(be a.base 2 (Int.toNat i) a.cap),(a.len-(Int.toNat i)),(a.cap-(Int.toNat i))⟩ λf=>fY 2 e f (λj c=>((0<=i/\i<=(a.len:Int))/\aI (α:=Sl) ⟨(be a.base 2 (Int.toNat i) a.cap),(a.len-(Int.toNat i)),(a.cap-(Int.toNat i))⟩ λk=>fY 2 k v (λr2 d=>Q a d) c)) b))
 else
 ((0<=(s.len:Int)/\(s.len:Int)<=(a.len:Int))/\aI (α:=Sl) ⟨(be a.base 2 (Int.toNat (s.len:Int)) a.cap),(a.len-(Int.toNat (s.len:Int))),(a.cap-(Int.toNat (s.len:Int)))⟩ λe=>fY 2 e v (λj c=>((0<=i/\i<=(a.len:Int))/\aI (α:=Sl) ⟨(be a.base 2 (Int.toNat i) a.cap),(a.len-(Int.toNat i)),(a.cap-(Int.toNat i))⟩ λf=>bC P zfk [f.v,(yI (v.len:Int))] (λd=>Q a d) c)) b))) h))))))
def zyc (P:Program) (x:Int) (y:Int) (Q:(Int->(Int->(Hp->Prop)))) (h:Hp):Prop:=
 bu P WN [(.int .u64 x),(.int .u64 y)] (af .u64) (af .u64) (λr b a=>Q r b a) h
def Ri (P:Program) (s:Sl) (Q:(Sl->(Hp->Prop))) (h:Hp):Prop:=
 iu none P (cS .eql 131 (.tmp 3) (.const yN) s.v yN) bn h λx=>(if x then
 Q ⟨none,0,0⟩ h
 else
 bh [] (λa b=>fu 1 8 [(yI 0)] ⟨(some a),0,0⟩ s (λr c=>Q r c) b) h)
def Qn (P:Program) (s:Sl) (Q:(Sl->(Hp->Prop))) (h:Hp):Prop:=
 iu none P (cS .eql 132 (.tmp 3) (.const yN) s.v yN) bn h λx=>(if x then
 Q ⟨none,0,0⟩ h
 else
 bh [] (λa b=>fu 2 16 [(yI 0),(yI 0)] ⟨(some a),0,0⟩ s (λr c=>Q r c) b) h)
def NU (P:Program) (w:Option Addr) (k:Int) (Q:(Sl->(Hp->Prop))) (h:Hp):Prop:=
 aA (α1:=Sl) (λf out b=>ai none w λp=>dz b p 0 λx=>ai (some (decide ((x.len:Int)>0))) w λl=>aR (some (decide ((x.len:Int)>0))) au b (Addr.add l 0) λc=>(((decide ((x.len:Int)>0))=true->(bF c.base c.len 0))/\aR (some (decide ((x.len:Int)>0))) yH b (Addr.add (sat c.base 2 0) 0) λn=>aI ((decide ((x.len:Int)>0))&&(decide (n<=k))) λy=>(if y then
 ai none w λm=>dz b m 0 λd=>((bF d.base d.len 0)/\aR none yH b (Addr.add (sat d.base 2 0) 1) λe=>bh [(yI e)] (λa g=>fu 1 8 [(yI 0)] out ⟨(some a),1,1⟩ (λr i=>aa P Ca [(yP w),(yI e)] bn (λo j=>f r j) i) g) b)
 else
 Q out b))) ⟨none,0,0⟩ h
def TR (P:Program) (m:Option Addr) (p:Option Addr) (c:bc) (Q:(Hp->Prop)) (h:Hp):Prop:=
 ai none p λd=>cJ h (Addr.add d 3) [(yI 0)] (λa=>((True/\True)/\ai none p λe=>cJ a (Addr.add e 4) [(yI c.PC),(yI c.cw),(yI c.cx),(yI c.cC),(yI c.cD),(yI c.cE),(yI c.cF),(yI c.cG),(yI c.cH)] (λb=>Q b)))
def Cx (P:Program) (c:bc) (Q:(bc->(Hp->Prop))) (h:Hp):Prop:=
 Q ⟨(yw (c.PC+1)),c.cw,c.cx,c.cC,c.cD,c.cE,c.cF,c.cG,c.cH⟩ h
def Cy (P:Program) (c:bc) (l:Sl) (tick:Int) (H:Int) (Q:(bc->(eD->(Hp->Prop)))) (h:Hp):Prop:=
 bh [(yI c.PC),(yI c.cw),(yI c.cx),(yI c.cC),(yI c.cD),(yI c.cE),(yI c.cF),(yI c.cG),(yI c.cH)] (λa o=>aR none fk o a λx=>bu P wH [x.v,l.v] aV bn (λr q w=>cY (some (!(!q))) (aa P Od [r.v,(yI (l.len:Int)),(yI 8)] yH) (λr2 j=>aI ((!q) || (r2 !=0)) λy=>(if y then
 aR none fk j a λn=>Q n ⟨1,0,0⟩ j
 else
 aR none xw j (Addr.add a 1) λn=>jm P BL [r.v,n.v] Dp bn bn (λs D E e=>(if E then
 (if D then
 aR none fk e a λb=>((True/\True)/\Q b s e)
 else
 aR none fk e a λb=>aa P xx [b.v] fk (λi d=>((True/\True)/\((True/\True)/\Q i s d))) e)
 else
 aR none xw e (Addr.add a 1) λb=>jU (α1:=bc) (α2:=eD) (λk=>(if (r.Op==1)=true then
 bC P wD [(yP (some a)),(yI r.A),(yI r.iU)] (λd=>k ⟨0,0,0,0,0,0,0,0,0⟩ ⟨0,0,0⟩ d) e
 else
 (if (r.Op==2)=true then
 ((0<=r.B/\r.B<8)/\∃f:Int,((List.get?Internal (α:=Value) [(yI b.a0),(yI b.a1),(yI b.a2),(yI b.a3),(yI b.a4),(yI b.a5),(yI b.a6),(yI b.a7)] (0+((Int.toNat r.B)*1)))=(some (yI f))/\bC P wD [(yP (some a)),(yI r.A),(yI f)] (λd=>k ⟨0,0,0,0,0,0,0,0,0⟩ ⟨0,0,0⟩ d) e))
 else
 (if (r.Op==32)=true then
 bC P wD [(yP (some a)),(yI r.A),(yI tick)] (λd=>k ⟨0,0,0,0,0,0,0,0,0⟩ ⟨0,0,0⟩ d) e
 else
 (if (r.Op==33)=true then
 bC P wD [(yP (some a)),(yI r.A),(yI H)] (λd=>k ⟨0,0,0,0,0,0,0,0,0⟩ ⟨0,0,0⟩ d) e
 else
 (if (r.Op==22)=true then
 cJ e (Addr.add a 0) [(yI r.iU)] (λd=>aR none fk d a λf=>Q f ⟨0,0,0⟩ d)
 else
 (if (r.Op==23)=true then
 ((0<=r.A/\r.A<8)/\∃f:Int,((List.get?Internal (α:=Value) [(yI b.a0),(yI b.a1),(yI b.a2),(yI b.a3),(yI b.a4),(yI b.a5),(yI b.a6),(yI b.a7)] (0+((Int.toNat r.A)*1)))=(some (yI f))/\(if (f==0)=true then
 k ⟨0,0,0,0,0,0,0,0,0⟩ ⟨0,0,0⟩ e
 else
 cJ e (Addr.add a 0) [(yI r.iU)] (λd=>aR none fk d a λm=>Q m ⟨0,0,0⟩ d))))
 else
 ((0<=r.B/\r.B<8)/\∃f:Int,((List.get?Internal (α:=Value) [(yI b.a0),(yI b.a1),(yI b.a2),(yI b.a3),(yI b.a4),(yI b.a5),(yI b.a6),(yI b.a7)] (0+((Int.toNat r.B)*1)))=(some (yI f))/\((0<=r.C/\r.C<8)/\∃m:Int,((List.get?Internal (α:=Value) [(yI b.a0),(yI b.a1),(yI b.a2),(yI b.a3),(yI b.a4),(yI b.a5),(yI b.a6),(yI b.a7)] (0+((Int.toNat r.C)*1)))=(some (yI m))/\bu P DA [(yI r.Op),(yI f),(yI m)] yH yH (λi F d=>cQ (α1:=Int) (λp=>(if (F !=0)=true then
 ((0<=r.B/\r.B<8)/\∃t:Int,((List.get?Internal (α:=Value) [(yI b.a0),(yI b.a1),(yI b.a2),(yI b.a3),(yI b.a4),(yI b.a5),(yI b.a6),(yI b.a7)] (0+((Int.toNat r.B)*1)))=(some (yI t))/\((0<=r.C/\r.C<8)/\∃u:Int,((List.get?Internal (α:=Value) [(yI b.a0),(yI b.a1),(yI b.a2),(yI b.a3),(yI b.a4),(yI b.a5),(yI b.a6),(yI b.a7)] (0+((Int.toNat r.C)*1)))=(some (yI u))/\bu P DB [(yI r.Op),(yI t),(yI u)] yH yH (λG I g=>p G g) d))))
 else
 p i d))
 (λv g=>bC P wD [(yP (some a)),(yI r.A),(yI v)] (λz=>k ⟨0,0,0,0,0,0,0,0,0⟩ ⟨0,0,0⟩ z) g)) e)))))))))))
 (λJ K d=>aR none fk d a λf=>aa P xx [f.v] fk (λi g=>Q i ⟨0,0,0⟩ g) d))) j)) w) o) h
def S8 (P:Program) (m:Option Addr) (p:Option Addr) (to:Int) (v:Int) (Q:(Hp->Prop)) (h:Hp):Prop:=
 ai (some (!(decide (to<0)))) m λC=>aR (some (!(decide (to<0)))) au h (Addr.add C 11) λx=>aI ((decide (to<0)) || (decide (to>=(x.len:Int)))) λy=>(if y then
 bC P xq [(yP m),(yP p),(yI 1)] (λa=>Q a) h
 else
 ai none m λE=>dz h E 11 λz=>((bF z.base z.len to)/\aR none ag h (sat z.base 1 to) λe=>ai none m λF=>mj h F 7 λI=>ai none p λG=>fj h G 1 λJ=>ai none e λH=>fj h H 1 λK=>aa P zri [(yP I),(yI J),(yI K)] bn (λr a=>(if (!r)=true then
 ai none m λl=>dz a l 10 λf=>ai none p λn=>fj a n 1 λg=>((bF f.base f.len g)/\aR none ag a (sat f.base 1 g) λq=>ai none m λu=>dz a u 10 λj=>ai none p λw=>fj a w 1 λo=>((bF j.base j.len o)/\aR none ag a (sat j.base 1 o) λA=>ai none A λs=>fj a s 4 λB=>aa P N3 [(yI B)] yH (λd b=>(((bf b (Addr.add l 10) [f.v])/\((bf b (Addr.add n 1) [(yI g)])/\((bf b (sat f.base 1 g) [(yP q)])/\True)))/\ai none q λt=>cJ b (Addr.add t 4) [(yI d)] (λc=>bC P xq [(yP m),(yP p),(yI 0)] (λi=>Q i) c))) a))
 else
 ai none p λl=>fj a l 1 λf=>ai none e λn=>fj a n 1 λg=>(if (f==g)=true then
 bC P Sb [(yP m),(yP p),(yP e),(yI v)] (λb=>Q b) a
 else
 cL (λk=>ai none e λu=>fj a u 3 λq=>aa P NX [(yI q)] bn (λd b=>ai (some (!(!d))) e λw=>aR (some (!(!d))) ag b (Addr.add w 14) λj=>ai (some (!(!d))) p λs=>aR (some (!(!d))) yH b (Addr.add s 1) λo=>cY (some (!(!d))) (aa P NW [(yP j),(yI o),(yI v)] yH) (λr2 c=>aI ((!d) || (r2 !=0)) λL=>(if L then
 ai none e λt=>mj c t 14 λA=>ai none p λD=>fj c D 1 λB=>bC P Jj [(yP A),(yI B)] (λi=>k i) c
 else
 bC P IC [(yP m),(yP e)] (λi=>k i) c)) b) a)
 (λb=>bC P xq [(yP m),(yP p),(yI 0)] (λc=>Q c) b)))) h))
def Ta (P:Program) (m:Option Addr) (p:Option Addr) (w:Bool) (Q:(Hp->Prop)) (h:Hp):Prop:=
 ai none p λo=>mj h o 14 λx=>zZ P Xg [(yP x)] yH yH aH bn yH (λr s r2 t u b=>(if (u==0)=true then
 ai none p λl=>aR none fk b (Addr.add l 4) λn=>ai none p λe=>dz b e 2 λj=>aa P OC [n.v,j.v,(yI r),(yI s)] fk (λa c=>ai none p λg=>cJ c (Addr.add g 4) [(yI a.PC),(yI a.cw),(yI a.cx),(yI a.cC),(yI a.cD),(yI a.cE),(yI a.cF),(yI a.cG),(yI a.cH)] (λd=>(if t then
 ai none m λi=>dz d i 11 λf=>((bF f.base f.len r2.dp)/\aR none ag d (sat f.base 1 r2.dp) λy=>bC P xq [(yP m),(yP y),(yI 0)] (λk=>Q k) d)
 else
 Q d))) b
 else
 ai none p λl=>aR none bn b (Addr.add l 13) λn=>(if n then
 ai none p λe=>cJ b (Addr.add e 13) [(.bool false)] (λc=>ai none p λg=>aR none fk c (Addr.add g 4) λj=>ai none p λi=>dz c i 2 λf=>aa P OC [j.v,f.v,(yI 0),(yI (-2))] fk (λa d=>ai none p λq=>cJ d (Addr.add q 4) [(yI a.PC),(yI a.cw),(yI a.cx),(yI a.cC),(yI a.cD),(yI a.cE),(yI a.cF),(yI a.cG),(yI a.cH)] (λk=>Q k)) c)
 else
 (if w then
 ai none p λe=>aR none fk b (Addr.add e 4) λj=>ai none p λg=>dz b g 2 λf=>aa P OC [j.v,f.v,(yI 0),(yI (-1))] fk (λa c=>ai none p λi=>cJ c (Addr.add i 4) [(yI a.PC),(yI a.cw),(yI a.cx),(yI a.cC),(yI a.cD),(yI a.cE),(yI a.cF),(yI a.cG),(yI a.cH)] (λd=>Q d)) b
 else
 ai none p λe=>cJ b (Addr.add e 3) [(yI 1)] (λc=>Q c))))) h
def WB (P:Program) (l:Option Addr) (n:Int) (p:Int) (Q:(Bool->(Int->(Hp->Prop)))) (h:Hp):Prop:=
 aa P V9 [(yP l),(yI n),(yI p)] yH (λr i=>(if (r !=0)=true then
 Q false r i
 else
 bu P NJ [(yP l),(yI p)] yH bn (λy r2 c=>(if r2 then
 Q false 20 c
 else
 ai none l λq=>dz c q 0 λx=>((bF x.base x.len n)/\cL (λk=>ai none (some (sat x.base 2 n)) λe=>fj c e 0 λf=>(if (f==(-1))=true then
 ai none (some (sat x.base 2 n)) λd=>cJ c (Addr.add d 0) [(yI p)] (λb=>k b)
 else
 k c))
 (λb=>ai none (some (sat x.base 2 n)) λe=>fj b e 0 λf=>(if (f !=p)=true then
 ai none (some (sat x.base 2 n)) λd=>dz b d 1 λg=>bh [(yI p)] (λa m=>fu 1 8 [(yI 0)] g ⟨(some a),1,1⟩ (λu o=>ai none (some (sat x.base 2 n)) λs=>cJ o (Addr.add s 1) [u.v] (λj=>ai none (some (sat x.base 2 n)) λt=>fj j t 0 λw=>Q (w==p) 0 j)) m) b
 else
 ai none (some (sat x.base 2 n)) λd=>fj b d 0 λg=>Q (g==p) 0 b))))) i)) h
def Wf (P:Program) (l:Option Addr) (p:Int) (Q:(Sl->(Hp->Prop))) (h:Hp):Prop:=
 ai none l λi=>dz h i 0 λx=>bT (α1:=Sl) (α2:=Int) (λe out b c=>(if decide (b<(x.len:Int)) then
 cQ (α1:=Sl) (λk=>((bF x.base x.len b)/\aR none ft c (sat x.base 2 b) λj=>aI ((j.owner==p)&&(p !=(-1))) λy=>(if y then
 bh [(yI b)] (λa d=>fu 1 8 [(yI 0)] ⟨out.base,out.len,out.cap⟩ ⟨(some a),1,1⟩ (λr f=>k r f) d) c
 else
 k ⟨out.base,out.len,out.cap⟩ c)))
 (λg d=>e g (yw (b+1)) d)
 else
 Q ⟨out.base,out.len,out.cap⟩ c)) ⟨none,0,0⟩ 0 h
def WD (P:Program) (l:Option Addr) (n:Int) (p:Int) (Q:(Int->(Int->(Hp->Prop)))) (h:Hp):Prop:=
 aa P V9 [(yP l),(yI n),(yI p)] yH (λr a=>(if (r !=(0:Int))=true then
 Q (0:Int) r a
 else
 ai none l λo=>dz a o 0 λx=>((bF x.base x.len n)/\ai none (some (sat x.base 2 n)) λs=>fj a s 0 λA=>(if (A !=p)=true then
 ai none (some (sat x.base 2 n)) λe=>fj a e 0 λi=>Q i (0:Int) a
 else
 ai none (some (sat x.base 2 n)) λe=>dz a e 1 λi=>(if ((i.len:Int)==(0:Int))=true then
 ai none (some (sat x.base 2 n)) λf=>cJ a (Addr.add f 0) [(yI (-1:Int))] (λb=>ai none (some (sat x.base 2 n)) λg=>fj b g 0 λc=>Q c (0:Int) b)
 else
 ai none (some (sat x.base 2 n)) λf=>dz a f 1 λc=>((bF c.base c.len (0:Int))/\aR none yH a (sat c.base 1 (0:Int)) λB=>ai none (some (sat x.base 2 n)) λg=>cJ a (Addr.add g 0) [(yI B)] (λb=>ai none (some (sat x.base 2 n)) λt=>dz b t 1 λm=>ai none (some (sat x.base 2 n)) λu=>dz b u 1 λj=>ai none (some (sat x.base 2 n)) λw=>dz b w 1 λd=>(((0:Int)<=(1:Int)/\((1:Int)<=(j.len:Int)/\((j.len:Int)<=(d.len:Int)/\(d.len:Int)<=(m.cap:Int))))/\aI (α:=Sl) ⟨(be m.base 1 1 (Int.toNat (d.len:Int))),((Int.toNat (j.len:Int))-1),((Int.toNat (d.len:Int))-1)⟩ λy=>ai none (some (sat x.base 2 n)) λz=>cJ b (Addr.add z 1) [y.v] (λk=>ai none (some (sat x.base 2 n)) λq=>fj k q 0 λC=>Q C (0:Int) k))))))))) h
def Td (P:Program) (m:Option Addr) (lG:Int) (Q:(Hp->Prop)) (h:Hp):Prop:=
 (if decide (lG>=0) then
 ai none m λp=>dz h p 11 λx=>((bF x.base x.len lG)/\aR none ag h (sat x.base 1 lG) λc=>ai none m λe=>dz h e 11 λb=>((bF b.base b.len lG)/\aR none ag h (sat b.base 1 lG) λg=>ai none g λf=>aR none fk h (Addr.add f 4) λi=>aa P xx [i.v] fk (λr a=>(((bf a (Addr.add p 11) [x.v])/\((bf a (sat x.base 1 lG) [(yP c)])/\True))/\bC P IF [(yP m),(yP c),r.v] (λd=>Q d) a)) h))
 else
 Q h)
def Yk (P:Program) (n:Int) (Q:(Int->(Hp->Prop))) (h:Hp):Prop:=
 Q (ju (yw (n+1)) 65535) h
def XK (P:Program) (state:Int) (Q:(Bool->(Hp->Prop))) (h:Hp):Prop:=
 aI ((state !=5)&&(state !=6)) λy=>Q y h
def W1 (P:Program) (p:Option Addr) (n:Int) (Q:(Bool->(Hp->Prop))) (h:Hp):Prop:=
 ai (some (decide (n>=0))) p λa=>aR (some (decide (n>=0))) au h (Addr.add a 0) λx=>aI ((decide (n>=0))&&(decide (n<(x.len:Int)))) λy=>Q y h
def XM (P:Program) (l:Option Addr) (v:Int) (Q:(Int->(Hp->Prop))) (h:Hp):Prop:=
 aa P Xh [(yP l)] bn (λr b=>(if r then
 Q 19 b
 else
 ai none l λp=>dz b p 1 λx=>bh [(yI v)] (λa c=>fu 1 8 [(yI 0)] x ⟨(some a),1,1⟩ (λg d=>ai none l λf=>cJ d (Addr.add f 1) [g.v] (λe=>Q 0 e)) c) b)) h
def Xl (P:Program) (l:Option Addr) (Q:(Hp->Prop)) (h:Hp):Prop:=
 ai none l λp=>fj h p 4 λx=>aa P BM [(yI x)] yH (λr a=>ai none l λc=>cJ a (Addr.add c 4) [(yI r)] (λb=>Q b)) h
def W4 (P:Program) (p:Option Addr) (proc:Int) (Q:(Bool->(Hp->Prop))) (h:Hp):Prop:=
 ai none p λc=>dz h c 0 λx=>bT (α1:=Bool) (α2:=Int) (λagain left t13 h1=>(if decide (t13<(x.len:Int)) then
 cQ (α1:=Bool) (λk=>((bF x.base x.len t13)/\aR none ag h1 (sat x.base 1 t13) λd=>aa P zun [(yP d),(yI proc)] bn (λr a=>(if r then
 k true a
 else
 k left a)) h1))
 (λb a=>again b (yw (t13+1)) a)
 else
 Q left h1)) false 0 h
def W5 (P:Program) (l:Option Addr) (p:Int) (Q:(Sl->(Hp->Prop))) (h:Hp):Prop:=
 ai none l λw=>dz h w 0 λx=>aA (α1:=Int) (λq c f=>(if decide (c<(x.len:Int)) then
 cL (λk=>ai none l λy=>dz f y 0 λe=>((bF e.base e.len c)/\aR none au f (Addr.add (sat e.base 2 c) 1) λB=>aa P Tw [B.v,(yI p)] yH (λr b=>(if decide (r>=0) then
 ai none l λo=>dz b o 0 λi=>ai none l λz=>dz b z 0 λn=>((bF n.base n.len c)/\aR none au b (Addr.add (sat n.base 2 c) 1) λC=>aa P znf [C.v,(yI r),(yI (yw (r+1)))] au (λm d=>(((bf d (Addr.add o 0) [i.v])/\True)/\((bF i.base i.len c)/\cJ d (Addr.add (sat i.base 2 c) 1) [m.v] (λj=>k j)))) b)
 else
 k b)) f))
 (λb=>q (yw (c+1)) b)
 else
 aa P NK [(yP l),(yI p)] au (λr b=>bT (α1:=Sl) (α2:=Int) (λs out g d=>(if decide (g<(r.len:Int)) then
 ((bF r.base r.len g)/\aR none yH d (sat r.base 1 g) λe=>bu P IZ [(yP l),(yI e),(yI p)] yH yH (λm r2 j=>bh [(yI e),(yI m)] (λa t=>fu 2 16 [(yI 0),(yI 0)] ⟨out.base,out.len,out.cap⟩ ⟨(some a),1,1⟩ (λA u=>s A (yw (g+1)) u) t) j) d)
 else
 Q ⟨out.base,out.len,out.cap⟩ d)) ⟨none,0,0⟩ 0 b) f)) 0 h
def XO (P:Program) (p:Option Addr) (Q:(Sl->(Hp->Prop))) (h:Hp):Prop:=
 ai none p λf=>dz h f 0 λx=>bT (α1:=Sl) (α2:=Int) (λc out a b=>(if decide (a<(x.len:Int)) then
 ((bF x.base x.len a)/\aR none ag b (sat x.base 1 a) λi=>aa P zxz [(yP i)] au (λr d=>fu 2 16 [(yI 0),(yI 0)] ⟨out.base,out.len,out.cap⟩ r (λg e=>c g (yw (a+1)) e) d) b)
 else
 Q ⟨out.base,out.len,out.cap⟩ b)) ⟨none,0,0⟩ 0 h
def RQ (P:Program) (m:Option Addr) (p:Option Addr) (e:Int) (Q:(Hp->Prop)) (h:Hp):Prop:=
 ai none p λc=>aR none fk h (Addr.add c 4) λx=>ai none p λd=>dz h d 2 λf=>aa P Ke [x.v,f.v,(yI e)] fk (λr a=>bC P IF [(yP m),(yP p),r.v] (λb=>Q b) a) h
def TU (P:Program) (s:Sl) (v:Int) (Q:(Int->(Hp->Prop))) (h:Hp):Prop:=
 aA (α1:=Int) (λc a b=>(if decide (a<(s.len:Int)) then
 ((bF s.base s.len a)/\aR none yH b (sat s.base 1 a) λx=>(if (v==x)=true then
 Q a b
 else
 c (yw (a+1)) b))
 else
 Q (-1) b)) 0 h
def Tf (P:Program) (op:Int) (Q:(Bool->(Bool->(Bool->(Bool->(Hp->Prop)))))) (h:Hp):Prop:=
 (if (op==1)=true then
 Q true false false true h
 else
 cQ (α1:=Bool) (λk=>(if (op==2)=true then
 k (op==2) h
 else
 (if (op==20)=true then
 k (op==20) h
 else
 (if (op==21)=true then
 k (op==21) h
 else
 (if (op==25)=true then
 k (op==25) h
 else
 k (op==26) h)))))
 (λl a=>(if l then
 Q true true false false a
 else
 cQ (α1:=Bool) (λk=>(if (op==3)=true then
 k (op==3) a
 else
 (if (op==4)=true then
 k (op==4) a
 else
 (if (op==5)=true then
 k (op==5) a
 else
 (if (op==6)=true then
 k (op==6) a
 else
 (if (op==7)=true then
 k (op==7) a
 else
 (if (op==8)=true then
 k (op==8) a
 else
 (if (op==9)=true then
 k (op==9) a
 else
 (if (op==10)=true then
 k (op==10) a
 else
 (if (op==11)=true then
 k (op==11) a
 else
 (if (op==12)=true then
 k (op==12) a
 else
 (if (op==13)=true then
 k (op==13) a
 else
 k (op==14) a))))))))))))
 (λf b=>(if f then
 Q true true true false b
 else
 cQ (α1:=Bool) (λk=>(if (op==15)=true then
 k (op==15) b
 else
 (if (op==16)=true then
 k (op==16) b
 else
 (if (op==17)=true then
 k (op==17) b
 else
 (if (op==18)=true then
 k (op==18) b
 else
 (if (op==19)=true then
 k (op==19) b
 else
 k (op==24) b))))))
 (λg d=>(if g then
 Q true true true false d
 else
 cQ (α1:=Bool) (λk=>(if (op==22)=true then
 k (op==22) d
 else
 (if (op==29)=true then
 k (op==29) d
 else
 k (op==30) d)))
 (λi c=>(if i then
 Q false false false true c
 else
 (if (op==23)=true then
 Q true false false true c
 else
 cQ (α1:=Bool) (λk=>(if (op==27)=true then
 k (op==27) c
 else
 (if (op==28)=true then
 k (op==28) c
 else
 (if (op==31)=true then
 k (op==31) c
 else
 (if (op==32)=true then
 k (op==32) c
 else
 k (op==33) c)))))
 (λj e=>(if j then
 Q true false false false e
 else
 Q false false false false e))))))))))))
def RU (P:Program) (n:Int) (has:Bool) (Q:(Int->(Hp->Prop))) (h:Hp):Prop:=
 aI ((!has)&&(n !=0)) λy=>(if y then
 Q 11 h
 else
 aI ((decide (n<0)) || (decide (n>=8))) λa=>aI (has&&a) λb=>(if b then
 Q 10 h
 else
 Q 0 h))
def Zo (P:Program) (x:aK) (n:Int) (ae:Int) (Q:(Int->(Int->(Hp->Prop)))) (h:Hp):Prop:=
 aI ((decide (x.Op<0)) || (decide (x.Op>=34))) λy=>(if y then
 Q 9 0 h
 else
 nV P N6 [(yI x.Op)] bn bn bn bn (λr j r2 k g=>aa P NY [(.bool r),(yI x.A)] yH (λd a=>(if (d !=0)=true then
 Q d 1 a
 else
 aa P NY [(.bool j),(yI x.B)] yH (λe b=>(if (e !=0)=true then
 Q e 2 b
 else
 aa P NY [(.bool r2),(yI x.C)] yH (λf c=>(if (f !=0)=true then
 Q f 3 c
 else
 aa P IA [x.v,(.bool k),(yI n),(yI ae)] yH (λl i=>Q l 4 i) c)) b)) a)) g) h)
def YP (P:Program) (op:Int) (Q:(Bool->(Bool->(Bool->(Bool->(Hp->Prop)))))) (h:Hp):Prop:=
 aa P IB [(yI op)] qz (λr b=>bh [(.string ⟨#[]⟩)] (λa c=>cJ c a [(.string r)] (λd=>gK P tb (.func (.func 195) #[] #[(yP (some a))]) [(.string ⟨#[97]⟩)] bn (λj e=>gK P tb (.func (.func 195) #[] #[(yP (some a))]) [(.string ⟨#[98]⟩)] bn (λr2 f=>gK P tb (.func (.func 195) #[] #[(yP (some a))]) [(.string ⟨#[99]⟩)] bn (λk g=>gK P tb (.func (.func 195) #[] #[(yP (some a))]) [(.string ⟨#[105]⟩)] bn (λl i=>Q j r2 k l i) g) f) e) d)) b) h
def Cz (P:Program) (room:Int) (Q:(Option Addr->(Int->(Hp->Prop)))) (h:Hp):Prop:=
 aa P N7 [(yI room),(yI 1),(yI 64)] bn (λr b=>(if (!r)=true then
 Q none 1 b
 else
 bh [(yI room),yN,yN,(yI 0),(yI 0)] (λa c=>Q (some a) 0 c) b)) h
def N8 (P:Program) (n:Int) (from_:Int) (to:Int) (Q:(Bool->(Hp->Prop))) (h:Hp):Prop:=
 aI ((decide (n>=from_))&&(decide (n<=to))) λy=>Q y h
def Zq (P:Program) (l:Sl) (Q:(Bool->(Hp->Prop))) (h:Hp):Prop:=
 E5  (λr e=>aA (α1:=Int) (λd b a=>(if decide (b<(l.len:Int)) then
 ((bF l.base l.len b)/\aR none aH a (sat l.base 2 b) λx=>nm none (.int .i64) yH (yI 0) r (yI x.dp) a λf ok=>xD (.int .i64) r (yI x.dp) (yI (yw (f+1))) (λc=>nm none (.int .i64) yH (yI 0) r (yI x.dp) c λg i=>(if decide (g>1) then
 Q true c
 else
 d (yw (b+1)) c)) a)
 else
 Q false a)) 0 e) h
def zdg (P:Program) (s:Sl) (i:Int) (j:Int) (Q:(Sl->(Hp->Prop))) (h:Hp):Prop:=
 ((0<=i/\(i<=j/\(j<=(s.len:Int)/\(s.len:Int)<=(s.cap:Int))))/\aI (α:=Sl) ⟨(be s.base 2 (Int.toNat i) (Int.toNat (s.len:Int))),((Int.toNat j)-(Int.toNat i)),((Int.toNat (s.len:Int))-(Int.toNat i))⟩ λy=>(if (i==j)=true then
 Q s h
 else
 ((0<=i/\i<=(s.cap:Int))/\aI (α:=Sl) ⟨(be s.base 2 0 s.cap),((Int.toNat i)-0),(s.cap-0)⟩ λc=>((0<=j/\j<=(s.len:Int))/\aI (α:=Sl) ⟨(be s.base 2 (Int.toNat j) s.cap),(s.len-(Int.toNat j)),(s.cap-(Int.toNat j))⟩ λd=>fu 2 16 [(yI 0),(yI 0)] c d (λr a=>((0<=(r.len:Int)/\((r.len:Int)<=(s.len:Int)/\(s.len:Int)<=(r.cap:Int)))/\aI (α:=Sl) ⟨(be r.base 2 (Int.toNat (r.len:Int)) r.cap),((Int.toNat (s.len:Int))-(Int.toNat (r.len:Int))),(r.cap-(Int.toNat (r.len:Int)))⟩ λe=>nq P (Builtin.clear_ #[207] 0 #[e.v]) uA (λb=>Q r b) a)) h))))
def Zs (P:Program) (eK:Sl) (Q:(Int->(Hp->Prop))) (h:Hp):Prop:=
 aA (α1:=Int) (λc b a=>(if decide (b<(eK.len:Int)) then
 ((bF eK.base eK.len b)/\aR none yH a (sat eK.base 1 b) λx=>(if (x !=0)=true then
 Q x a
 else
 c (yw (b+1)) a))
 else
 Q 0 a)) 0 h
def Wg (P:Program) (x:Int) (y:Int) (Q:(Int->(Hp->Prop))) (h:Hp):Prop:=
 aa P WR [(yI x)] bn (λr c=>aa P WR [(yI y)] bn (λb a=>(if r then
 (if b then
 Q 0 a
 else
 Q (-1) a)
 else
 (if b then
 Q 1 a
 else
 (if decide (x<y) then
 Q (-1) a
 else
 (if decide (x>y) then
 Q 1 a
 else
 Q 0 a))))) c) h
def W7 (P:Program) (x:Int) (y:Int) (Q:(Int->(Hp->Prop))) (h:Hp):Prop:=
 aa P XG [(yI x)] bn (λr c=>aa P XG [(yI y)] bn (λb a=>(if r then
 (if b then
 Q 0 a
 else
 Q (-1) a)
 else
 (if b then
 Q 1 a
 else
 (if decide (x<y) then
 Q (-1) a
 else
 (if decide (x>y) then
 Q 1 a
 else
 Q 0 a))))) c) h
def DC (P:Program) (c:bc) (l:Sl) (Q:(aK->(Bool->(Hp->Prop)))) (h:Hp):Prop:=
 aI ((decide (c.PC<0)) || (decide (c.PC>=(l.len:Int)))) λy=>(if y then
 Q ⟨0,0,0,0,0⟩ false h
 else
 ((bF l.base l.len c.PC)/\aR none aV h (sat l.base 5 c.PC) λx=>Q x true h))
def BS (P:Program) (x:aK) (r:gQ) (Q:(eD->(Bool->(Bool->(Hp->Prop))))) (h:Hp):Prop:=
 (if (x.Op==0)=true then
 Q ⟨1,0,0⟩ true true h
 else
 (if (x.Op==24)=true then
 ((0<=x.B/\x.B<8)/\∃a:Int,((List.get?Internal (α:=Value) [(yI r.a0),(yI r.a1),(yI r.a2),(yI r.a3),(yI r.a4),(yI r.a5),(yI r.a6),(yI r.a7)] (0+((Int.toNat x.B)*1)))=(some (yI a))/\((0<=x.C/\x.C<8)/\∃b:Int,((List.get?Internal (α:=Value) [(yI r.a0),(yI r.a1),(yI r.a2),(yI r.a3),(yI r.a4),(yI r.a5),(yI r.a6),(yI r.a7)] (0+((Int.toNat x.C)*1)))=(some (yI b))/\Q ⟨2,a,b⟩ true true h))))
 else
 (if (x.Op==25)=true then
 Q ⟨3,0,0⟩ true true h
 else
 (if (x.Op==26)=true then
 Q ⟨4,0,0⟩ true true h
 else
 (if (x.Op==27)=true then
 ((0<=x.A/\x.A<8)/\∃a:Int,((List.get?Internal (α:=Value) [(yI r.a0),(yI r.a1),(yI r.a2),(yI r.a3),(yI r.a4),(yI r.a5),(yI r.a6),(yI r.a7)] (0+((Int.toNat x.A)*1)))=(some (yI a))/\Q ⟨5,0,a⟩ false true h))
 else
 (if (x.Op==28)=true then
 ((0<=x.A/\x.A<8)/\∃a:Int,((List.get?Internal (α:=Value) [(yI r.a0),(yI r.a1),(yI r.a2),(yI r.a3),(yI r.a4),(yI r.a5),(yI r.a6),(yI r.a7)] (0+((Int.toNat x.A)*1)))=(some (yI a))/\Q ⟨6,0,a⟩ true true h))
 else
 (if (x.Op==29)=true then
 Q ⟨7,x.iU,0⟩ true true h
 else
 (if (x.Op==30)=true then
 Q ⟨8,x.iU,0⟩ false true h
 else
 (if (x.Op==31)=true then
 ((0<=x.A/\x.A<8)/\∃a:Int,((List.get?Internal (α:=Value) [(yI r.a0),(yI r.a1),(yI r.a2),(yI r.a3),(yI r.a4),(yI r.a5),(yI r.a6),(yI r.a7)] (0+((Int.toNat x.A)*1)))=(some (yI a))/\Q ⟨9,0,a⟩ false true h))
 else
 Q ⟨0,0,0⟩ false false h)))))))))
def Ym (P:Program) (c:Option Addr) (a:Int) (v:Int) (Q:(Hp->Prop)) (h:Hp):Prop:=
 aI ((decide (a>=0))&&(decide (a<8))) λy=>(if y then
 ai none c λp=>((0<=a/\a<8)/\cJ h (Addr.add (Addr.add p 1) ((Int.toNat a)*1)) [(yI v)] (λb=>Q b))
 else
 Q h)
def DD (P:Program) (op:Int) (b:Int) (c:Int) (Q:(Int->(Int->(Hp->Prop)))) (h:Hp):Prop:=
 (if (op==3)=true then
 Q (yw (b+c)) 0 h
 else
 (if (op==4)=true then
 Q (yw (b-c)) 0 h
 else
 (if (op==5)=true then
 Q (yw (b*c)) 0 h
 else
 (if (op==6)=true then
 aa P Yh [(yI b),(yI c)] yH (λr a=>Q r 0 a) h
 else
 (if (op==7)=true then
 aa P Yh [(yI b),(yI c)] yH (λr a=>Q (yw (b-(yw (r*c)))) 0 a) h
 else
 (if (op==8)=true then
 Q (dM .and .i64 b c) 0 h
 else
 (if (op==9)=true then
 Q (dM .or .i64 b c) 0 h
 else
 (if (op==10)=true then
 Q (dM .xor .i64 b c) 0 h
 else
 (if (op==11)=true then
 aa P Kg [(yI b),(yI c)] yH (λr a=>Q r 0 a) h
 else
 (if (op==12)=true then
 aa P JH [(yI b),(yI c)] yH (λr a=>Q r 0 a) h
 else
 (if (op==13)=true then
 aa P C7 [(.bool (decide (b<c)))] yH (λr a=>Q r 0 a) h
 else
 (if (op==14)=true then
 aa P C7 [(.bool (b==c))] yH (λr a=>Q r 0 a) h
 else
 Q 0 9 h))))))))))))
def DE (P:Program) (op:Int) (b:Int) (c:Int) (Q:(Int->(Int->(Hp->Prop)))) (h:Hp):Prop:=
 aa P BN [(yI b)] (jP .f64) (λr i=>aa P BN [(yI c)] (jP .f64) (λg a=>(if (op==15)=true then
 kE P (cS .add 322 (.tmp 17) (.tmp 18) (.float .f64 r) (.float .f64 g)) (jP .f64) (λr2 d=>aa P EY [(.float .f64 r2)] yH (λf e=>Q f 0 e) d) a
 else
 (if (op==16)=true then
 kE P (cS .sub 322 (.tmp 23) (.tmp 24) (.float .f64 r) (.float .f64 g)) (jP .f64) (λr2 d=>aa P EY [(.float .f64 r2)] yH (λf e=>Q f 0 e) d) a
 else
 (if (op==17)=true then
 kE P (cS .mul 322 (.tmp 29) (.tmp 30) (.float .f64 r) (.float .f64 g)) (jP .f64) (λr2 d=>aa P EY [(.float .f64 r2)] yH (λf e=>Q f 0 e) d) a
 else
 (if (op==18)=true then
 kE P (cS .quo 322 (.tmp 35) (.tmp 36) (.float .f64 r) (.float .f64 g)) (jP .f64) (λr2 d=>aa P EY [(.float .f64 r2)] yH (λf e=>Q f 0 e) d) a
 else
 (if (op==19)=true then
 iu none P (cS .lss 322 (.tmp 41) (.tmp 42) (.float .f64 r) (.float .f64 g)) bn a λx=>(if x then
 Q 1 0 a
 else
 Q 0 0 a)
 else
 (if (op==20)=true then
 iu none P (convert 2 322 (yI b)) (jP .f64) a λx=>aa P EY [(.float .f64 x)] yH (λr2 d=>Q r2 0 d) a
 else
 (if (op==21)=true then
 aa P JI [(.float .f64 r)] yH (λr2 d=>Q r2 0 d) a
 else
 Q 0 9 a)))))))) i) h
def Wi (P:Program) (t:Option Addr) (i:Int) (j:Int) (Q:(Bool->(Hp->Prop))) (h:Hp):Prop:=
 aa P Xi [(yP t),(yI i)] bn (λr c=>cY (some r) (aa P Xi [(yP t),(yI j)] bn) (λf a=>aI (r&&f) λy=>ai (some y) t λp=>aR (some y) au a (Addr.add p 0) λx=>((y=true->(bF x.base x.len i))/\aR (some y) (af .u64) a (sat x.base 1 i) λg=>ai (some y) t λe=>aR (some y) au a (Addr.add e 0) λb=>((y=true->(bF b.base b.len j))/\aR (some y) (af .u64) a (sat b.base 1 j) λk=>cY (some y) (aa P ID [(.int .u64 g),(.int .u64 k)] bn) (λr2 d=>aI (y&&r2) λl=>Q l d) a))) c) h
def Sd (P:Program) (m:Option Addr) (p:Option Addr) (q:Option Addr) (v:Int) (Q:(Hp->Prop)) (h:Hp):Prop:=
 ai none q λe=>fj h e 3 λx=>aa P NX [(yI x)] bn (λr b=>(if (!r)=true then
 bC P xq [(yP m),(yP p),(yI 2)] (λa=>Q a) b
 else
 ai none q λf=>mj b f 14 λo=>ai none p λg=>fj b g 1 λs=>aa P NW [(yP o),(yI s),(yI v)] yH (λn a=>(if (n !=0)=true then
 ai none q λi=>mj a i 14 λt=>ai none p λj=>fj a j 1 λu=>ai none p λk=>fj a k 0 λw=>aa P zwy [(yP t),(yI u),(yI w),(yI v)] yH (λr2 c=>ai none p λl=>cJ c (Addr.add l 3) [(yI 2)] (λd=>Q d)) a
 else
 bC P IC [(yP m),(yP q)] (λc=>bC P xq [(yP m),(yP p),(yI 0)] (λd=>Q d) c) a)) b)) h
def CA (P:Program) (c:bc) (code:Sl) (v:Int) (from_:Int) (Q:(bc->(Hp->Prop))) (h:Hp):Prop:=
 bh [(yI c.PC),(yI c.cw),(yI c.cx),(yI c.cC),(yI c.cD),(yI c.cE),(yI c.cF),(yI c.cG),(yI c.cH)] (λa e=>cL (λk=>aR none fk e a λx=>bu P wH [x.v,code.v] aV bn (λr g b=>(if g then
 bC P wD [(yP (some a)),(yI r.A),(yI v)] (λd=>bC P wD [(yP (some a)),(yI r.B),(yI from_)] (λf=>k f) d) b
 else
 k b)) e)
 (λb=>aR none fk b a λx=>aa P xx [x.v] fk (λr d=>Q r d) b)) h
def Wj (P:Program) (l:Option Addr) (n:Int) (p:Int) (Q:(Int->(Hp->Prop))) (h:Hp):Prop:=
 ai (some (!(decide (n<0)))) l λa=>aR (some (!(decide (n<0)))) au h (Addr.add a 0) λx=>aI ((decide (n<0)) || (decide (n>=(x.len:Int)))) λy=>(if y then
 Q 2 h
 else
 (if decide (p<0) then
 Q 1 h
 else
 Q 0 h))
def Xn (P:Program) (l:Option Addr) (Q:(Bool->(Hp->Prop))) (h:Hp):Prop:=
 ai none l λp=>dz h p 1 λx=>ai none l λa=>fj h a 0 λb=>Q (decide ((x.len:Int)>=b)) h
def BT (P:Program) (n:Int) (Q:(Int->(Hp->Prop))) (h:Hp):Prop:=
 Q (ju (yw (n+1)) 65535) h
def W8 (P:Program) (l:Option Addr) (p:Int) (Q:(Bool->(Hp->Prop))) (h:Hp):Prop:=
 aa P WS [(yP l),(yI p)] yH (λr a=>(if decide (r<0) then
 Q false a
 else
 ai none l λd=>dz a d 2 λx=>aa P zdn [x.v,(yI r),(yI (yw (r+1)))] au (λf b=>ai none l λe=>cJ b (Addr.add e 2) [f.v] (λc=>Q true c)) a)) h
def Th (P:Program) (s:Sl) (i:Int) (j:Int) (Q:(Sl->(Hp->Prop))) (h:Hp):Prop:=
 ((0<=i/\(i<=j/\(j<=(s.len:Int)/\(s.len:Int)<=(s.cap:Int))))/\aI (α:=Sl) ⟨(be s.base 1 (Int.toNat i) (Int.toNat (s.len:Int))),((Int.toNat j)-(Int.toNat i)),((Int.toNat (s.len:Int))-(Int.toNat i))⟩ λy=>(if (i==j)=true then
 Q s h
 else
 ((0<=i/\i<=(s.cap:Int))/\aI (α:=Sl) ⟨(be s.base 1 0 s.cap),((Int.toNat i)-0),(s.cap-0)⟩ λc=>((0<=j/\j<=(s.len:Int))/\aI (α:=Sl) ⟨(be s.base 1 (Int.toNat j) s.cap),(s.len-(Int.toNat j)),(s.cap-(Int.toNat j))⟩ λd=>fu 1 8 [(yI 0)] c d (λr a=>((0<=(r.len:Int)/\((r.len:Int)<=(s.len:Int)/\(s.len:Int)<=(r.cap:Int)))/\aI (α:=Sl) ⟨(be r.base 1 (Int.toNat (r.len:Int)) r.cap),((Int.toNat (s.len:Int))-(Int.toNat (r.len:Int))),(r.cap-(Int.toNat (r.len:Int)))⟩ λe=>nq P (Builtin.clear_ #[23] 0 #[e.v]) uA (λb=>Q r b) a)) h))))
def XQ (P:Program) (l:Option Addr) (Q:(Sl->(Hp->Prop))) (h:Hp):Prop:=
 ai none l λp=>dz h p 2 λx=>ai none l λd=>dz h d 2 λb=>ai none l λe=>dz h e 2 λa=>((0<=(b.len:Int)/\((b.len:Int)<=(a.len:Int)/\(a.len:Int)<=(x.cap:Int)))/\aI (α:=Sl) ⟨(be x.base 2 0 (Int.toNat (a.len:Int))),((Int.toNat (b.len:Int))-0),((Int.toNat (a.len:Int))-0)⟩ λy=>ai none l λf=>cJ h (Addr.add f 2) [yN] (λc=>Q y c))
def CC (P:Program) (c:bc) (code:Sl) (g:Int) (Q:(bc->(Hp->Prop))) (h:Hp):Prop:=
 bh [(yI c.PC),(yI c.cw),(yI c.cx),(yI c.cC),(yI c.cD),(yI c.cE),(yI c.cF),(yI c.cG),(yI c.cH)] (λa e=>cL (λk=>aR none fk e a λx=>bu P wH [x.v,code.v] aV bn (λr f b=>(if f then
 bC P wD [(yP (some a)),(yI r.A),(yI g)] (λd=>k d) b
 else
 k b)) e)
 (λb=>aR none fk b a λx=>aa P xx [x.v] fk (λr d=>Q r d) b)) h
def XR (P:Program) (has:Bool) (n:Int) (Q:(Int->(Hp->Prop))) (h:Hp):Prop:=
 aI ((!has)&&(n !=0)) λy=>(if y then
 Q 11 h
 else
 aI ((decide (n<0)) || (decide (n>=8))) λa=>(if a then
 Q 10 h
 else
 Q 0 h))
def YQ (P:Program) (x:aK) (has:Bool) (n:Int) (ae:Int) (Q:(Int->(Hp->Prop))) (h:Hp):Prop:=
 aI ((!has)&&(x.iU !=0)) λy=>(if y then
 Q 11 h
 else
 aI ((x.Op==22) || (x.Op==23)) λb=>(if b then
 aI ((decide (x.iU<0)) || (decide (x.iU>n))) λa=>(if a then
 Q 12 h
 else
 Q 0 h)
 else
 aI ((x.Op==29) || (x.Op==30)) λa=>(if a then
 aI ((decide (x.iU<0)) || (decide (x.iU>=ae))) λc=>(if c then
 Q 13 h
 else
 Q 0 h)
 else
 Q 0 h)))
def YR (P:Program) (op:Int) (Q:(ByteArray->(Hp->Prop))) (h:Hp):Prop:=
 aI ((decide (op<0)) || (decide (op>=34))) λy=>(if y then
 Q ⟨#[]⟩ h
 else
 ((0<=op/\op<34)/\∃x:ByteArray,((List.get?Internal (α:=Value) [(.string ⟨#[]⟩),(.string ⟨#[97,105]⟩),(.string ⟨#[97,98]⟩),(.string ⟨#[97,98,99]⟩),(.string ⟨#[97,98,99]⟩),(.string ⟨#[97,98,99]⟩),(.string ⟨#[97,98,99]⟩),(.string ⟨#[97,98,99]⟩),(.string ⟨#[97,98,99]⟩),(.string ⟨#[97,98,99]⟩),(.string ⟨#[97,98,99]⟩),(.string ⟨#[97,98,99]⟩),(.string ⟨#[97,98,99]⟩),(.string ⟨#[97,98,99]⟩),(.string ⟨#[97,98,99]⟩),(.string ⟨#[97,98,99]⟩),(.string ⟨#[97,98,99]⟩),(.string ⟨#[97,98,99]⟩),(.string ⟨#[97,98,99]⟩),(.string ⟨#[97,98,99]⟩),(.string ⟨#[97,98]⟩),(.string ⟨#[97,98]⟩),(.string ⟨#[105]⟩),(.string ⟨#[97,105]⟩),(.string ⟨#[97,98,99]⟩),(.string ⟨#[97,98]⟩),(.string ⟨#[97,98]⟩),(.string ⟨#[97]⟩),(.string ⟨#[97]⟩),(.string ⟨#[105]⟩),(.string ⟨#[105]⟩),(.string ⟨#[97]⟩),(.string ⟨#[97]⟩),(.string ⟨#[97]⟩)] ((Int.toNat op)*1))=(some (.string x))/\Q x h)))
def zyg (P:Program) (field:ByteArray) (a1:Addr) (Q:(Bool->(Hp->Prop))) (h:Hp):Prop:=
 aR none qz h a1 λx=>aa P zsz [(.string x),(.string field)] bn (λr a=>Q r a) h
def W9 (P:Program) (x:Int) (Q:(Bool->(Hp->Prop))) (h:Hp):Prop:=
 Q (x !=x) h
def XT (P:Program) (x:Int) (Q:(Bool->(Hp->Prop))) (h:Hp):Prop:=
 Q (x !=x) h
def Yo (P:Program) (b:Int) (c:Int) (Q:(Int->(Hp->Prop))) (h:Hp):Prop:=
 (if (c==0)=true then
 Q 0 h
 else
 (if (c==(-1))=true then
 Q (yw (0-b)) h
 else
 (c≠0/\Q (yw (Int.tdiv b c)) h)))
def Kh (P:Program) (b:Int) (c:Int) (Q:(Int->(Hp->Prop))) (h:Hp):Prop:=
 (if decide (c<0) then
 Q b h
 else
 (0<=(IntKind.wrap .u64 c)/\Q (qV .i64 b (IntKind.wrap .u64 c)) h))
def JJ (P:Program) (b:Int) (c:Int) (Q:(Int->(Hp->Prop))) (h:Hp):Prop:=
 (if decide (c<0) then
 Q b h
 else
 (0<=(IntKind.wrap .u64 c)/\Q (gy .i64 b (IntKind.wrap .u64 c)) h))
def C8 (P:Program) (a:Bool) (Q:(Int->(Hp->Prop))) (h:Hp):Prop:=
 (if a then
 Q 1 h
 else
 Q 0 h)
def BU (P:Program) (bits:Int) (Q:(Nat->(Hp->Prop))) (h:Hp):Prop:=
 kE P (Extern.MathFloatBits.float64frombits #[(.int .u64 (IntKind.wrap .u64 bits))]) (jP .f64) (λr a=>Q r a) h
def CD (P:Program) (f:Nat) (Q:(Int->(Hp->Prop))) (h:Hp):Prop:=
 iu none P (cS .neq 322 (.tmp 3) (.tmp 4) (.float .f64 f) (.float .f64 f)) bn h λx=>(if x then
 Q 9221120237041090560 h
 else
 kE P (Extern.MathFloatBits.float64bits #[(.float .f64 f)]) (af .u64) (λr a=>Q (yw r) a) h)
def BV (P:Program) (f:Nat) (Q:(Int->(Hp->Prop))) (h:Hp):Prop:=
 iu none P (cS .neq 322 (.tmp 4) (.tmp 5) (.float .f64 f) (.float .f64 f)) bn h λx=>(if x then
 Q 0 h
 else
 iu none P (cS .geq 322 (.tmp 8) (.const (.float .f64 4890909195324358656)) (.float .f64 f) (.float .f64 4890909195324358656)) bn h λa=>(if a then
 Q 9223372036854775807 h
 else
 iu none P (cS .lss 322 (.tmp 11) (.const (.float .f64 14114281232179134464)) (.float .f64 f) (.float .f64 14114281232179134464)) bn h λb=>(if b then
 Q (-9223372036854775808) h
 else
 iu none P (convert 322 2 (.float .f64 f)) yH h λc=>Q c h)))
def Xo (P:Program) (t:Option Addr) (i:Int) (Q:(Bool->(Hp->Prop))) (h:Hp):Prop:=
 ai (some (decide (i>=0))) t λp=>aR (some (decide (i>=0))) au h (Addr.add p 0) λx=>aI ((decide (i>=0))&&(decide (i<(x.len:Int)))) λy=>Q y h
def YS (P:Program) (a:Int) (b:Int) (Q:(Bool->(Hp->Prop))) (h:Hp):Prop:=
 Q ((dM .andNot .u64 a b)==0) h
def Xp (P:Program) (p:Option Addr) (lane:Int) (proc:Int) (v:Int) (Q:(Int->(Hp->Prop))) (h:Hp):Prop:=
 aa P NQ [(yP p),(yI lane)] bn (λr b=>(if (!r)=true then
 Q 2 b
 else
 aa P zup [(yP p),(yI proc)] yH (λe a=>(if decide (e>=0) then
 Q 8 a
 else
 ai none p λd=>dz a d 0 λx=>((bF x.base x.len lane)/\aR none ag a (sat x.base 1 lane) λf=>aa P zwz [(yP f),(yI proc),(yI v)] yH (λr2 c=>Q r2 c) a))) b)) h
def zuq (P:Program) (p:Option Addr) (Q:(xm->(Hp->Prop))) (h:Hp):Prop:=
 ai none p λf=>fj h f 1 λx=>ai none p λc=>dz h c 0 λd=>bh [(yI 0)] (λa b=>(((bf b (Addr.add f 1) [(yI x)])/\((bf b (Addr.add c 0) [d.v])/\True))/\cJ b a [(yI x)] (λe=>(((bf e (Addr.add c 0) [d.v])/\True)/\bh [(yI (d.len:Int))] (λa1 g=>Q ⟨221, #[], #[(yP (some a1)),(yP (some a))]⟩ g) e)))) h
def XU (P:Program) (l:Option Addr) (Q:(Int->(Hp->Prop))) (h:Hp):Prop:=
 ai none l λp=>dz h p 1 λx=>Q (x.len:Int) h
def Xq (P:Program) (l:Option Addr) (Q:(Int->(bJ->(Bool->(Int->(Hp->Prop)))))) (h:Hp):Prop:=
 ai none l λp=>dz h p 1 λx=>(if ((x.len:Int)==(0:Int))=true then
 Q (0:Int) ⟨(0:Int),(0:Int)⟩ false (21:Int) h
 else
 ai none l λB=>dz h B 1 λf=>((bF f.base f.len (0:Int))/\aR none yH h (sat f.base 1 (0:Int)) λt=>ai none l λH=>dz h H 1 λS=>ai none l λI=>dz h I 1 λc=>(((0:Int)<=(1:Int)/\(1:Int)<=(c.len:Int))/\aI (α:=Sl) ⟨(be c.base 1 1 c.cap),(c.len-1),(c.cap-1)⟩ λy=>fY 1 S y (λr j=>ai none l λJ=>dz j J 1 λe=>(((0:Int)<=r/\r<=(e.cap:Int))/\aI (α:=Sl) ⟨(be e.base 1 0 e.cap),((Int.toNat r)-0),(e.cap-0)⟩ λV=>ai none l λK=>cJ j (Addr.add K 1) [V.v] (λk=>ai none l λL=>fj k L 3 λT=>aa P BM [(yI T)] yH (λR w=>ai none l λM=>cJ w (Addr.add M 3) [(yI R)] (λb=>ai none l λN=>dz b N 2 λU=>(if decide ((U.len:Int)>(0:Int)) then
 ai none l λO=>dz b O 2 λi=>((bF i.base i.len (0:Int))/\aR none aH b (sat i.base 2 (0:Int)) λu=>ai none l λC=>dz b C 2 λq=>ai none l λD=>dz b D 2 λg=>ai none l λE=>dz b E 2 λd=>(((0:Int)<=(1:Int)/\((1:Int)<=(g.len:Int)/\((g.len:Int)<=(d.len:Int)/\(d.len:Int)<=(q.cap:Int))))/\aI (α:=Sl) ⟨(be q.base 2 1 (Int.toNat (d.len:Int))),((Int.toNat (g.len:Int))-1),((Int.toNat (d.len:Int))-1)⟩ λW=>ai none l λF=>cJ b (Addr.add F 2) [W.v] (λm=>ai none l λo=>dz m o 1 λs=>bh [(yI u.fh)] (λa n=>(((bf n (Addr.add o 1) [s.v])/\True)/\fu 1 8 [(yI (0:Int))] s ⟨(some a),1,1⟩ (λr2 z=>ai none l λG=>cJ z (Addr.add G 1) [r2.v] (λA=>Q t u true (0:Int) A)) n)) m)))
 else
 Q t ⟨(0:Int),(0:Int)⟩ false (0:Int) b))) k))) h)))
def Xa (P:Program) (l:Option Addr) (p:Int) (Q:(Int->(Hp->Prop))) (h:Hp):Prop:=
 bh [(yI p)] (λa b=>ai none l λd=>dz b d 2 λx=>aa P zcz [x.v,(.func (.func 223) #[] #[(yP (some a))])] yH (λr c=>Q r c) b) h
def Qh (P:Program) (s:Sl) (i:Int) (j:Int) (Q:(Sl->(Hp->Prop))) (h:Hp):Prop:=
 ((0<=i/\(i<=j/\(j<=(s.len:Int)/\(s.len:Int)<=(s.cap:Int))))/\aI (α:=Sl) ⟨(be s.base 2 (Int.toNat i) (Int.toNat (s.len:Int))),((Int.toNat j)-(Int.toNat i)),((Int.toNat (s.len:Int))-(Int.toNat i))⟩ λy=>(if (i==j)=true then
 Q s h
 else
 ((0<=i/\i<=(s.cap:Int))/\aI (α:=Sl) ⟨(be s.base 2 0 s.cap),((Int.toNat i)-0),(s.cap-0)⟩ λc=>((0<=j/\j<=(s.len:Int))/\aI (α:=Sl) ⟨(be s.base 2 (Int.toNat j) s.cap),(s.len-(Int.toNat j)),(s.cap-(Int.toNat j))⟩ λd=>fu 2 16 [(yI 0),(yI 0)] c d (λr a=>((0<=(r.len:Int)/\((r.len:Int)<=(s.len:Int)/\(s.len:Int)<=(r.cap:Int)))/\aI (α:=Sl) ⟨(be r.base 2 (Int.toNat (r.len:Int)) r.cap),((Int.toNat (s.len:Int))-(Int.toNat (r.len:Int))),(r.cap-(Int.toNat (r.len:Int)))⟩ λe=>nq P (Builtin.clear_ #[132] 0 #[e.v]) uA (λb=>Q r b) a)) h))))
def Xb (P:Program) (p:Option Addr) (proc:Int) (Q:(Int->(Hp->Prop))) (h:Hp):Prop:=
 ai none p λi=>dz h i 0 λx=>aA (α1:=Int) (λe a d=>(if decide (a<(x.len:Int)) then
 ((bF x.base x.len a)/\aR none ag d (sat x.base 1 a) λj=>aa P WO [(yP j)] bR (λr g=>aA (α1:=Int) (λf c b=>(if decide (c<(r.cM.len:Int)) then
 ((bF r.cM.base r.cM.len c)/\aR none aH b (sat r.cM.base 2 c) λk=>(if (k.dp==proc)=true then
 Q a b
 else
 f (yw (c+1)) b))
 else
 e (yw (a+1)) b)) 0 g) d)
 else
 Q (-1) d)) 0 h
def Xr (P:Program) (l:Option Addr) (p:Int) (v:Int) (Q:(Int->(Hp->Prop))) (h:Hp):Prop:=
 aa P Xh [(yP l)] bn (λr c=>(if (!r)=true then
 Q 20 c
 else
 aa P WS [(yP l),(yI p)] yH (λj b=>(if decide (j>=0) then
 Q 8 b
 else
 ai none l λg=>dz b g 2 λx=>bh [(yI p),(yI v)] (λa d=>fu 2 16 [(yI 0),(yI 0)] x ⟨(some a),1,1⟩ (λr2 e=>ai none l λi=>cJ e (Addr.add i 2) [r2.v] (λf=>Q 0 f)) d) b)) c)) h
def P3 (P:Program) (s:Sl) (f:xm) (Q:(Int->(Hp->Prop))) (h:Hp):Prop:=
 aA (α1:=Int) (λd a b=>(if decide (a<(s.len:Int)) then
 ((bF s.base s.len a)/\aR none aH b (sat s.base 2 a) λx=>gK P tb (.func (.func f.g) f.first f.captured) [x.v] bn (λr c=>(if r then
 Q a c
 else
 d (yw (a+1)) c)) b)
 else
 Q (-1) b)) 0 h
def zry (P:Program) (w:bJ) (a1:Addr) (Q:(Bool->(Hp->Prop))) (h:Hp):Prop:=
 aR none yH h a1 λx=>Q (w.dp==x) h
end Lf
namespace Lf
open Go
def jC.s (a:jC):jC:=.sq .tt a
def cm (a n:Nat):List (Nat×List Nat):=(List.range' a n).map λi=>(i,[])
section
variable {α β:Type _} {p q:Nat->α->Prop}
def rowAll (p:Nat->α->Prop):Nat->List (Option α)->Prop
 | _,[]=>True
 | n,none::l=>rowAll p (n+1) l
 | n,some a::l=>p n a/\rowAll p (n+1) l
def mg (p:Nat->α->Prop):Nat->List (List (Option α))->Prop
 | _,[]=>True
 | n,r::l=>rowAll p n r/\mg p (n+16) l
def j9 (f:Nat->α->β):Nat->List (Option α)->List β
 | _,[]=> []
 | n,none::l=>j9 f (n+1) l
 | n,some a::l=>f n a::j9 f (n+1) l
def ja (f:Nat->α->β):Nat->List (List (Option α))->List (List β)
 | _,[]=> []
 | n,r::l=>j9 f n r::ja f (n+16) l
theorem rowAll.at :∀ {l:List (Option α)} {n j:Nat} {a:α},rowAll p n l->nth l j=some (some a)->p (n+j) a
 | [],_,_,_,_,h=>by cases h
 | none::l,n,0,_,_,h=>by cases h
 | some b::l,n,0,a,h,e=>by cases e;exact h.1
 | none::l,n,j+1,a,h,e=>by have:=rowAll.at (l:=l) (n:=n+1) h e;rwa [Nat.add_right_comm] at this
 | some b::l,n,j+1,a,h,e=>by have:=rowAll.at (l:=l) (n:=n+1) h.2 e;rwa [Nat.add_right_comm] at this
theorem mg.at :∀ {l:List (List (Option α))} {n i j:Nat} {r:List (Option α)} {a:α},mg p n l->nth l i=some r->nth r j=some (some a)->p (n+16*i+j) a
 | [],_,_,_,_,_,_,h,_=>by cases h
 | r::l,n,0,j,_,a,h,e,b=>by cases e;exact h.1.at b
 | r::l,n,i+1,j,_,a,h,e,b=>by
  have:=mg.at (l:=l) (n:=n+16) h.2 e b
  rwa [show n+16+16*i+j=n+16*(i+1)+j by omega] at this
theorem j9.all {f g:Nat->α->β}:∀ {l:List (Option α)} {n:Nat},j9 f n l=j9 g n l->rowAll (λt e=>f t e=g t e) n l
 | [],_,_=>trivial
 | none::l,n,h=>j9.all (l:=l) (n:=n+1) h
 | some a::l,n,h=>by obtain ⟨b,c⟩:=List.cons.inj h;exact ⟨b,j9.all c⟩
theorem ja.all {f g:Nat->α->β}:∀ {l:List (List (Option α))} {n:Nat},ja f n l=ja g n l->mg (λt e=>f t e=g t e) n l
 | [],_,_=>trivial
 | r::l,n,h=>by obtain ⟨a,b⟩:=List.cons.inj h;exact ⟨j9.all a,ja.all b⟩
def rT (c:Nat->Bool):Nat->List Bool->Bool
 | _,[]=>true
 | n,b::l=>(!b || c n)&&rT c (n+1) l
def rV (c:Nat->Bool):Nat->List (List Bool)->Bool
 | _,[]=>true
 | n,r::l=>rT c n r&&rV c (n+16) l
theorem rT.at {c:Nat->Bool}:∀ {l:List Bool} {n j:Nat},rT c n l=true->nth l j=some true->c (n+j)=true
 | [],_,_,_,h=>by cases h
 | b::l,n,0,h,e=>by cases e;simp [rT] at h;exact h.1
 | b::l,n,j+1,h,e=>by
  simp only [rT,Bool.and_eq_true] at h;have:=rT.at (l:=l) (n:=n+1) h.2 e
  rwa [Nat.add_right_comm] at this
theorem rV.at {c:Nat->Bool}:∀ {l:List (List Bool)} {n i j:Nat} {r:List Bool},rV c n l=true->nth l i=some r->nth r j=some true->c (n+16*i+j)=true
 | [],_,_,_,_,_,h,_=>by cases h
 | r::l,n,0,j,_,h,e,a=>by cases e;simp only [rV,Bool.and_eq_true] at h;exact rT.at h.1 a
 | r::l,n,i+1,j,_,h,e,a=>by
  simp only [rV,Bool.and_eq_true] at h;have:=rV.at (l:=l) (n:=n+16) h.2 e a
  rwa [show n+16+16*i+j=n+16*(i+1)+j by omega] at this
end
def tT (P:Program) (g:Nat):Bool:=match P.funcs[g]? with
 | some fn=>fn.body.isSome&& !(fn.name== "runtime.NumGoroutine")
 | none=>false
theorem tT.call {P:Program} {g:Nat} (h:tT P g=true) (args:Array Value) (w:World):(callFunc g args).run P w=.ok (.enter g args) w:=by
 unfold tT at h;cases a:P.funcs[g]? with
 | none=>rw [a] at h;cases h
 | some fn=>
  rw [a] at h;simp only [Bool.and_eq_true,Bool.not_eq_true'] at h;obtain ⟨c,d⟩:=h;have e:fn.body.isNone=false:=by cases hb:fn.body with
   | none=>rw [hb] at c;cases c
   | some b=>rfl
  simp only [callFunc,Sem.run_bind,run_program,Result.andThen_ok,a,d,e,Bool.false_eq_true,if_false,Sem.run_pure]
theorem TZ {P:Program} {t:Nat} {e:Ty} (h:(P.info? t).map (λi=>(i.size,i.bytes,i.zero))=some (e.size,e.bytes,some e.zero)):∃i,P.info? t=some i/\i.size=e.size/\i.bytes=e.bytes/\i.zero=some e.zero:=by
 cases a:P.info? t with
 | none=>rw [a] at h;cases h
 | some i=>rw [a] at h;simp only [Option.map_some,Option.some.injEq,Prod.mk.injEq] at h;exact ⟨i,rfl,h⟩
theorem T0 (x:pD):(bp x.v).length=1/\∀a,x.v≠ .agg a:=by obtain ⟨v,h⟩:=x;cases v<;>first | exact ⟨rfl,λa h=>by cases h⟩ | cases h
end Lf
namespace Lf
open Go Go.Proofs Tryz
theorem tyN {e:Ty} {q:Prop} (h:(none:Option Ty)=some e):q:=by cases h
theorem pg {p:Nat->Ty->Prop} (h:mg p 0 q6):∀t e,BA t=some e->p t e:=λt e a=>by
 unfold BA at a;cases b:nth q6 (t / 16) with
 | none=>rw [b] at a;cases a
 | some r=>
  rw [b] at a;dsimp only at a;cases c:nth r (t%16) with
  | none=>rw [c] at a;cases a
  | some x=>
   rw [c] at a;dsimp only at a;subst a;have:=h.at b c
   rwa [show 0+16*(t / 16)+t%16=t by omega] at this
theorem FB {c:Nat->Bool} (h:rV c 0 BI=true):∀g,A3 g=true->c g=true:=λg a=>by
 unfold A3 at a;cases b:nth BI (g / 16) with
 | none=>rw [b] at a;cases a
 | some r=>
  rw [b] at a;dsimp only at a;cases d:nth r (g%16) with
  | none=>rw [d] at a;cases a
  | some x=>
   rw [d] at a;dsimp only at a;subst a;have:=rV.at h b d
   rwa [show 0+16*(g / 16)+g%16=g by omega] at this
theorem HN :ja (λt _=>prog.underlying t) 0 q6=ja (λ_ e=>some e.bO) 0 q6:=by kernel_rfl
theorem VM :ja (λt _=>(prog.info? t).map (λi=>(i.size,i.bytes,i.zero))) 0 q6=ja (λ_ e=>some (e.size,e.bytes,some e.zero)) 0 q6:=by kernel_rfl
theorem xc :mg (λ_ e=>(qb e.bO=true->(∀x,∃a,e.sh.enc x=.agg a/\a.size=e.size)/\∃a,e.zero=.agg a)/\(qb e.bO=false->e.size=1/\∀x,(bp (e.sh.enc x)).length=1/\∀a,e.sh.enc x≠ .agg a)/\(bp e.zero).length=e.size/\(e.bO=.int .u8->bp e.zero=[.int .u8 0])) 0 q6:=by
 unfold q6
 repeat' refine And.intro ?_ ?_
 all_goals first | exact trivial | exact rfl | (intro h;cases h;done) | exact (λ_=>rfl) | exact (λ_=>⟨λx=>⟨_,rfl,rfl⟩,_,rfl⟩) | exact (λ_=>⟨λx=>⟨_,rfl,x.size⟩,_,rfl⟩) | exact (λ_=>⟨rfl,T0⟩) | (refine λ_=>⟨rfl,λx=>⟨rfl,λa h=> ?_⟩⟩;cases h;done)
theorem bG :tb.Ok prog where
 bO:=pg (ja.all HN)
 info:=λt e h=>TZ (pg (ja.all VM) t e h)
 agg:=λt e h b=>((pg xc t e h).1 b).1
 leaf:=λt e h=>(pg xc t e h).2.1
 yY:=λt e h=>(pg xc t e h).2.2.1
 AF:=λt e h=>(pg xc t e h).2.2.2
 PG:=λt e h b=>((pg xc t e h).1 b).2
 call:=λg h=>tT.call (FB (by kernel_rfl) g h)
 ext:=by
  intro g f h args w;have h:vI g=some f:=h;unfold vI at h;cases c:Nat.beq g 173 with
  | true=>have a:g=173:=Nat.eq_of_beq_eq_true c;subst a;exact run_callFunc_extern func173 (by kernel_rfl) (by kernel_rfl) (by kernel_rfl) (show _=_ from (show _=some _ by kernel_rfl:_=some _).trans h) args w
  | false=>
  simp only [c,cond_false] at h;cases d:Nat.beq g 217 with
  | true=>have a:g=217:=Nat.eq_of_beq_eq_true d;subst a;exact run_callFunc_extern func217 (by kernel_rfl) (by kernel_rfl) (by kernel_rfl) (show _=_ from (show _=some _ by kernel_rfl:_=some _).trans h) args w
  | false=>
  simp only [d,cond_false] at h;cases i:Nat.beq g 218 with
  | true=>have a:g=218:=Nat.eq_of_beq_eq_true i;subst a;exact run_callFunc_extern func218 (by kernel_rfl) (by kernel_rfl) (by kernel_rfl) (show _=_ from (show _=some _ by kernel_rfl:_=some _).trans h) args w
  | false=>
  simp only [i,cond_false] at h;cases j:Nat.beq g 229 with
  | true=>have a:g=229:=Nat.eq_of_beq_eq_true j;subst a;exact run_callFunc_extern func229 (by kernel_rfl) (by kernel_rfl) (by kernel_rfl) (show _=_ from (show _=some _ by kernel_rfl:_=some _).trans h) args w
  | false=>
  simp only [j,cond_false] at h;cases h
 mixed:=by kernel_rfl
theorem bP (p:List Nat) (A:jC) {g:FuncId} {f:Func} {args:List Value} {K:(bD tb f.resultTypes.toList).T->Hp->Prop} {h:Hp} {X:Prop} (a:prog.funcs[g]? =some f) (hv:X) {c:Code} (hb:f.body=some c:=by exact rfl) (k:A4 ⟨prog,tb,p⟩ f A args K h=X:=by kernel_rfl):aa prog g args (bD tb f.resultTypes.toList) K h:=
 PR (C:=⟨prog,tb,p⟩) (A:=A) bG a hb (k.mpr hv)
theorem iy {t Q h} (hv:RB prog t Q h):aa prog ztg [(dD).enc t] (bn) Q h:=
 bP [1,17,18] (.s (.s (.s (.s (.s (.s (.s (.s (.s (.s (.sq (.bj [] [17,18] (.lp [⟨false,14,3⟩,⟨false,15,3⟩] [17,18] (.s (.bk (.sq (.bk (.lp [⟨false,14,3⟩] [] .tt)) (.sq (.bk (.lp [⟨false,15,3⟩] [] .tt)) (.s (.s (.sq (.s (.bj [] [17,18] (.lp [⟨false,16,3⟩] [17,18] (.s (.sq (.bk (.s (.s (.sq (.sq (.rg (cm 0 7++ [(8,[]),(9,[])]++cm 11 3++ [(15,[]),(16,[]),(7,[5,9,12,16]),(10,[12,16]),(14,[12,16])]++cm 17 4)) .tt) .tt)))) .tt))))) .tt))))))))) (.sq (.rg (cm 0 3++ [(4,[]),(5,[])]++cm 7 3++ [(11,[]),(12,[]),(3,[1,5,8,12]),(6,[8,12]),(10,[8,12])]++cm 13 3)) .tt)))))))))))) func3 hv
theorem zwi {t Q h} (hv:Vp prog t Q h):aa prog zqf [(dD).enc t] (bn) Q h:=
 bP [1] (.s (.s (.s (.s (.s (.sq (.s (.bk (.lp [⟨false,7,3⟩] [] (.s (.sq (.bk (.sq (.rg (cm 0 16)) .tt)) .tt))))) (.s (.s (.s (.sq (.s (.bk (.lp [⟨false,12,3⟩] [] (.s (.sq (.bk (.sq (.rg (cm 0 9)) .tt)) .tt))))) .tt)))))))))) func5 hv
theorem zjy {c Q h} (hv:SS prog c Q h):bu prog Nw [(aQ).enc c] (au) yH Q h:=
 show aa prog Nw [(aQ).enc c] (bD tb [32,33]) (λr=>Q r.1 r.2) h from bP [1,10] (.s (.s (.s (.sq (.s (.bk (.lp [⟨false,6,32⟩,⟨false,7,3⟩] [] .tt))) (.s (.sq (.s (.bk (.lp [⟨false,6,32⟩,⟨false,8,3⟩] [] .tt))) (.s (.s (.s (.s (.sq (.s (.bk (.lp [⟨false,6,32⟩,⟨false,9,3⟩] [10] (.s (.sq (.bk (.s (.s (.s (.s (.bk (.lp [⟨false,6,32⟩,⟨false,11,3⟩] [] .tt))))))) .tt))))) .tt))))))))))) func6 hv
theorem IG {raw Q h} (hv:Cr prog raw Q h):jm prog OA [(au).enc raw] (ag) yH yH Q h:=
 show aa prog OA [(au).enc raw] (bD tb [36,33,3]) (λr=>Q r.1 r.2.1 r.2.2) h from bP [5] .tt func7 hv
theorem JP {r s Q h} (hv:Dk prog r s Q h):aa prog AG [(ag).enc r,(bS).enc s] (yu) Q h:=
 bP [3,4] (.s (.s (.jn [⟨false,5,33⟩] [] (.sq (.rg ([(1,[]),(2,[]),(0,[2])]++cm 3 6)) .tt) (.sq (.rg (cm 0 11)) .tt)))) func8 hv
theorem zmh {a b Q h} (hv:Un prog a b Q h):aa prog Uc [(qX).enc a,(qX).enc b] (bn) Q h:=
 bP [2,3] (.s (.s (.sq (.s (.bk (.lp [⟨false,5,3⟩] [] (.s (.sq (.bk (.sq (.rg (cm 0 12)) .tt)) .tt))))) (.sq (.s (.bk (.lp [⟨false,7,3⟩] [] (.s (.sq (.bk (.sq (.rg (cm 0 12)) .tt)) .tt))))) .tt)))) func9 hv
theorem ND {c s a Q h} (hv:Wa prog c s a Q h):aa prog IX [(aQ).enc c,(qX).enc s,(af .u64).enc a] (qX) Q h:=
 bP [3,4,6,7,9,11] (.s (.s (.sq (.s (.bk (.lp [⟨false,8,3⟩,⟨true,7,48⟩] [7,9] (.s (.sq (.bk (.s (.jn [⟨true,9,86⟩] [9] .tt .tt))) .tt))))) (.sq (.s (.bk (.lp [⟨false,10,3⟩,⟨true,7,48⟩] [7,11] (.s (.sq (.bk (.s (.jn [⟨true,11,91⟩] [11] .tt .tt))) .tt))))) .tt)))) func10 hv
theorem NO {r Q h} (hv:XI prog r Q h):aa prog JM [(ag).enc r] (qX) Q h:=
 bP [2] .tt func11 hv
theorem Tj {c Q h} (hv:Vr prog c Q h):bu prog IN [(aQ).enc c] yH yH Q h:=
 show aa prog IN [(aQ).enc c] (bD tb [33,3]) (λr=>Q r.1 r.2) h from bP [1,7] (.s (.s (.s (.sq (.rg ([(0,[]),(1,[]),(3,[]),(4,[]),(6,[]),(7,[]),(9,[]),(10,[]),(13,[]),(2,[4,7,10]),(5,[7,10]),(8,[10]),(11,[]),(12,[]),(14,[])])) (.sq (.s (.bk (.lp [⟨false,8,3⟩] [] .tt))) (.s (.s (.sq (.s (.bk (.lp [⟨false,9,3⟩] [] (.s (.sq (.bk (.sq (.sq (.rg (cm 0 12)) .tt) (.sq (.rg (cm 0 14)) .tt))) .tt))))) .tt)))))))) func18 hv
theorem zqr {a b Q h} (hv:RD prog a b Q h):aa prog zkx [(aQ).enc a,(aQ).enc b] (bn) Q h:=
 bP [2,3] (.s (.s (.sq (.s (.bk (.lp [⟨false,5,3⟩] [] (.s (.sq (.bk (.sq (.rg (cm 0 13)) .tt)) .tt))))) .tt))) func19 hv
theorem zqs {a b Q h} (hv:RF prog a b Q h):aa prog zky [(au).enc a,(au).enc b] (bn) Q h:=
 bP [] (.s (.s (.sq (.s (.bk (.lp [⟨false,5,3⟩] [] (.s (.sq (.bk (.sq (.rg (cm 0 9)) .tt)) .tt))))) .tt))) func20 hv
theorem Sf {c p a Q h} (hv:Up prog c p a Q h):aa prog IK [(aQ).enc c,yH.enc p,(af .u64).enc a] (bn) Q h:=
 bP [3] (.s (.sq (.rg (cm 0 21)) .tt)) func21 hv
theorem zld {c l a Q h} (hv:Tx prog c l a Q h):aa prog Tq [(aQ).enc c,(au).enc l,(af .u64).enc a] (au) Q h:=
 bP [3] (.s (.s (.sq (.s (.bk (.lp [⟨false,7,27⟩,⟨false,8,3⟩] [] (.s (.sq (.bj [⟨false,7,27⟩] [] (.sq (.rg (cm 0 8)) .tt)) .tt))))) .tt))) func22 hv
theorem Nr {b n many Q h} (hv:SV prog b n many Q h):aa prog Iv [(au).enc b,(af .u64).enc n,yH.enc many] (au) Q h:=
 bP [] (.s (.sq (.s (.bk (.lp [⟨false,0,32⟩,⟨false,7,3⟩] [] .tt))) .tt)) func23 hv
theorem zwj {b x Q h} (hv:Vt prog b x Q h):aa prog zqg [(au).enc b,(aV).enc x] (au) Q h:=
 bP [3] (.s (.s (.sq (.s (.bk (.lp [⟨false,0,32⟩,⟨false,5,3⟩] [] .tt))) .tt))) func24 hv
theorem So {b Q h} (hv:YI prog b Q h):jm prog YF [(au).enc b] (aQ) yH yH Q h:=
 show aa prog YF [(au).enc b] (bD tb [26,33,3]) (λr=>Q r.1 r.2.1 r.2.2) h from bP [2] (.s (.gs 0 (.s (.s (.gj 0 [⟨true,2,26⟩] [2] (.s (.s (.s (.s (.s (.s (.s (.s (.s (.s (.s (.sq (.s (.bk (.lp [⟨false,6,3⟩] [] .tt))) (.sq .tt .tt))))))))))))) (.sq (.s (.sq (.sq (.rg (cm 0 9++ [(9,[4,8]),(10,[]),(11,[])])) .tt) .tt)) .tt)))))) func25 hv
theorem Sr {c Q h} (hv:YJ prog c Q h):bu prog YG [(aQ).enc c] (ag) yH Q h:=
 show aa prog YG [(aQ).enc c] (bD tb [73,33]) (λr=>Q r.1 r.2) h from bP [1] (.s (.s (.sq (.rg ([(0,[]),(1,[]),(2,[0])]++cm 3 3)) .tt))) func26 hv
theorem YT {Q h} (hv:Cs prog  Q h):aa prog Kc [] (gv) Q h:=
 bP [] .tt func27 hv
theorem zqt {a b Q h} (hv:RH prog a b Q h):aa prog zkz [(cg).enc a,(cg).enc b] (bn) Q h:=
 bP [2,3] (.s (.s (.sq (.s (.bk (.lp [⟨false,5,3⟩] [] (.s (.sq (.bk (.sq (.rg (cm 0 11)) .tt)) .tt))))) (.sq (.s (.bk (.lp [⟨false,6,3⟩] [] (.s (.sq (.bk (.sq (.rg (cm 0 12)) .tt)) .tt))))) .tt)))) func28 hv
theorem zpd {a b Q h} (hv:QX prog a b Q h):aa prog zii [(bB).enc a,(bB).enc b] (bn) Q h:=
 bP [2,3] (.s (.s (.sq (.s (.bk (.lp [⟨false,5,3⟩] [] (.s (.sq (.bk (.sq (.rg (cm 0 12)) .tt)) .tt))))) .tt))) func29 hv
theorem zmi {c i a Q h} (hv:Ur prog c i a Q h):aa prog Uf [(aQ).enc c,yH.enc i,(af .u64).enc a] (bn) Q h:=
 bP [3] .tt func30 hv
theorem zsi {m Q h} (hv:Nx prog m Q h):aa prog zmx [(ag).enc m] (qX) Q h:=
 bP [2,3] (.s (.s (.sq (.s (.bk (.lp [⟨false,26,3⟩,⟨true,3,48⟩] [3] (.s (.s (.sq (.bk (.s (.s (.rg (cm 0 10++cm 11 10++ [(10,[1,5,14,18]),(21,[]),(22,[1])]++cm 23 3))))) .tt)))))) (.sq (.s (.bk (.lp [⟨false,69,3⟩,⟨true,3,48⟩] [3] (.s (.s (.sq (.bk (.s (.s (.sq (.rg (cm 0 14++ [(14,[3,7,9,12])]++cm 15 6)) (.sq (.rg (cm 0 14++ [(14,[3,7,9,12])]++cm 15 6)) (.rg (cm 0 25++ [(25,[1])]++cm 26 3))))))) .tt)))))) .tt)))) func31 hv
theorem ztm {a b Q h} (hv:TA prog a b Q h):aa prog znz [(af .u64).enc a,(af .u64).enc b] (bn) Q h:=
 bP [] (.s (.sq (.s (.bk (.lp [⟨false,5,3⟩] [] .tt))) .tt)) func39 hv
theorem zwl {l Q h} (hv:zqh prog l Q h):bu prog Vd [(au).enc l] yH yH Q h:=
 show aa prog Vd [(au).enc l] (bD tb [33,3]) (λr=>Q r.1 r.2) h from bP [] (.s (.s (.s (.sq (.s (.bk (.lp [⟨false,4,3⟩] [] (.s (.sq (.bk (.sq (.sq (.rg (cm 0 10)) .tt) (.sq (.rg (cm 0 10)) .tt))) .tt))))) .tt)))) func43 hv
theorem zsj {l parts Q h} (hv:SX prog l parts Q h):aa prog zmy [(au).enc l,yH.enc parts] yH Q h:=
 bP [] (.s (.s (.s (.sq (.s (.bk (.lp [⟨false,5,3⟩] [] .tt))) .tt)))) func44 hv
theorem EJ {n least iA Q h} (hv:SZ prog n least iA Q h):aa prog BO [yH.enc n,yH.enc least,yH.enc iA] (bn) Q h:=
 bP [] .tt func45 hv
theorem zwm {l ae Q h} (hv:Vv prog l ae Q h):bu prog Vf [(au).enc l,yH.enc ae] yH yH Q h:=
 show aa prog Vf [(au).enc l,yH.enc ae] (bD tb [33,3]) (λr=>Q r.1 r.2) h from bP [] (.s (.s (.s (.sq (.s (.bk (.lp [⟨false,6,3⟩] [] .tt))) .tt)))) func46 hv
theorem zpm {a b Q h} (hv:Q4 prog a b Q h):aa prog ziy [(au).enc a,(au).enc b] (bn) Q h:=
 bP [] (.s (.s (.sq (.s (.bk (.lp [⟨false,5,3⟩] [] (.s (.sq (.bk (.sq (.rg (cm 0 9)) .tt)) .tt))))) .tt))) func47 hv
theorem zqu {a b Q h} (hv:RJ prog a b Q h):aa prog zla [(au).enc a,(au).enc b] (bn) Q h:=
 bP [] (.s (.s (.sq (.s (.bk (.lp [⟨false,5,3⟩] [] (.s (.sq (.bk (.sq (.rg (cm 0 9)) .tt)) .tt))))) .tt))) func48 hv
theorem zsk {c s a Q h} (hv:znh prog c s a Q h):aa prog zmz [(aQ).enc c,(bS).enc s,(af .u64).enc a] (bn) Q h:=
 bP [3,4] .tt func49 hv
theorem BX {r e place Q h} (hv:Wx prog r e place Q h):bC prog yf [(ag).enc r,yH.enc e,yH.enc place] (Q) h:=
 show aa prog yf [(ag).enc r,yH.enc e,yH.enc place] (bD tb []) (λ_=>Q) h from bP [] .tt func50 hv
theorem zwn {r Q h} (hv:Vx prog r Q h):bC prog Vh [(ag).enc r] (Q) h:=
 show aa prog Vh [(ag).enc r] (bD tb []) (λ_=>Q) h from bP [] (.s (.bk (.lp [⟨false,3,3⟩] [] .tt))) func51 hv
theorem vc {r Q h} (hv:NR prog r Q h):aa prog vd [(ag).enc r] (bn) Q h:=
 bP [] .tt func52 hv
theorem zwo {r c Q h} (hv:Vz prog r c Q h):bC prog Vj [(ag).enc r,(ag).enc c] (Q) h:=
 show aa prog Vj [(ag).enc r,(ag).enc c] (bD tb []) (λ_=>Q) h from bP [] (.s (.s (.bk (.lp [⟨false,4,3⟩] [] (.s (.sq (.bk (.s (.rg (cm 0 6++ [(6,[0,1,4]),(7,[0])]++cm 8 3)))) .tt)))))) func53 hv
theorem zxh {r c Q h} (hv:Wb prog r c Q h):bC prog V5 [(ag).enc r,(ag).enc c] (Q) h:=
 show aa prog V5 [(ag).enc r,(ag).enc c] (bD tb []) (λ_=>Q) h from bP [] (.s (.bk (.lp [⟨false,4,3⟩] [] (.s (.sq (.bk (.rg (cm 0 7++ [(7,[4]),(8,[4])]++cm 9 4))) .tt))))) func54 hv
theorem zwp {r part bytes Q h} (hv:VB prog r part bytes Q h):aa prog EL [(ag).enc r,yH.enc part,yH.enc bytes] yH Q h:=
 bP [] .tt func55 hv
theorem Sh {r iA Q h} (hv:Uu prog r iA Q h):aa prog NF [(ag).enc r,yH.enc iA] yH Q h:=
 bP [] .tt func56 hv
theorem zyh {r c Q h} (hv:Wz prog r c Q h):bC prog Wp [(ag).enc r,(ag).enc c] (Q) h:=
 show aa prog Wp [(ag).enc r,(ag).enc c] (bD tb []) (λ_=>Q) h from bP [4] (.s (.s (.sq (.s (.bk (.lp [⟨false,6,3⟩,⟨true,4,64⟩] [4] (.s (.sq (.bk (.rg (cm 0 8++ [(8,[1]),(9,[1])]++cm 10 3))) .tt))))) (.rg (cm 0 6++ [(6,[4])]++cm 7 4))))) func57 hv
theorem Wq {c Q h} (hv:Ct prog c Q h):bu prog Cl [(aQ).enc c] yH yH Q h:=
 show aa prog Cl [(aQ).enc c] (bD tb [33,3]) (λr=>Q r.1 r.2) h from bP [1,15] (.s (.s (.s (.s (.sq (.s (.bk (.lp [⟨false,57,3⟩] [] .tt))) (.s (.sq (.s (.bk (.lp [⟨false,80,3⟩] [15] .tt))) .tt))))))) func58 hv
theorem Rr {c s Q h} (hv:Yi prog c s Q h):aa prog H2 [(aQ).enc c,(qX).enc s] (ag) Q h:=
 bP [2,3,7,11,12] (.s (.sq (.rg ([(0,[]),(2,[]),(3,[]),(1,[3])]++cm 4 3)) (.s (.s (.sq (.s (.bk (.lp [⟨false,48,3⟩] [7] (.s (.s (.sq (.bk (.s (.s (.rg (cm 0 9++cm 10 5++ [(9,[4,6,11,13]),(15,[4,6,11,13]),(16,[]),(17,[4]),(18,[4])]++cm 19 4))))) .tt)))))) (.sq (.s (.bk (.lp [⟨false,86,3⟩] [11,12] (.s (.s (.sq (.bj [] [11,12] (.s (.s (.s (.sq (.rg (cm 0 21++ [(21,[4]),(22,[4])]++cm 23 4)) (.sq (.rg (cm 0 9)) (.s (.jn [] [] (.s (.sq (.rg (cm 0 5++ [(6,[]),(7,[]),(5,[3,7]),(8,[])])) .tt)) (.s (.sq (.rg (cm 0 5++ [(6,[]),(7,[]),(5,[3,7]),(8,[])])) .tt)))))))))) .tt)))))) .tt)))))) func59 hv
theorem QC {c Q h} (hv:XJ prog c Q h):aa prog zxv [(aQ).enc c] (qX) Q h:=
 bP [1,2,3] (.s (.sq (.r2 [(0,[]),(1,[]),(2,[]),(4,[]),(5,[]),(6,[]),(9,[])] 3 7 (.rg ([(3,[5]),(7,[]),(8,[]),(10,[])])) (.rg ([(7,[1]),(3,[5]),(8,[]),(10,[])]))) (.sq (.s (.bk (.lp [⟨false,18,3⟩] [] (.s (.s (.sq (.bj [] [] (.s (.r2 [(0,[]),(1,[]),(2,[]),(3,[]),(4,[]),(5,[]),(7,[]),(8,[]),(10,[]),(11,[])] 6 12 (.r2 [(6,[1,4,8,11])] 9 12 (.r2 [(9,[1,4,11]),(13,[]),(14,[])] 12 15 (.rg ([(12,[1,4]),(15,[4])]++cm 16 3)) (.rg ([(15,[4,11]),(12,[1,4])]++cm 16 3))) (.rg ([(12,[1,4,8]),(9,[1,4,11]),(13,[]),(14,[]),(15,[4,11])]++cm 16 3))) (.rg ([(12,[1,4,8]),(6,[1,4,8,11]),(9,[1,4,11]),(13,[]),(14,[]),(15,[4,11])]++cm 16 3))))) .tt)))))) (.sq (.s (.bk (.lp [⟨false,42,3⟩] [] (.s (.s (.sq (.bk (.s (.rg (cm 0 7++ [(7,[1])]++cm 8 3)))) .tt)))))) .tt)))) func60 hv
theorem zur {r s Q h} (hv:N4 prog r s Q h):aa prog UR [(ag).enc r,(bS).enc s] yH Q h:=
 bP [3] (.s (.sq (.bk (.s (.s (.sq (.rg (cm 0 9)) .tt)))) (.sq (.s (.bk (.lp [⟨false,20,3⟩] [] .tt))) (.sq (.rg (cm 0 10)) .tt)))) func61 hv
theorem P4 {r s Q h} (hv:zxa prog r s Q h):aa prog Sm [(ag).enc r,(bS).enc s] yH Q h:=
 bP [3] (.s (.sq (.rg (cm 0 10)) .tt)) func62 hv
theorem Ru {r s Q h} (hv:H4 prog r s Q h):aa prog UT [(ag).enc r,(bS).enc s] yH Q h:=
 bP [3] (.s (.sq (.rg (cm 0 8)) .tt)) func63 hv
theorem zmj {a b Q h} (hv:Uw prog a b Q h):aa prog Ui [(au).enc a,(au).enc b] (bn) Q h:=
 bP [] (.s (.s (.sq (.s (.bk (.lp [⟨false,5,3⟩] [] (.s (.sq (.bk (.sq (.rg (cm 0 9)) .tt)) .tt))))) .tt))) func64 hv
theorem zqv {a b Q h} (hv:RM prog a b Q h):aa prog zlb [(bR).enc a,(bR).enc b] (bn) Q h:=
 bP [2,3] (.s (.s (.sq (.s (.bk (.lp [⟨false,5,3⟩] [] (.s (.sq (.bk (.sq (.rg (cm 0 11)) .tt)) .tt))))) (.sq (.s (.bk (.lp [⟨false,6,3⟩] [] (.s (.sq (.bk (.sq (.rg (cm 0 11)) .tt)) .tt))))) .tt)))) func65 hv
theorem zxi {l Q h} (hv:Wc prog l Q h):bu prog NH [(ag).enc l] (au) (au) Q h:=
 show aa prog NH [(ag).enc l] (bD tb [23,84]) (λr=>Q r.1 r.2) h from bP [7] (.s (.s (.s (.sq (.s (.bk (.lp [⟨false,4,23⟩,⟨false,5,84⟩,⟨false,13,3⟩] [7] .tt))) .tt)))) func66 hv
theorem zdo {s Q h} (hv:Qu prog s Q h):aa prog If [(au).enc s] (au) Q h:=
 bP [] .tt func67 hv
theorem zzt {p Q h} (hv:WV prog p Q h):bu prog NP [(ag).enc p] (au) yH Q h:=
 show aa prog NP [(ag).enc p] (bD tb [89,3]) (λr=>Q r.1 r.2) h from bP [] (.s (.s (.sq (.s (.bk (.lp [⟨false,4,89⟩,⟨false,12,3⟩] [] .tt))) (.sq (.rg (cm 0 7)) .tt)))) func68 hv
theorem zqi {w dG Q h} (hv:NS prog w dG Q h):bu prog EM [(ag).enc w,yH.enc dG] yH (bn) Q h:=
 show aa prog EM [(ag).enc w,yH.enc dG] (bD tb [2,4]) (λr=>Q r.1 r.2) h from bP [6] .tt func69 hv
theorem I0 {p Q h} (hv:NZ prog p Q h):aa prog xv [yH.enc p] yH Q h:=
 bP [] .tt func70 hv
theorem I1 {p Q h} (hv:N0 prog p Q h):aa prog yn [yH.enc p] yH Q h:=
 bP [] .tt func71 hv
theorem ztn {m Q h} (hv:NB prog m Q h):aa prog zoa [(ag).enc m] yH Q h:=
 bP [] (.s (.sq (.rg (cm 0 10)) (.s (.s (.s (.sq (.s (.bj [] [] (.lp [⟨false,32,3⟩] [] (.s (.s (.sq (.bk (.sq (.s (.bk (.lp [⟨false,39,3⟩] [] (.s (.s (.sq (.bk (.s (.sq (.rg (cm 0 13)) (.sq (.rg (cm 0 14)) .tt)))) .tt)))))) .tt)) .tt)))))) .tt)))))) func73 hv
theorem zrz {m p v Q h} (hv:Nv prog m p v Q h):aa prog zmg [(ag).enc m,yH.enc p,yH.enc v] yH Q h:=
 bP [] (.s (.s (.sq (.rg (cm 0 14)) .tt))) func74 hv
theorem zto {m p Q h} (hv:NC prog m p Q h):aa prog zob [(ag).enc m,yH.enc p] yH Q h:=
 bP [] .tt func75 hv
theorem H5 {table parts Q h} (hv:LB prog table parts Q h):jm prog Om [(au).enc table,yH.enc parts] (ag) yH yH Q h:=
 show aa prog Om [(au).enc table,yH.enc parts] (bD tb [136,33,3]) (λr=>Q r.1 r.2.1 r.2.2) h from bP [] (.s (.s (.s (.sq (.rg ([(0,[]),(2,[]),(1,[2])]++cm 3 5)) .tt)))) func76 hv
theorem zzu {x y Q h} (hv:WW prog x y Q h):bu prog WN [(af .u64).enc x,(af .u64).enc y] (af .u64) (af .u64) Q h:=
 show aa prog WN [(af .u64).enc x,(af .u64).enc y] (bD tb [28,28]) (λr=>Q r.1 r.2) h from bP [] .tt func78 hv
theorem znq {a n Q h} (hv:VD prog a n Q h):aa prog Vl [(af .u64).enc a,yH.enc n] (bn) Q h:=
 bP [] .tt func81 hv
theorem ztp {x n ae Q h} (hv:TC prog x n ae Q h):aa prog zoc [(aV).enc x,yH.enc n,yH.enc ae] yH Q h:=
 bP [3] .tt func82 hv
theorem Ny {r many wrong Q h} (hv:VF prog r many wrong Q h):aa prog xr [(ag).enc r,yH.enc many,(kf).enc wrong] (af .u64) Q h:=
 bP [] (.s (.s (.sq (.sq (.rg (cm 0 12)) .tt) (.s (.sq (.sq (.rg (cm 0 17)) (.bk (.lp [⟨false,7,28⟩,⟨false,47,3⟩] [] .tt))) (.sq (.rg (cm 0 3++cm 4 4++ [(3,[7]),(8,[])])) .tt)))))) func83 hv
theorem ztq {n a1 Q h} (hv:TE prog n a1 Q h):aa prog Tr [(af .u64).enc n,.pointer (some a1)] yH Q h:=
 bP [] .tt func84 hv
theorem ztr {a a1 Q h} (hv:TG prog a a1 Q h):aa prog Ts [(af .u64).enc a,.pointer (some a1)] yH Q h:=
 bP [] .tt func85 hv
theorem zjz {r c Q h} (hv:S1 prog r c Q h):aa prog SA [(ag).enc r,(ag).enc c] yH Q h:=
 bP [] .tt func86 hv
theorem NG {r many wrong Q h} (hv:WX prog r many wrong Q h):aa prog I8 [(ag).enc r,yH.enc many,(kf).enc wrong] yH Q h:=
 bP [] .tt func87 hv
theorem zts {n a1 Q h} (hv:zod prog n a1 Q h):aa prog Tt [yH.enc n,.pointer (some a1)] yH Q h:=
 bP [] .tt func88 hv
theorem zxb {part n Q h} (hv:YK prog part n Q h):aa prog YH [yH.enc part,yH.enc n] yH Q h:=
 bP [] .tt func89 hv
theorem zsl {n a1 Q h} (hv:znm prog n a1 Q h):aa prog SD [yH.enc n,.pointer (some a1)] yH Q h:=
 bP [] .tt func90 hv
theorem Yw {n iA Q h} (hv:BP prog n iA Q h):aa prog On [yH.enc n,yH.enc iA] yH Q h:=
 bP [] .tt func91 hv
theorem zwq {n Q h} (hv:VH prog n Q h):aa prog Vn [yH.enc n] yH Q h:=
 bP [] .tt func92 hv
theorem zzv {r n ae Q h} (hv:WY prog r n ae Q h):aa prog zuj [(ag).enc r,yH.enc n,yH.enc ae] (aV) Q h:=
 bP [6,9] .tt func93 hv
theorem Yx {l Q h} (hv:LD prog l Q h):bu prog Oo [(au).enc l] yH yH Q h:=
 show aa prog Oo [(au).enc l] (bD tb [33,3]) (λr=>Q r.1 r.2) h from bP [] (.s (.s (.sq (.s (.bk (.lp [⟨false,4,3⟩] [] (.s (.sq (.bk (.bk (.sq (.rg (cm 0 11)) (.s (.sq (.rg (cm 0 11)) .tt))))) .tt))))) .tt))) func94 hv
theorem Jl {n from_ to Q h} (hv:YL prog n from_ to Q h):aa prog EP [yH.enc n,yH.enc from_,yH.enc to] (bn) Q h:=
 bP [] .tt func95 hv
theorem Wr {l ae Q h} (hv:Cu prog l ae Q h):bu prog Cm [(au).enc l,yH.enc ae] yH yH Q h:=
 show aa prog Cm [(au).enc l,yH.enc ae] (bD tb [33,3]) (λr=>Q r.1 r.2) h from bP [7] (.s (.s (.sq (.s (.bk (.lp [⟨false,22,3⟩] [7] .tt))) .tt))) func96 hv
theorem P6 {c Q h} (hv:Xk prog c Q h):aa prog zwx [(aQ).enc c] (aQ) Q h:=
 bP [1,2,4] (.s (.sq (.rg ([(0,[]),(1,[]),(3,[]),(4,[]),(6,[]),(7,[]),(2,[4,7]),(9,[]),(5,[7]),(8,[])]++cm 10 5)) (.sq (.s (.bk (.lp [⟨false,20,3⟩] [4] (.s (.s (.sq (.bk (.s (.rg (cm 0 5++ [(5,[1])]++cm 6 3)))) .tt)))))) .tt))) func97 hv
theorem UW {l Q h} (hv:LG prog l Q h):jm prog BJ [(au).enc l] (ag) yH yH Q h:=
 show aa prog BJ [(au).enc l] (bD tb [135,33,3]) (λr=>Q r.1 r.2.1 r.2.2) h from bP [] (.s (.s (.s (.sq (.s (.bk (.lp [⟨false,29,3⟩] [] .tt))) .tt)))) func98 hv
theorem UY {aB av Q h} (hv:BR prog aB av Q h):bu prog Oq [(au).enc aB,(au).enc av] (ag) yH Q h:=
 show aa prog Oq [(au).enc aB,(au).enc av] (bD tb [143,33]) (λr=>Q r.1 r.2) h from bP [] (.s (.s (.s (.s (.sq (.s (.bk (.lp [⟨false,30,3⟩] [] (.s (.s (.sq (.bk (.s (.s (.s (.s (.bk (.lp [⟨false,65,3⟩] [] (.s (.s (.sq (.bk (.s (.s (.rg (cm 0 14++ [(14,[3,8,12]),(15,[3])]++cm 16 3))))) .tt)))))))))) .tt)))))) .tt))))) func99 hv
theorem U0 {Q h} (hv:Ot prog  Q h):aa prog BK [] (ag) Q h:=
 bP [] .tt func100 hv
theorem Ws {room l ah Q h} (hv:Cv prog room l ah Q h):bu prog OB [yH.enc room,(au).enc l,yH.enc ah] (ag) yH Q h:=
 show aa prog OB [yH.enc room,(au).enc l,yH.enc ah] (bD tb [153,33]) (λr=>Q r.1 r.2) h from bP [10] (.s (.s (.s (.sq (.s (.bk (.lp [⟨false,44,3⟩] [10] .tt))) .tt)))) func101 hv
theorem VJ {w dG due Q h} (hv:NT prog w dG due Q h):aa prog xt [(ag).enc w,yH.enc dG,yH.enc due] yH Q h:=
 bP [7] (.s (.s (.s (.s (.sq (.rg (cm 0 11)) (.sq (.rg (cm 0 7++ [(7,[4])]++cm 8 4)) (.sq (.rg (cm 0 7)) .tt))))))) func102 hv
theorem zsm {x count Q h} (hv:S3 prog x count Q h):aa prog uo [(au).enc x,yH.enc count] (au) Q h:=
 bP [] (.s (.jn [] [] .tt (.s (.jn [] [] .tt (.s (.s (.sq (.bk (.lp [⟨false,8,3⟩] [] (.s (.bk (.rg (cm 0 10)))))) .tt))))))) func103 hv
theorem Nu {s Q h} (hv:EK prog s Q h):aa prog Nz [(au).enc s] (au) Q h:=
 bP [] .tt func104 hv
theorem zqj {l Q h} (hv:WZ prog l Q h):aa prog WO [(ag).enc l] (bR) Q h:=
 bP [2] (.s (.sq (.rg (cm 0 4++cm 5 4++cm 10 8++ [(4,[8,13,17]),(9,[13,17]),(18,[]),(19,[])])) .tt)) func105 hv
theorem zxj {s t Q h} (hv:Wd prog s t Q h):aa prog zrf [(ag).enc s,yH.enc t] yH Q h:=
 bP [] (.s (.s (.sq (.rg (cm 0 14)) .tt))) func108 hv
theorem zus {m x Q h} (hv:Uy prog m x Q h):bC prog Uk [(ag).enc m,(ag).enc x] (Q) h:=
 show aa prog Uk [(ag).enc m,(ag).enc x] (bD tb []) (λ_=>Q) h from bP [] (.sq (.rg (cm 0 8++ [(10,[]),(8,[]),(9,[])])) (.bk (.lp [⟨false,17,3⟩] [] (.s (.s (.sq (.bj [] [] .tt) .tt)))))) func109 hv
theorem ztv {m p Q h} (hv:TI prog m p Q h):bC prog Tu [(ag).enc m,(ag).enc p] (Q) h:=
 show aa prog Tu [(ag).enc m,(ag).enc p] (bD tb []) (λ_=>Q) h from bP [4,5] (.sq (.rg (cm 0 16++ [(20,[]),(21,[])]++cm 16 4++ [(22,[]),(23,[])])) (.s (.sq (.rg (cm 0 11)) (.s (.bk (.s (.s (.s (.s (.jn [⟨false,61,4⟩] [] .tt (.s (.s (.sq (.s (.sq (.rg (cm 0 8++ [(8,[3]),(9,[])])) (.s (.sq (.rg (cm 0 8++cm 9 8++ [(8,[3,12,14]),(17,[])])) .tt)))) (.s (.sq (.sq (.rg (cm 0 8++cm 9 9++ [(8,[3,12,14]),(18,[])])) .tt) (.s (.sq (.sq (.rg (cm 0 16)) .tt) (.s (.sq (.sq (.rg (cm 0 8++ [(9,[]),(10,[]),(8,[10]),(11,[])])) (.sq (.sq (.rg (cm 0 16)) .tt) .tt)) (.s (.sq (.sq (.rg (cm 0 11)) (.sq (.rg (cm 0 16++ [(16,[4])]++cm 17 4)) .tt)) .tt))))))))))))))))))))) func110 hv
theorem zka {m p Q h} (hv:S5 prog m p Q h):aa prog SG [(ag).enc m,yH.enc p] yH Q h:=
 bP [] .tt func111 hv
theorem WE {p lane v Q h} (hv:N1 prog p lane v Q h):aa prog NW [(ag).enc p,yH.enc lane,yH.enc v] yH Q h:=
 bP [] .tt func112 hv
theorem zsa {p lane Q h} (hv:NV prog p lane Q h):bC prog Jj [(ag).enc p,yH.enc lane] (Q) h:=
 show aa prog Jj [(ag).enc p,yH.enc lane] (bD tb []) (λ_=>Q) h from bP [] .tt func113 hv
theorem RW {m q Q h} (hv:TK prog m q Q h):bC prog IC [(ag).enc m,(ag).enc q] (Q) h:=
 show aa prog IC [(ag).enc m,(ag).enc q] (bD tb []) (λ_=>Q) h from bP [] .tt func114 hv
theorem zle {m p state Q h} (hv:TN prog m p state Q h):bC prog NA [(ag).enc m,(ag).enc p,yH.enc state] (Q) h:=
 show aa prog NA [(ag).enc m,(ag).enc p,yH.enc state] (bD tb []) (λ_=>Q) h from bP [10,12] (.sq (.rg (cm 0 11)) (.s (.sq (.s (.bk (.lp [⟨false,35,3⟩] [] (.s (.s (.sq (.bk (.s (.rg (cm 0 15)))) .tt)))))) (.sq (.sq (.rg (cm 0 8++ [(10,[]),(8,[]),(9,[])])) (.bk (.lp [⟨false,65,3⟩] [10] .tt))) (.sq (.rg (cm 0 8++ [(8,[3]),(9,[])])) (.sq (.rg (cm 0 8++ [(8,[3]),(9,[])])) (.s (.bk (.lp [⟨false,100,3⟩] [12] (.s (.s (.sq (.bk (.s (.rg (cm 0 10)))) .tt)))))))))))) func115 hv
theorem zhj {s f Q h} (hv:Rg prog s f Q h):aa prog zjx [(au).enc s,(kf).enc f] yH Q h:=
 bP [] (.s (.sq (.s (.bk (.lp [⟨false,8,3⟩] [] .tt))) .tt)) func116 hv
theorem zxc {p a1 Q h} (hv:YM prog p a1 Q h):aa prog KC [yH.enc p,.pointer (some a1)] (bn) Q h:=
 bP [] .tt func117 hv
theorem zil {s v Q h} (hv:RO prog s v Q h):aa prog Ns [(au).enc s,yH.enc v] (bn) Q h:=
 bP [] .tt func118 hv
theorem ztw {x n ae Q h} (hv:TP prog x n ae Q h):bu prog Tv [(aV).enc x,yH.enc n,yH.enc ae] yH yH Q h:=
 show aa prog Tv [(aV).enc x,yH.enc n,yH.enc ae] (bD tb [33,3]) (λr=>Q r.1 r.2) h from bP [3] .tt func121 hv
theorem zqw {n a1 Q h} (hv:zlc prog n a1 Q h):aa prog Rz [yH.enc n,.pointer (some a1)] yH Q h:=
 bP [] .tt func122 hv
theorem zxk {n a1 Q h} (hv:zrp prog n a1 Q h):aa prog V7 [(af .u64).enc n,.pointer (some a1)] yH Q h:=
 bP [] .tt func123 hv
theorem zxl {a0 Q h} (hv:zrq prog a0 Q h):aa prog NI [(af .u64).enc a0] yH Q h:=
 bP [] .tt func124 hv
theorem XW {x n ae Q h} (hv:Zl prog x n ae Q h):aa prog Od [(aV).enc x,yH.enc n,yH.enc ae] yH Q h:=
 bP [3] .tt func125 hv
theorem Su {x e Q h} (hv:YN prog x e Q h):aa prog Iy [(aV).enc x,yH.enc e] yH Q h:=
 bP [2,10] (.s (.s (.s (.sq (.s (.bk (.lp [⟨false,35,3⟩] [10] .tt))) .tt)))) func126 hv
theorem zfw {s Q h} (hv:Nq prog s Q h):aa prog QV [(au).enc s] (au) Q h:=
 bP [] .tt func127 hv
theorem zly {s Q h} (hv:zfl prog s Q h):aa prog zfj [(au).enc s] (au) Q h:=
 bP [] .tt func128 hv
theorem zns {s Q h} (hv:zga prog s Q h):aa prog zfz [(au).enc s] (au) Q h:=
 bP [] .tt func129 hv
theorem zoe {l p Q h} (hv:We prog l p Q h):bu prog NJ [(ag).enc l,yH.enc p] yH (bn) Q h:=
 show aa prog NJ [(ag).enc l,yH.enc p] (bD tb [3,4]) (λr=>Q r.1 r.2) h from bP [7] (.s (.sq (.s (.bk (.lp [⟨false,13,3⟩] [7] .tt))) .tt)) func130 hv
theorem Wt {room s Q h} (hv:Cw prog room s Q h):bu prog Co [yH.enc room,(bR).enc s] (ag) yH Q h:=
 show aa prog Co [yH.enc room,(bR).enc s] (bD tb [202,33]) (λr=>Q r.1 r.2) h from bP [3] (.s (.s (.s (.s (.sq (.rg (cm 0 4++ [(5,[]),(6,[]),(4,[6])]++cm 7 7)) (.sq (.rg (cm 0 8++ [(8,[5])]++cm 9 3)) .tt)))))) func131 hv
theorem II {w dG Q h} (hv:NM prog w dG Q h):aa prog Ca [(ag).enc w,yH.enc dG] (bn) Q h:=
 bP [5,8] (.s (.s (.s (.sq (.s (.bk (.lp [⟨false,25,3⟩] [8] .tt))) .tt)))) func132 hv
theorem zcm {x target cmp Q h} (hv:PM prog x target cmp Q h):bu prog Np [(au).enc x,(aY).enc target,(kf).enc cmp] yH (bn) Q h:=
 show aa prog Np [(au).enc x,(aY).enc target,(kf).enc cmp] (bD tb [3,4]) (λr=>Q r.1 r.2) h from bP [4] (.s (.s (.s (.sq (.bk (.lp [⟨false,9,3⟩,⟨false,10,3⟩] [] (.s (.bj [⟨false,9,3⟩,⟨false,10,3⟩] [] (.s (.sq (.rg (cm 0 8)) .tt)))))) (.sq (.rg (cm 0 16)) .tt))))) func133 hv
theorem zxd {a b Q h} (hv:YO prog a b Q h):aa prog KD [(aY).enc a,(aY).enc b] yH Q h:=
 bP [2,3] (.s (.sq (.rg (cm 0 4++cm 5 4++ [(4,[6,8])]++cm 9 4)) .tt)) func134 hv
theorem zhk {s i v Q h} (hv:zdf prog s i v Q h):aa prog P9 [(au).enc s,yH.enc i,(au).enc v] (au) Q h:=
 bP [] (.s (.s (.s (.s (.s (.s (.sq (.s (.sq (.s (.s (.sq (.rg (cm 0 9)) .tt))) .tt)) (.s (.sq (.s (.sq (.sq (.rg (cm 0 9)) .tt) .tt)) .tt))))))))) func135 hv
theorem QE {x y Q h} (hv:zyc prog x y Q h):bu prog XD [(af .u64).enc x,(af .u64).enc y] (af .u64) (af .u64) Q h:=
 show aa prog XD [(af .u64).enc x,(af .u64).enc y] (bD tb [230,230]) (λr=>Q r.1 r.2) h from bP [] .tt func136 hv
theorem zhl {s Q h} (hv:Ri prog s Q h):aa prog Re [(au).enc s] (au) Q h:=
 bP [] .tt func137 hv
theorem zdh {s Q h} (hv:Qn prog s Q h):aa prog Qm [(au).enc s] (au) Q h:=
 bP [] .tt func138 hv
theorem zzw {w now Q h} (hv:NU prog w now Q h):aa prog zuk [(ag).enc w,yH.enc now] (au) Q h:=
 bP [] (.s (.s (.sq (.bk (.lp [⟨false,5,23⟩] [] .tt)) .tt))) func141 hv
theorem RY {m p c Q h} (hv:TR prog m p c Q h):bC prog IF [(ag).enc m,(ag).enc p,(fk).enc c] (Q) h:=
 show aa prog IF [(ag).enc m,(ag).enc p,(fk).enc c] (bD tb []) (λ_=>Q) h from bP [5] (.s (.rg (cm 0 5++ [(5,[2])]++cm 6 3))) func142 hv
theorem CS {c Q h} (hv:Cx prog c Q h):aa prog xx [(fk).enc c] (fk) Q h:=
 bP [1,2] .tt func143 hv
theorem Wu {c l tick self Q h} (hv:Cy prog c l tick self Q h):bu prog Cp [(fk).enc c,(au).enc l,yH.enc tick,yH.enc self] (fk) (Dp) Q h:=
 show aa prog Cp [(fk).enc c,(au).enc l,yH.enc tick,yH.enc self] (bD tb [152,264]) (λr=>Q r.1 r.2) h from bP [8,9,10,12,15] (.s (.s (.s (.sq (.s (.s (.sq (.sq (.s (.sq (.sq (.rg ([(0,[]),(1,[]),(2,[1]),(3,[])])) .tt) .tt)) (.sq (.rg ([(0,[]),(2,[]),(1,[2]),(3,[2]),(4,[])])) .tt)) .tt))) (.s (.s (.sq (.s (.bj [⟨true,8,152⟩,⟨true,9,264⟩] [8,9] (.s (.s (.s (.sq (.rg (cm 0 7)) (.s (.s (.s (.s (.s (.s (.s (.s (.sq (.rg (cm 0 16)) (.jn [⟨false,16,2⟩] [] (.s (.sq (.rg (cm 0 15)) .tt)) .tt)))))))))))))))) .tt))))))) func144 hv
theorem zsn {m p to v Q h} (hv:S8 prog m p to v Q h):bC prog SK [(ag).enc m,(ag).enc p,yH.enc to,yH.enc v] (Q) h:=
 show aa prog SK [(ag).enc m,(ag).enc p,yH.enc to,yH.enc v] (bD tb []) (λ_=>Q) h from bP [] (.s (.s (.bk (.sq (.rg (cm 0 15)) (.sq (.sq (.rg (cm 0 23++ [(23,[3,7,9])]++cm 24 3)) .tt) (.sq (.rg (cm 0 10)) (.s (.jn [] [] (.sq (.rg (cm 0 19)) (.sq (.rg (cm 0 9)) .tt)) .tt)))))))) func145 hv
theorem zkb {m p try_ Q h} (hv:Ta prog m p try_ Q h):bC prog SM [(ag).enc m,(ag).enc p,(bn).enc try_] (Q) h:=
 show aa prog SM [(ag).enc m,(ag).enc p,(bn).enc try_] (bD tb []) (λ_=>Q) h from bP [8] (.s (.bk (.s (.sq (.sq (.rg (cm 0 15)) (.s (.sq (.rg (cm 0 10)) .tt))) (.s (.sq (.s (.rg (cm 0 13))) (.s (.sq (.rg (cm 0 13)) .tt)))))))) func146 hv
theorem zyi {l n p Q h} (hv:WB prog l n p Q h):bu prog NN [(ag).enc l,yH.enc n,yH.enc p] (bn) yH Q h:=
 show aa prog NN [(ag).enc l,yH.enc n,yH.enc p] (bD tb [4,33]) (λr=>Q r.1 r.2) h from bP [] (.s (.s (.s (.s (.jn [] [] .tt .tt))))) func147 hv
theorem zof {l p Q h} (hv:Wf prog l p Q h):aa prog NK [(ag).enc l,yH.enc p] (au) Q h:=
 bP [7] (.s (.s (.sq (.s (.bk (.lp [⟨false,5,23⟩,⟨false,13,3⟩] [7] (.s (.s (.sq (.bj [⟨false,5,23⟩] [7] .tt) .tt)))))) .tt))) func148 hv
theorem zpn {l n p Q h} (hv:WD prog l n p Q h):bu prog IZ [(ag).enc l,yH.enc n,yH.enc p] yH yH Q h:=
 show aa prog IZ [(ag).enc l,yH.enc n,yH.enc p] (bD tb [3,33]) (λr=>Q r.1 r.2) h from bP [] (.s (.s (.s (.sq (.bk (.s (.s (.s (.s (.s (.rg (cm 0 19)))))))) .tt)))) func149 hv
theorem Rk {m lG Q h} (hv:Td prog m lG Q h):bC prog BQ [(ag).enc m,yH.enc lG] (Q) h:=
 show aa prog BQ [(ag).enc m,yH.enc lG] (bD tb []) (λ_=>Q) h from bP [] (.s (.sq (.rg (cm 0 18++ [(18,[4,7]),(19,[])])) .tt)) func150 hv
theorem zut {n Q h} (hv:Yk prog n Q h):aa prog N3 [yH.enc n] yH Q h:=
 bP [] .tt func151 hv
theorem WG {state Q h} (hv:XK prog state Q h):aa prog NX [yH.enc state] (bn) Q h:=
 bP [] .tt func152 hv
theorem VL {p n Q h} (hv:W1 prog p n Q h):aa prog NQ [(ag).enc p,yH.enc n] (bn) Q h:=
 bP [] .tt func153 hv
theorem QG {l v Q h} (hv:XM prog l v Q h):aa prog zxw [(ag).enc l,yH.enc v] yH Q h:=
 bP [] .tt func154 hv
theorem P7 {l Q h} (hv:Xl prog l Q h):bC prog Xf [(ag).enc l] (Q) h:=
 show aa prog Xf [(ag).enc l] (bD tb []) (λ_=>Q) h from bP [] .tt func155 hv
theorem zzx {p proc Q h} (hv:W4 prog p proc Q h):aa prog WQ [(ag).enc p,yH.enc proc] (bn) Q h:=
 bP [] (.s (.s (.sq (.s (.bk (.lp [⟨false,5,4⟩,⟨false,13,3⟩] [] (.s (.s (.sq (.bj [⟨false,5,4⟩] [] .tt) .tt)))))) .tt))) func156 hv
theorem zzy {l p Q h} (hv:W5 prog l p Q h):aa prog zul [(ag).enc l,yH.enc p] (au) Q h:=
 bP [] (.s (.sq (.s (.bk (.lp [⟨false,17,3⟩] [] (.s (.s (.sq (.bj [] [] (.s (.s (.s (.sq (.rg (cm 0 16++ [(16,[3])]++cm 17 3)) .tt))))) .tt)))))) (.s (.sq (.s (.bk (.lp [⟨false,7,275⟩,⟨false,56,3⟩] [] .tt))) .tt)))) func157 hv
theorem QH {p Q h} (hv:XO prog p Q h):aa prog zxx [(ag).enc p] (au) Q h:=
 bP [] (.s (.s (.sq (.s (.bk (.lp [⟨false,3,132⟩,⟨false,11,3⟩] [] .tt))) .tt))) func158 hv
theorem BB {m p reply Q h} (hv:RQ prog m p reply Q h):bC prog xq [(ag).enc m,(ag).enc p,yH.enc reply] (Q) h:=
 show aa prog xq [(ag).enc m,(ag).enc p,yH.enc reply] (bD tb []) (λ_=>Q) h from bP [] (.rg (cm 0 13)) func159 hv
theorem zlf {s v Q h} (hv:TU prog s v Q h):aa prog Tw [(au).enc s,yH.enc v] yH Q h:=
 bP [] (.s (.sq (.s (.bk (.lp [⟨false,8,3⟩] [] .tt))) .tt)) func160 hv
theorem zso {op Q h} (hv:Tf prog op Q h):nV prog SP [yH.enc op] (bn) (bn) (bn) (bn) Q h:=
 show aa prog SP [yH.enc op] (bD tb [4,4,4,4]) (λr=>Q r.1 r.2.1 r.2.2.1 r.2.2.2) h from bP [] (.s (.sq (.s (.bk (.s (.s (.jn [⟨false,9,4⟩] [] .tt (.s (.jn [⟨false,15,4⟩] [] .tt (.s (.jn [⟨false,28,4⟩] [] .tt (.s (.jn [⟨false,35,4⟩] [] .tt (.s (.s (.s (.jn [⟨false,41,4⟩] [] .tt .tt))))))))))))))) .tt)) func162 hv
theorem Q0 {n has Q h} (hv:RU prog n has Q h):aa prog Nt [yH.enc n,(bn).enc has] yH Q h:=
 bP [] .tt func163 hv
theorem TS {x n ae Q h} (hv:Zo prog x n ae Q h):bu prog Zh [(aV).enc x,yH.enc n,yH.enc ae] yH yH Q h:=
 show aa prog Zh [(aV).enc x,yH.enc n,yH.enc ae] (bD tb [33,3]) (λr=>Q r.1 r.2) h from bP [3] .tt func164 hv
theorem zxe {op Q h} (hv:YP prog op Q h):nV prog N6 [yH.enc op] (bn) (bn) (bn) (bn) Q h:=
 show aa prog N6 [yH.enc op] (bD tb [4,4,4,4]) (λr=>Q r.1 r.2.1 r.2.2.1 r.2.2.2) h from bP [] .tt func165 hv
theorem Wv {room Q h} (hv:Cz prog room Q h):bu prog Cq [yH.enc room] (ag) yH Q h:=
 show aa prog Cq [yH.enc room] (bD tb [202,33]) (λr=>Q r.1 r.2) h from bP [] .tt func166 hv
theorem Xs {n from_ to Q h} (hv:N8 prog n from_ to Q h):aa prog N7 [yH.enc n,yH.enc from_,yH.enc to] (bn) Q h:=
 bP [] .tt func167 hv
theorem TV {l Q h} (hv:Zq prog l Q h):aa prog I3 [(au).enc l] (bn) Q h:=
 bP [5] (.s (.s (.sq (.s (.bk (.lp [⟨false,9,3⟩] [5] .tt))) .tt))) func168 hv
theorem zhm {s i j Q h} (hv:zdg prog s i j Q h):aa prog zde [(au).enc s,yH.enc i,yH.enc j] (au) Q h:=
 bP [] (.s (.s (.s (.s (.sq (.rg (cm 0 8)) .tt))))) func169 hv
theorem TY {eK Q h} (hv:Zs prog eK Q h):aa prog I4 [(au).enc eK] yH Q h:=
 bP [] (.s (.s (.sq (.s (.bk (.lp [⟨false,8,3⟩] [] .tt))) .tt))) func170 hv
theorem zxm {x y Q h} (hv:Wg prog x y Q h):aa prog zrh [yH.enc x,yH.enc y] yH Q h:=
 bP [] .tt func171 hv
theorem zzz {x y Q h} (hv:W7 prog x y Q h):aa prog zum [yH.enc x,yH.enc y] yH Q h:=
 bP [] .tt func172 hv
theorem BW {c l Q h} (hv:DC prog c l Q h):bu prog wH [(fk).enc c,(au).enc l] (aV) (bn) Q h:=
 show aa prog wH [(fk).enc c,(au).enc l] (bD tb [70,4]) (λr=>Q r.1 r.2) h from bP [2,4] .tt func176 hv
theorem U2 {x r Q h} (hv:BS prog x r Q h):jm prog BL [(aV).enc x,(xw).enc r] (Dp) (bn) (bn) Q h:=
 show aa prog BL [(aV).enc x,(xw).enc r] (bD tb [264,4,4]) (λr=>Q r.1 r.2.1 r.2.2) h from bP [2,3,4] (.s (.sq (.s (.bk (.s (.s (.s (.sq (.sq (.rg (cm 0 12)) .tt) .tt)))))) .tt)) func177 hv
theorem AE {c reg v Q h} (hv:Ym prog c reg v Q h):bC prog wD [(ag).enc c,yH.enc reg,yH.enc v] (Q) h:=
 show aa prog wD [(ag).enc c,yH.enc reg,yH.enc v] (bD tb []) (λ_=>Q) h from bP [] .tt func178 hv
theorem X7 {op b c Q h} (hv:DD prog op b c Q h):bu prog DA [yH.enc op,yH.enc b,yH.enc c] yH yH Q h:=
 show aa prog DA [yH.enc op,yH.enc b,yH.enc c] (bD tb [2,33]) (λr=>Q r.1 r.2) h from bP [] .tt func179 hv
theorem X8 {op b c Q h} (hv:DE prog op b c Q h):bu prog DB [yH.enc op,yH.enc b,yH.enc c] yH yH Q h:=
 show aa prog DB [yH.enc op,yH.enc b,yH.enc c] (bD tb [2,33]) (λr=>Q r.1 r.2) h from bP [] .tt func180 hv
theorem zxn {t i j Q h} (hv:Wi prog t i j Q h):aa prog zri [(ag).enc t,yH.enc i,yH.enc j] (bn) Q h:=
 bP [] (.s (.sq (.rg (cm 0 26)) .tt)) func181 hv
theorem zsc {m p q v Q h} (hv:Sd prog m p q v Q h):bC prog Sb [(ag).enc m,(ag).enc p,(ag).enc q,yH.enc v] (Q) h:=
 show aa prog Sb [(ag).enc m,(ag).enc p,(ag).enc q,yH.enc v] (bD tb []) (λ_=>Q) h from bP [] (.bk (.s (.s (.sq (.rg (cm 0 12)) (.sq (.sq (.rg (cm 0 14)) .tt) .tt))))) func182 hv
theorem YU {c code v from_ Q h} (hv:CA prog c code v from_ Q h):aa prog OC [(fk).enc c,(au).enc code,yH.enc v,yH.enc from_] (fk) Q h:=
 bP [8,9] (.s (.jn [] [9] .tt .tt)) func184 hv
theorem zog {l n p Q h} (hv:Wj prog l n p Q h):aa prog V9 [(ag).enc l,yH.enc n,yH.enc p] yH Q h:=
 bP [] .tt func185 hv
theorem zsd {l Q h} (hv:Xn prog l Q h):aa prog Xh [(ag).enc l] (bn) Q h:=
 bP [] (.s (.sq (.rg (cm 0 11)) .tt)) func186 hv
theorem H7 {n Q h} (hv:BT prog n Q h):aa prog BM [yH.enc n] yH Q h:=
 bP [] .tt func187 hv
theorem PB {l p Q h} (hv:W8 prog l p Q h):aa prog zun [(ag).enc l,yH.enc p] (bn) Q h:=
 bP [] .tt func188 hv
theorem zsp {s i j Q h} (hv:Th prog s i j Q h):aa prog znf [(au).enc s,yH.enc i,yH.enc j] (au) Q h:=
 bP [] (.s (.s (.s (.s (.sq (.rg (cm 0 8)) .tt))))) func189 hv
theorem QI {l Q h} (hv:XQ prog l Q h):aa prog zxz [(ag).enc l] (au) Q h:=
 bP [] (.s (.sq (.rg (cm 0 16)) .tt)) func190 hv
theorem Ww {c code reply Q h} (hv:CC prog c code reply Q h):aa prog Ke [(fk).enc c,(au).enc code,yH.enc reply] (fk) Q h:=
 bP [6,7] (.s (.jn [] [7] .tt .tt)) func191 hv
theorem WH {has n Q h} (hv:XR prog has n Q h):aa prog NY [(bn).enc has,yH.enc n] yH Q h:=
 bP [] .tt func192 hv
theorem Sw {x has n ae Q h} (hv:YQ prog x has n ae Q h):aa prog IA [(aV).enc x,(bn).enc has,yH.enc n,yH.enc ae] yH Q h:=
 bP [4] .tt func193 hv
theorem Sy {op Q h} (hv:YR prog op Q h):aa prog IB [yH.enc op] (qz) Q h:=
 bP [] .tt func194 hv
theorem QK {field a1 Q h} (hv:zyg prog field a1 Q h):aa prog zya [(qz).enc field,.pointer (some a1)] (bn) Q h:=
 bP [] .tt func195 hv
theorem zqk {x Q h} (hv:W9 prog x Q h):aa prog WR [yH.enc x] (bn) Q h:=
 bP [] .tt func197 hv
theorem zta {x Q h} (hv:XT prog x Q h):aa prog XG [yH.enc x] (bn) Q h:=
 bP [] .tt func198 hv
theorem zuu {b c Q h} (hv:Yo prog b c Q h):aa prog Yh [yH.enc b,yH.enc c] yH Q h:=
 bP [] .tt func200 hv
theorem Wy {b c Q h} (hv:Kh prog b c Q h):aa prog Kg [yH.enc b,yH.enc c] yH Q h:=
 bP [] .tt func201 hv
theorem U4 {b c Q h} (hv:JJ prog b c Q h):aa prog JH [yH.enc b,yH.enc c] yH Q h:=
 bP [] .tt func202 hv
theorem I5 {is Q h} (hv:C8 prog is Q h):aa prog C7 [(bn).enc is] yH Q h:=
 bP [] .tt func203 hv
theorem H8 {bits Q h} (hv:BU prog bits Q h):aa prog BN [yH.enc bits] (jP .f64) Q h:=
 bP [] .tt func204 hv
theorem KE {f Q h} (hv:CD prog f Q h):aa prog EY [(jP .f64).enc f] yH Q h:=
 bP [] .tt func205 hv
theorem U6 {f Q h} (hv:BV prog f Q h):aa prog JI [(jP .f64).enc f] yH Q h:=
 bP [] .tt func206 hv
theorem zse {t i Q h} (hv:Xo prog t i Q h):aa prog Xi [(ag).enc t,yH.enc i] (bn) Q h:=
 bP [] .tt func207 hv
theorem SB {a b Q h} (hv:YS prog a b Q h):aa prog ID [(af .u64).enc a,(af .u64).enc b] (bn) Q h:=
 bP [] .tt func208 hv
theorem Qb {p lane proc v Q h} (hv:Xp prog p lane proc v Q h):aa prog zwy [(ag).enc p,yH.enc lane,yH.enc proc,yH.enc v] yH Q h:=
 bP [] .tt func209 hv
theorem PD {p Q h} (hv:zuq prog p Q h):aa prog zuo [(ag).enc p] (kf) Q h:=
 bP [4] (.s (.sp 4 (.rg (cm 0 9++ [(10,[]),(9,[3,7]),(11,[7]),(12,[])])) .tt)) func210 hv
theorem QM {l Q h} (hv:XU prog l Q h):aa prog TL [(ag).enc l] yH Q h:=
 bP [] .tt func211 hv
theorem Qd {l Q h} (hv:Xq prog l Q h):nV prog Xj [(ag).enc l] yH (aH) (bn) yH Q h:=
 show aa prog Xj [(ag).enc l] (bD tb [2,192,4,33]) (λr=>Q r.1 r.2.1 r.2.2.1 r.2.2.2) h from bP [3] (.s (.s (.s (.sq (.rg (cm 0 11)) (.s (.s (.sq (.s (.sq (.s (.sq (.rg (cm 0 19)) (.rg (cm 0 7++ [(7,[4])]++cm 8 4)))) .tt)) (.sq (.rg (cm 0 7)) .tt)))))))) func212 hv
theorem zql {l p Q h} (hv:Xa prog l p Q h):aa prog WS [(ag).enc l,yH.enc p] yH Q h:=
 bP [] .tt func213 hv
theorem zin {s i j Q h} (hv:Qh prog s i j Q h):aa prog zdn [(au).enc s,yH.enc i,yH.enc j] (au) Q h:=
 bP [] (.s (.s (.s (.s (.sq (.rg (cm 0 8)) .tt))))) func214 hv
theorem PE {p proc Q h} (hv:Xb prog p proc Q h):aa prog zup [(ag).enc p,yH.enc proc] yH Q h:=
 bP [8] (.s (.sq (.s (.bk (.lp [⟨false,14,3⟩] [8] (.s (.s (.sq (.bk (.s (.s (.bk (.lp [⟨false,23,3⟩] [8] .tt))))) .tt)))))) .tt)) func219 hv
theorem Qf {l p v Q h} (hv:Xr prog l p v Q h):aa prog zwz [(ag).enc l,yH.enc p,yH.enc v] yH Q h:=
 bP [] .tt func220 hv
theorem zhc {s f Q h} (hv:P3 prog s f Q h):aa prog zcz [(au).enc s,(kf).enc f] yH Q h:=
 bP [] (.s (.sq (.s (.bk (.lp [⟨false,8,3⟩] [] .tt))) .tt)) func222 hv
theorem zxo {w a1 Q h} (hv:zry prog w a1 Q h):aa prog NL [(aH).enc w,.pointer (some a1)] (bn) Q h:=
 bP [2] .tt func223 hv
section
variable {V:Type}
def j5 (a:Int):List (Int×V)->Option (Nat×V)
 | []=>none
 | (k,v)::r=>if a=k then some (0,v) else (j5 a r).map λp=>(p.1+1,p.2)
def gT (a:Int):List (Int×V)->Option V
 | []=>none
 | (k,v)::r=>if a=k then some v else gT a r
def kT (a:Int) (v:V):List (Int×V)->List (Int×V)
 | []=> [(a,v)]
 | (k,u)::r=>if a=k then (a,v)::r else (k,u)::kT a v r
def nb (a:Int):List (Int×V)->List (Int×V)
 | []=> []
 | (k,u)::r=>if a=k then r else (k,u)::nb a r
theorem yG (a b:Int) (v:V):∀l:List (Int×V),gT a (kT b v l)=if a=b then some v else gT a l
 | []=>by simp [kT,gT]
 | (k,u)::r=>by
  simp only [kT];by_cases h:b=k
  ·rw [if_pos h];subst h;simp only [gT];split<;>rfl
  ·rw [if_neg h];simp only [gT,yG a b v r];grind
theorem K4 {a:Int}:∀ {l:List (Int×V)},a∉l.map (·.1)->gT a l=none
 | [],_=>rfl
 | (k,u)::r,h=>by simp only [List.map_cons,List.mem_cons,not_or] at h;simp only [gT];rw [if_neg h.1];exact K4 h.2
theorem Mr (a b:Int):∀l:List (Int×V),(l.map (·.1)).Nodup->gT a (nb b l)=if a=b then none else gT a l
 | [],_=>by simp [nb,gT]
 | (k,u)::r,c=>by
  simp only [List.map_cons,List.nodup_cons] at c;simp only [nb];by_cases h:b=k
  ·rw [if_pos h];subst h;simp only [gT];by_cases d:a=b
   ·subst d;rw [if_pos rfl];exact K4 c.1
   grind
  ·rw [if_neg h];simp only [gT,Mr a b r c.2];grind
theorem K5 (b:Int) (v:V):∀(l:List (Int×V)) (a:Int),a∈(kT b v l).map (·.1)↔a=b\/a∈l.map (·.1)
 | [],a=>by simp [kT]
 | (k,u)::r,a=>by
  simp only [kT];by_cases h:b=k
  ·subst h;simp
  ·rw [if_neg h];simp only [List.map_cons,List.mem_cons,K5 b v r a];grind
theorem Ki (b:Int) (v:V):∀ {l:List (Int×V)},(l.map (·.1)).Nodup->((kT b v l).map (·.1)).Nodup
 | [],_=>by simp [kT]
 | (k,u)::r,a=>by
  simp only [List.map_cons,List.nodup_cons] at a;simp only [kT];by_cases h:b=k
  ·grind
  ·rw [if_neg h];simp only [List.map_cons,List.nodup_cons];refine ⟨λe=> ?_,Ki b v a.2⟩;rcases (K5 b v r k).1 e with e | e
   ·exact h e.symm
   ·exact a.1 e
theorem Ms (b:Int):∀(l:List (Int×V)),(nb b l).Sublist l
 | []=>.slnil
 | (k,u)::r=>by
  simp only [nb];split
  ·simp
  ·exact .cons_cons _ (Ms b r)
theorem Zf (b:Int) {l:List (Int×V)} (h:(l.map (·.1)).Nodup):((nb b l).map (·.1)).Nodup:=h.sublist ((Ms b l).map _)
theorem K6 {b:Int}:∀ {l:List (Int×V)},gT b l=none->nb b l=l
 | [],_=>rfl
 | (k,u)::r,h=>by
  simp only [gT] at h;simp only [nb];split at h
  ·cases h
  ·rename_i e;rw [if_neg e,K6 h]
theorem DF (a:Int):∀l:List (Int×V),gT a l=(j5 a l).map (·.2)
 | []=>rfl
 | (k,v)::r=>by
  simp only [gT,j5];split
  ·rfl
  ·rw [DF a r];simp [Function.comp_def]
def fF (h:Hp) (m:Nat) (k:IntKind) (ev:V->Value) (c:List (Int×V)):Prop:=
 ∃(a:List MapEntry) (ck:Nat),h m=some (.map a.toArray ck)/\a.map (λe=>(e.key,e.val))=c.map λp=>(Value.int k p.1,ev p.2)
variable {h:Hp} {m:Nat} {k:IntKind} {ev:V->Value} {c:List (Int×V)}
theorem zn (a:Int):∀(d:List MapEntry) (c:List (Int×V)) (j:Nat),d.map (λe=>(e.key,e.val))=c.map (λp=>(Value.int k p.1,ev p.2))->
  Instr.findNow (.int k) (.int k a) d j=some ((j5 a c).map λp=>(p.1+j,ev p.2))
 | [],[],j,_=>rfl
 | [],_::_,j,h=>by simp at h
 | _::_,[],j,h=>by simp at h
 | e::d,(b,v)::r,j,h=>by
  simp only [List.map_cons,List.cons.injEq,Prod.mk.injEq] at h;obtain ⟨⟨g,i⟩,l⟩:=h;simp only [Instr.findNow,g,Instr.sameNow,if_true,j5];by_cases f:a=b
  ·simp [f,i]
  ·have n:(a==b)=false:=by simpa using f
   rw [n,if_neg f];simp only;rw [zn a d r (j+1) l];cases j5 a r with
   | none=>rfl
   | some p=>simp;omega
theorem Eu {e:IntKind} {sh:Shape} {c:List (Int×sh.T)} {a:Int} {z:sh.T} {zero:Value} {K:sh.T->Bool->Prop} (o:fF h m e sh.enc c) (q:sh.enc z=zero) (l:gT a c=none->K z false)
  (n:∀v,gT a c=some v->K v true):nm none (.int e) sh zero (some m) (.int e a) h K:=by
 obtain ⟨f,ck,g,j⟩:=o;have b:=zn (ev:=sh.enc) a f c 0 j;have d:=DF a c;cases i:j5 a c with
 | none=>rw [i] at b d;exact ⟨z,false,⟨f,.inr ⟨m,ck,rfl,g⟩,.inl ⟨b,q,rfl⟩⟩,l d⟩
 | some p=>rw [i] at b d;exact ⟨p.2,true,⟨f,.inr ⟨m,ck,rfl,g⟩,.inr ⟨_,b,rfl⟩⟩,n p.2 d⟩
theorem K7 {a:Int} {v:V}:∀ {l:List (Int×V)},j5 a l=none->kT a v l=l++ [(a,v)]
 | [],_=>rfl
 | (k,u)::r,h=>by
  simp only [j5] at h;split at h
  ·cases h
  ·rename_i e;simp only [kT];rw [if_neg e,K7 (by simpa using h)];rfl
theorem Mt {a:Int} {v u:V} {ev:V->Value}:∀ {g:List MapEntry} {l:List (Int×V)} {i:Nat},g.map (λe=>(e.key,e.val))=l.map (λp=>(Value.int k p.1,ev p.2))->j5 a l=some (i,u)->
  (g.modify i λe=>{e with key:=.int k a,val:=ev v}).map (λe=>(e.key,e.val))=(kT a v l).map λp=>(Value.int k p.1,ev p.2)
 | _,[],_,_,h=>by simp [j5] at h
 | [],_::_,_,h,_=>by simp at h
 | e::g,(b,w)::r,i,h,d=>by
  simp only [List.map_cons,List.cons.injEq] at h;simp only [j5] at d;simp only [kT];split at d
  ·grind
  ·rename_i j;rw [if_neg j];cases f:j5 a r with
   | none=>rw [f] at d;simp at d
   | some p=>rw [f] at d;simp at d;obtain ⟨rfl,rfl⟩:=d;simp only [List.modify_succ_cons,List.map_cons,h.1];rw [Mt h.2 f]
theorem Kj {a:Int} {u:V} {ev:V->Value}:∀ {g:List MapEntry} {l:List (Int×V)} {i:Nat},g.map (λe=>(e.key,e.val))=l.map (λp=>(Value.int k p.1,ev p.2))->j5 a l=some (i,u)->
  (g.eraseIdx i).map (λe=>(e.key,e.val))=(nb a l).map λp=>(Value.int k p.1,ev p.2)
 | _,[],_,_,h=>by simp [j5] at h
 | [],_::_,_,h,_=>by simp at h
 | e::g,(b,w)::r,i,h,d=>by
  simp only [List.map_cons,List.cons.injEq] at h;simp only [j5] at d;simp only [nb];split at d
  ·grind
  ·rename_i j;rw [if_neg j];cases f:j5 a r with
   | none=>rw [f] at d;simp at d
   | some p=>rw [f] at d;simp at d;obtain ⟨rfl,rfl⟩:=d;simp only [List.eraseIdx_cons_succ,List.map_cons,h.1];rw [Kj h.2 f]
theorem M3 {a:Int} {v:V} {K:Hp->Prop} (l:fF h m k ev c) (i:∀o,isCells o=false->fF (h.set m o) m k ev (kT a v c)->K (h.set m o)):xD (.int k) (some m) (.int k a) (ev v) K h:=by
 obtain ⟨f,ck,j,g⟩:=l;have b:=zn (ev:=ev) a f c 0 g;refine ⟨m,f.toArray,ck,rfl,j,?_⟩;cases d:j5 a c with
 | none=>
  rw [d] at b;refine .inl ⟨b,i _ rfl ⟨f++ [{key:=.int k a,val:=ev v,born:=ck}],ck+1,?_,?_⟩⟩
  ·rw [nI];simp
  ·rw [K7 d];simp [g]
 | some p=>rw [d] at b;refine .inr ⟨p.1,ev p.2,b,i _ rfl ⟨f.modify p.1 λe=>{e with key:=.int k a,val:=ev v},ck,?_,Mt (u:=p.2) g d⟩⟩;rw [nI];simp
theorem PV {a:Int} {K:Hp->Prop} (j:fF h m k ev c) (g:∀o,isCells o=false->fF (h.set m o) m k ev (nb a c)->K (h.set m o)):wP (.int k) (some m) (.int k a) K h:=by
 obtain ⟨e,ck,i,f⟩:=j;have b:=zn (ev:=ev) a e c 0 f;refine .inr ⟨m,e.toArray,ck,rfl,i,?_⟩;cases d:j5 a c with
 | none=>rw [d] at b;refine .inl ⟨b,g _ rfl ⟨e,ck,nI,?_⟩⟩;rw [K6 (by rw [DF,d];rfl)];exact f
 | some p=>rw [d] at b;refine .inr ⟨p.1,ev p.2,b,g _ rfl ⟨e.eraseIdx p.1,ck,?_,Kj (u:=p.2) f d⟩⟩;rw [nI];simp
end
abbrev fE :Int->List Value:=λx=> [.int .i64 x]
abbrev eW :mU->List Value:=λw=> [.int .i64 w.proc,.int .i64 w.value]
def pf (w:mU):bJ:=⟨w.proc,w.value⟩
section
variable {h0 k:Hp} {A B C:dI}
theorem Has.f1 (o:Has h0 (A.star (B.star C)) k):∃c,h0<=c/\Has c A k/\∀e f,Has c e f->Has h0 (e.star (B.star C)) f:=by obtain ⟨c,a,b,_,d⟩:=o.fst;grind
theorem Has.f2 (o:Has h0 (A.star (B.star C)) k):∃c,h0<=c/\Has c B k/\∀B' e,Has c B' e->Has h0 (A.star (B'.star C)) e:=by obtain ⟨c,a,b,_,d⟩:=o.snd;obtain ⟨h,a2,f,_,g⟩:=b.fst;exact ⟨h,Hp.le_trans a a2,f,λB' e i=>d _ _ (g _ _ i)⟩
theorem Has.f3 (o:Has h0 (A.star (B.star C)) k):∃h1,h0<=h1/\Has h1 C k/\∀e c,Has h1 e c->Has h0 (A.star (B.star e)) c:=by obtain ⟨h1,a,b,_,d⟩:=o.snd;obtain ⟨h,a2,f,_,g⟩:=b.snd;exact ⟨h,Hp.le_trans a a2,f,λj c i=>d _ _ (g _ _ i)⟩
theorem Js {l:Option Addr} {sz c:Nat}:be l sz 0 c=l:=by
 unfold be;split
 ·rfl
 ·cases l with
  | none=>rfl
  | some a=>obtain ⟨b,off,sp⟩:=a;simp [Addr.add]
theorem Has.shift {i:Type} {sz:Nat} {enc:i->List Value} {l:Sl} {a:i} {r:List i} {K:Int->Hp->Prop} (o:Has h0 (dU sz enc l (a::r)) k) (h:∀x,(enc x).length=sz) (D:∀x,ji (enc x)=true)
  (w:∀f,Has h0 (dU sz enc ⟨l.base,r.length,l.cap⟩ r) f->K (r.length:Nat) f):fY sz l ⟨be l.base sz 1 l.cap,l.len-1,l.cap-1⟩ K k:=by
 have H:=o.jh;have g:=o.we;have G:=(o.qJ h (c:=l.cap) g (Nat.le_refl _)).kM h;obtain ⟨y,F,⟨J,L,t⟩,p⟩:=o;have N:l.len=r.length+1:=by simpa using H
 rcases t with ⟨e,d,_⟩ | ⟨b,off,I,e,j,v,M,P⟩
 ·omega
 ·have z:h0 b=none:=p b ((j b).2 rfl);have O:r.length*sz<=l.cap*sz:=Nat.mul_le_mul_right sz (by omega);have s:l=⟨some ⟨b,off,none⟩,l.len,l.cap⟩:=by cases l;simp at e;subst e;rfl
  have E:(r.flatMap enc).length=r.length*sz:=jz h r;rw [show (fY sz l:Sl->_)=fY sz ⟨some ⟨b,off,none⟩,l.len,l.cap⟩ by rw [<-s]];refine DW (n:=r.length) (new:=r.flatMap enc) v (by show min (l.len-1) l.len=_;omega) G.2 (tn D r) (by omega) λf m u=>w f ⟨λc q d=>m.bK c q (y c q d) (λg=>(by rw [List.mem_singleton.1 g,z] at d;cases d)),F,⟨rfl,by show r.length<=l.cap;omega,.inr ⟨b,off,_,e,j,u,?_,?_⟩⟩,p⟩
  ·simp only [List.length_append,List.length_take,List.length_drop,E];show off+l.cap*sz<=_;omega
  grind
theorem Rw.map {a β:Type} {sz:Nat} {enc:β->List Value} {f:a->β} {l:Sl} {xs:List a} (r:Rw k sz (λx=>enc (f x)) l xs):Rw k sz enc l (xs.map f):=by obtain ⟨c,b⟩:=r;refine ⟨by grind,?_⟩;rw [List.length_map,List.flatMap_map];exact b
theorem Mu {n:Int} (h:kj n):ju (yw (n+(1:Int))) (65535:Int)=more n:=by rw [wrap64 (by have:=h.1;omega) (by have:=h.2;omega)];unfold ju more;omega
end
def dL (q:Addr) (room:Int) (l:bq):dI:=
 .some_ λx:dw=>((dk De q x).star ((dU 1 fE x.values l.values).star (dU 2 eW x.waiters l.waiters))).star (.fact (x.room=room/\x.taken=l.taken/\x.dropped=l.dropped))
section
variable {h0 k:Hp} {q:Addr} {room:Int} {l:bq}
theorem Has.bz (o:Has h0 (dL q room l) k):∃x:dw,x.room=room/\x.taken=l.taken/\x.dropped=l.dropped/\Has h0 ((dk De q x).star ((dU 1 fE x.values l.values).star (dU 2 eW x.waiters l.waiters))) k:=by obtain ⟨x,o⟩:=Has.ex.1 o;obtain ⟨o,a,b,c⟩:=o.j6;grind
theorem Has.j7 {x:dw} (o:Has h0 ((dk De q x).star ((dU 1 fE x.values l.values).star (dU 2 eW x.waiters l.waiters))) k) (a:x.room=room) (b:x.taken=l.taken) (c:x.dropped=l.dropped):Has h0 (dL q room l) k:=
 Has.ex.2 ⟨x,o.fB ⟨a,b,c⟩⟩
theorem VN {Q:Int->Hp->Prop} (o:Has h0 (dL q room l) k) (a:Q (l.values.length:Int) k):XU prog (some q) Q k:=by obtain ⟨x,_,_,_,o⟩:=o.bz;unfold XU;refine aP (o.left.ld (shf:=au) x.values rfl ?_);rw [o.right.left.jh];exact a
theorem Ii {Q:Bool->Hp->Prop} (o:Has h0 (dL q room l) k) (b:Q (decide (room<=(l.values.length:Int))) k):Xn prog (some q) Q k:=by obtain ⟨x,a,_,_,o⟩:=o.bz;unfold Xn;refine aP (o.left.ld (shf:=au) x.values rfl ?_);refine aP (o.left.ld (shf:=af .i64) x.room rfl ?_);rw [o.right.left.jh,a];exact b
theorem T1 {v:Int} {Q:Int->Hp->Prop} (o:Has h0 (dL q room l) k) (u:room<=64) (t:room<=(l.values.length:Int)->Q 19 k) (g:∀b,¬room<=(l.values.length:Int)->Has h0 (dL q room (sN v l)) b->Q 0 b):XM prog (some q) v Q k:=by
 unfold XM;refine zsd (Ii o ?_);by_cases a:room<=(l.values.length:Int)
 ·grind
 ·rw [if_neg (λh=>a (of_decide_eq_true h))];obtain ⟨x,d,e,f,o⟩:=o.bz;refine aP (o.left.ld (shf:=au) x.values rfl ?_);obtain ⟨r,_,j,put⟩:=o.f2;refine j.push rfl (λ_=>rfl) (λ_=>rfl) rfl ⟨by omega,by omega⟩ λc w m=> ?_;have o:=put _ _ m;obtain ⟨s,_,n,put⟩:=o.f1;refine aP (n.st {x with values:=c} (show (2:Nat)<=5 by decide) rfl λi p=> ?_);exact g i a (Has.j7 (x:={x with values:=c}) (put _ _ p) d e f)
theorem RC {Q:Hp->Prop} (o:Has h0 (dL q room l) k) (e:kj l.dropped) (f:∀a,Has h0 (dL q room (jM l)) a->Q a):Xl prog (some q) Q k:=by obtain ⟨x,b,c,d,o⟩:=o.bz;unfold Xl;refine aP (o.left.ld (shf:=af .i64) x.dropped rfl ?_);refine H7 ?_;unfold BT;rw [d,Mu e];obtain ⟨j,_,h,put⟩:=o.f1;refine aP (h.st {x with dropped:=more l.dropped} (show (5:Nat)<=5 by decide) rfl λg i=> ?_);exact f g (Has.j7 (x:={x with dropped:=more l.dropped}) (put _ _ i) b c rfl)
theorem RE {Q:Int->bJ->Bool->Int->Hp->Prop} (o:Has h0 (dL q room l) k) (E:kj l.taken) (i:l.values.length<=64) (Y:l.values=[]->Q 0 ⟨0,0⟩ false 21 k)
  (C:∀v b h,l.values=v::b->l.waiters=[]->Has h0 (dL q room (dQ l)) h->Q v ⟨0,0⟩ false 0 h)
  (D:∀v b w g h,l.values=v::b->l.waiters=w::g->Has h0 (dL q room (dQ l)) h->Q v (pf w) true 0 h):Xq prog (some q) Q k:=by
 obtain ⟨x,p,B,r,o⟩:=o.bz;unfold Xq;have j:=o.right.left.jh;refine aP (o.left.ld (shf:=au) x.values rfl ?_);cases hv:l.values with
 | nil=>grind
 | cons v b=>
  rw [hv] at o j i;have j:x.values.len=b.length+1:=by simpa using j
  rw [if_neg (show ¬((x.values.len:Int)==0)=true by simp;omega)];refine aP (o.left.ld (shf:=au) x.values rfl ?_);have W:Rs k (af .i64) 1 x.values (v::b):=o.right.left.kM (λ_=>rfl);refine W.get (λ_=>rfl) (by omega) (by omega) (by simp) λ(y:Int) t=> ?_;have t:y=v:=by grind
  subst t;refine aP (o.left.ld (shf:=au) x.values rfl ?_);refine aP (o.left.ld (shf:=au) x.values rfl ?_);refine ⟨by omega,aJ ?_⟩;obtain ⟨e,_,J,put⟩:=o.f2;refine J.shift (λ_=>rfl) (λ_=>rfl) λZ A=> ?_;have o:=put _ _ A;have s:=A.we;refine aP (o.left.ld (shf:=au) x.values rfl ?_);have s:b.length<=x.values.cap:=s;refine ⟨by omega,aJ ?_⟩;rw [Js,Int.toNat_natCast,Nat.sub_zero,Nat.sub_zero];obtain ⟨e,_,O,put⟩:=o.f1;refine aP (O.st {x with values:=⟨x.values.base,b.length,x.values.cap⟩} (show (2:Nat)<=5 by decide) rfl λk2 P=> ?_);have o:=put _ _ P;refine aP (o.left.ld (shf:=af .i64) x.taken rfl ?_);refine H7 ?_;unfold BT;rw [B,Mu E];obtain ⟨e,_,R,put⟩:=o.f1;refine aP (R.st {x with values:=⟨x.values.base,b.length,x.values.cap⟩,taken:=more l.taken} (show (4:Nat)<=5 by decide) rfl λu S=> ?_);have o:=put _ _ S;refine aP (o.left.ld (shf:=au) x.waiters rfl ?_);have f:=o.right.right.jh;cases d:l.waiters with
  | nil=>
   rw [d] at f;rw [if_neg (show ¬(decide ((x.waiters.len:Int)>0))=true by simp at f;simp [f])];refine C y b u hv d (Has.j7 (x:={x with values:=⟨x.values.base,b.length,x.values.cap⟩,taken:=more l.taken}) ?_ p (by unfold dQ;rw [d]) (by unfold dQ;rw [d];exact r));have:dQ l={l with values:=b,taken:=more l.taken}:=by unfold dQ;rw [d,hv];rfl
   grind
  | cons w g=>
   rw [d] at f o;have f:x.waiters.len=g.length+1:=by simpa using f
   rw [if_pos (decide_eq_true (show (x.waiters.len:Int)>0 by omega))];refine aP (o.left.ld (shf:=au) x.waiters rfl ?_);have Ay:Rs u aH 2 x.waiters ((w::g).map pf):=(o.right.right.kM (λ_=>rfl)).map (enc:=λx=>bp (aH.enc x));refine Ay.get (λ_=>rfl) (by omega) (by omega) (by simp) λ(X:bJ) m=> ?_;have m:X=pf w:=by simpa using m.symm
   subst m;refine aP (o.left.ld (shf:=au) x.waiters rfl ?_);refine aP (o.left.ld (shf:=au) x.waiters rfl ?_);refine aP (o.left.ld (shf:=au) x.waiters rfl ?_);have G:=o.right.right.we;refine ⟨by omega,aJ ?_⟩;rw [Int.toNat_natCast];obtain ⟨e,_,T,put⟩:=o.f3;have U:=T.qJ (λ_=>rfl) (c:=x.waiters.len) (Nat.le_refl _) G;have o:=put _ _ U;obtain ⟨e,_,V,put⟩:=o.f1;refine aP (V.st {x with values:=⟨x.values.base,b.length,x.values.cap⟩,taken:=more l.taken,waiters:=⟨be x.waiters.base 2 1 x.waiters.len,x.waiters.len-1,x.waiters.len-1⟩} (show (3:Nat)<=5 by decide) rfl λk4 K=> ?_);have o:=put _ _ K;refine aP (o.left.ld (shf:=au) ⟨x.values.base,b.length,x.values.cap⟩ rfl ?_);refine mL (xs:=[w.value]) (sz:=1) (enc:=fE) rfl (λ_=>rfl) λa k5 F I=> ?_;have o:=o.grow F;refine ⟨⟨?_,trivial⟩,?_⟩
   ·exact (Has.left o).fb (n:=1) rfl
   obtain ⟨e,_,L,put⟩:=o.f2;refine L.app (I.kM (λ_=>rfl)) (λ_=>rfl) (λ_=>rfl) rfl ⟨by simp at i ⊢;omega,by simp at i ⊢;omega⟩ λz k6 M=> ?_;have o:=put _ _ M;obtain ⟨e,_,N,put⟩:=o.f1;refine aP (N.st {x with values:=z,taken:=more l.taken,waiters:=⟨be x.waiters.base 2 1 x.waiters.len,x.waiters.len-1,x.waiters.len-1⟩} (show (2:Nat)<=5 by decide) rfl λH a8=> ?_);refine D y b w g H hv d (Has.j7 (x:={x with values:=z,taken:=more l.taken,waiters:=⟨be x.waiters.base 2 1 x.waiters.len,x.waiters.len-1,x.waiters.len-1⟩}) ?_ p (by unfold dQ;rw [d]) (by unfold dQ;rw [d];exact r));have:dQ l={values:=b++ [w.value],waiters:=g,taken:=more l.taken,dropped:=l.dropped}:=by unfold dQ;rw [d,hv];rfl
   grind
end
theorem cV {P:Program} {g:FuncId} {first captured:Array Value} {args:List Value} {sh:Shape} {K:sh.T->Hp->Prop} {h:Hp} (b:tb.call g=true) (a:aa P g (first.toList++args++captured.toList) sh K h):gK P tb (.func (.func g) first captured) args sh K h:=
 ⟨g,first,captured,rfl,b,a⟩
def nG (p:Int) (a:List mU):Int:=je (λw=>decide (w.proc=p)) a
def pQ (v:Int) (xs:List Int):Int:=je (λz=>decide (z=v)) xs
theorem PW {k:Hp} {s:Sl} {b:List mU} {a:Addr} {p:Int} {Q:Int->Hp->Prop} (r:Rw k 2 eW s b) (u:b.length<=1000000) (o:bf k a [.int .i64 p]) (m:Q (nG p b) k):
  P3 prog s ⟨NL, #[], #[.pointer (some a)]⟩ Q k:=by
 unfold P3;have v:=r.1;have r:Rs k aH 2 s (b.map pf):=r.map (enc:=λx=>bp (aH.enc x));refine aA.intro (λi t=>t=k/\0<=i/\i<=(b.length:Int)/\∀(j:Nat) y,j<i.toNat->b[j]? =some y->decide (y.proc=p)=false) (λi _=>(b.length-i).toNat) ⟨rfl,by omega,by omega,λj y c=>by simp at c⟩ ?_;rintro i _ ⟨rfl,q,z,l⟩;by_cases n:i<(b.length:Int)
 ·rw [if_pos (iV)];refine r.get (λ_=>rfl) (by omega) q (by grind) λ(x:bJ) h=> ?_;rw [List.getElem?_map] at h;cases d:b[i.toNat]? with
  | none=>grind
  | some w=>
   rw [d] at h;have h:x=pf w:=by grind
   subst h;refine cV (g:=NL) rfl (zxo ?_);unfold zry;refine cT (sh:=af .i64) p o ?_;dsimp only;by_cases e:w.proc=p
   ·rw [if_pos (show ((pf w).dp==p)=true by unfold pf;simp [e])];have:nG p b=i:=by have:=Ih (f:=λw=>decide (w.proc=p)) d (by simp [e]) l;unfold nG;rw [this];omega
    grind
   ·rw [if_neg (show ¬((pf w).dp==p)=true by unfold pf;simp [e]),aT];grind
 ·rw [if_neg (λe=>n (by have:=of_decide_eq_true e;omega))];have:nG p b= -1:=ym λw d=>by obtain ⟨j,c⟩:=List.getElem?_of_mem d;have:=(List.getElem?_eq_some_iff.1 c).1;exact l j w (by omega) c
  rw [this] at m;exact m
theorem K8 {k:Hp} {s:Sl} {a:List Int} {v:Int} {Q:Int->Hp->Prop} (r:Rw k 1 fE s a) (p:a.length<=1000000) (g:Q (pQ v a) k):TU prog s v Q k:=by
 unfold TU;have q:=r.1;have r:Rs k (af .i64) 1 s a:=r;refine aA.intro (λi o=>o=k/\0<=i/\i<=(a.length:Int)/\∀(j:Nat) y,j<i.toNat->a[j]? =some y->decide (y=v)=false) (λi _=>(a.length-i).toNat) ⟨rfl,by omega,by omega,λj y b=>by simp at b⟩ ?_;rintro i _ ⟨rfl,n,t,d⟩;by_cases c:i<(a.length:Int)
 ·rw [if_pos (iV)];refine r.get (λ_=>rfl) (by omega) n c λ(x:Int) m=> ?_;by_cases e:x=v
  ·rw [if_pos (show (v==x)=true by simp [e])];have:pQ v a=i:=by have:=Ih (f:=λz=>decide (z=v)) m (by simp [e]) d;unfold pQ;rw [this];omega
   grind
  ·rw [if_neg (show ¬(v==x)=true by simp;exact λh=>e h.symm),aT];grind
 ·rw [if_neg (λe=>c (by have:=of_decide_eq_true e;omega))];have:pQ v a= -1:=ym λw l=>by obtain ⟨j,b⟩:=List.getElem?_of_mem l;have:=(List.getElem?_eq_some_iff.1 b).1;exact d j w (by omega) b
  rw [this] at g;exact g
theorem RG {a:Type} {f:a->Bool} {xs:List a}:0<=je f xs↔∃x∈xs,f x=true:=by
 constructor
 ·intro h;refine Classical.byContradiction λd=> ?_;rw [ym λx b=>by
   grind] at h
  omega
 ·rintro ⟨x,b,c⟩;unfold je;grind
theorem I6 {k:Hp} {s:Sl} {a:List Int} {v:Int} {Q:Bool->Hp->Prop} (r:Rw k 1 fE s a) (b:a.length<=1000000) (d:Q (decide (v∈a)) k):RO prog s v Q k:=by
 unfold RO;refine zlf (K8 r b ?_);have:decide (pQ v a>=0)=decide (v∈a):=by have:(pQ v a>=0)↔v∈a:=(RG (f:=λz=>decide (z=v))).trans ⟨λ⟨x,c,e⟩=>(of_decide_eq_true e)▸c,λh=>⟨v,h,(by simp)⟩⟩;simp only [this]
 grind
section
variable {h0 k:Hp} {q:Addr} {room:Int} {l:bq}
theorem Mw {p:Int} {Q:Int->Hp->Prop} (o:Has h0 (dL q room l) k) (d:l.waiters.length<=1000000) (i:∀b,Has h0 (dL q room l) b->Q (nG p l.waiters) b):Xa prog (some q) p Q k:=by
 unfold Xa;refine mL (xs:=[p]) (sz:=1) (enc:=fE) rfl (λ_=>rfl) λa j g n=> ?_;have o:=o.grow g;obtain ⟨x,_,_,_,c⟩:=o.bz;refine aP (c.left.ld (shf:=au) x.waiters rfl ?_);refine zhc (f:=⟨NL, #[], #[.pointer (some a)]⟩) (PW (p:=p) (c.right.right.kM (λ_=>rfl)) d ?_ (i j o));obtain ⟨_,h⟩:=n.kM (λ_=>rfl);rcases h.2 with e | ⟨m,r,s⟩
 ·simp at e
 grind
theorem RI {p v:Int} {Q:Int->Hp->Prop} (o:Has h0 (dL q room l) k) (z:l.waiters.length<=100) (g:room<=(l.values.length:Int)) (h:∀w∈l.waiters,w.proc≠p) (i:∀a,Has h0 (dL q room (im p v l)) a->Q 0 a):Xr prog (some q) p v Q k:=by
 unfold Xr;refine zsd (Ii o ?_);rw [if_neg (by simp;exact g)];refine zql (Mw o (by omega) λA o=> ?_);have:nG p l.waiters= -1:=ym λw j=>by simp [h w j]
 rw [this,if_neg (by decide)];obtain ⟨x,c,d,f,o⟩:=o.bz;refine aP (o.left.ld (shf:=au) x.waiters rfl ?_);obtain ⟨u,_,n,put⟩:=o.f3;refine n.push (e:=⟨p,v⟩) rfl (λ_=>rfl) (λ_=>rfl) rfl ⟨by omega,by omega⟩ λb B r=> ?_;have o:=put _ _ r;obtain ⟨y,_,s,put⟩:=o.f1;refine aP (s.st {x with waiters:=b} (show (3:Nat)<=5 by decide) rfl λm t=> ?_);exact i m (Has.j7 (x:={x with waiters:=b}) (put _ _ t) c d f)
def sf (p:Int) (l:bq):bq:={l with waiters:=iL (λw=>decide (w.proc=p)) l.waiters}
theorem PX {p:Int} {Q:Bool->Hp->Prop} (o:Has h0 (dL q room l) k) (K:l.waiters.length<=100) (g:∀b a,Has h0 (dL q room (sf p l)) a->Q b a):W8 prog (some q) p Q k:=by
 unfold W8;refine zql (Mw o (by omega) λi o=> ?_);have A:=Zb (λw:mU=>decide (w.proc=p)) l.waiters;by_cases hp:nG p l.waiters<0
 ·rw [if_pos (decide_eq_true hp)];refine g false i ?_;have:sf p l=l:=by unfold sf;rw [A,if_neg (show ¬0<=je (λw:mU=>decide (w.proc=p)) l.waiters by unfold nG at hp;omega)]
  rw [this];exact o
 ·rw [if_neg (λh=>hp (of_decide_eq_true h))];have t:0<=nG p l.waiters:=by omega
  have L:nG p l.waiters<l.waiters.length:=Ig t;obtain ⟨x,j,r,s,o⟩:=o.bz;refine aP (o.left.ld (shf:=au) x.waiters rfl ?_);obtain ⟨u,_,F,put⟩:=o.f3;have C:prog.underlying 132=some (.slice 192):=bG.bO 132 uk rfl;obtain ⟨n,f⟩:∃n:Nat,nG p l.waiters=n:=⟨(nG p l.waiters).toNat,by omega⟩;have B:∀(d:Sl->Hp->Prop),(∀c a,Has u (dU 2 eW c (l.waiters.take n++l.waiters.drop (n+1))) a->d c a)->Qh prog x.waiters (n:Int) ((n+1:Nat):Int) d i:=λd y=>by
   unfold Qh;exact Has.FW (bytes:=16) (z:=.agg #[.int .i64 0,.int .i64 0]) C (λv=>C5 bG (e:=wv) rfl v) (λ_=>rfl) (λ_=>rfl) rfl (λm=>by induction m with
    | zero=>rfl
    | succ m D=>exact D) F (by omega) (by omega) ⟨by omega,by omega⟩ y
  rw [f,aT];refine zin (B _ λc N G=> ?_);have o:=put _ _ G;obtain ⟨J,_,H,put⟩:=o.f1;refine aP (H.st {x with waiters:=c} (show (3:Nat)<=5 by decide) rfl λE I=> ?_);refine g true E (Has.j7 (x:={x with waiters:=c}) ?_ j r s);have:(sf p l).waiters=l.waiters.take n++l.waiters.drop (n+1):=by show iL (λw=>decide (w.proc=p)) l.waiters=_;have M:je (λw:mU=>decide (w.proc=p)) l.waiters=n:=f;grind
  rw [this];exact put _ _ I
def uK (l:bq):bq:={l with waiters:=[]}
theorem T2 {Q:Sl->Hp->Prop} (o:Has h0 (dL q room l) k) (i:∀s b,Has h0 ((dL q room (uK l)).star (dU 2 eW s l.waiters)) b->Q s b):XQ prog (some q) Q k:=by unfold XQ;obtain ⟨x,e,f,g,o⟩:=o.bz;refine aP (o.left.ld (shf:=au) x.waiters rfl ?_);refine aP (o.left.ld (shf:=au) x.waiters rfl ?_);refine aP (o.left.ld (shf:=au) x.waiters rfl ?_);have z:=o.right.right.jh;have h:=o.right.right.we;refine ⟨by omega,aJ ?_⟩;rw [Int.toNat_natCast];obtain ⟨v,_,j,put⟩:=o.f3;have d:=j.xO (λ_=>rfl) (n:=x.waiters.len) (c:=x.waiters.len) (by omega) (Nat.le_refl _) h;rw [List.take_of_length_le (by omega)] at d;have o:=put _ _ d;obtain ⟨w,_,m,put⟩:=o.f1;refine aP (m.st {x with waiters:=⟨none,0,0⟩} (show (3:Nat)<=5 by decide) rfl λa p=> ?_);have o:=put _ _ p;refine i _ a ?_;have u:=o.vy;obtain ⟨y,_,r,_,put⟩:=u.fst;have nil:Has a (dU 2 eW (⟨none,0,0⟩:Sl) ([]:List mU)) a:=Has.ku (Hp.le_refl _);have t:=(r.beside nil).assoc;exact put _ _ (Has.j7 (l:=uK l) (x:={x with waiters:=⟨none,0,0⟩}) t e f g)
end
end Lf
namespace Go.Proofs
open Go.Shelf
def Tryz.rM :Go.Shelf.Ren:=⟨λ| 144=>196 | 143=>215 | 219=>224 | 217=>225 | 225=>226 | 224=>227 | 267=>228 | 266=>229 | 314=>230 | n=>n,λ| 9=>9 | 4=>4 | 3=>3 | 5=>5 | 46=>230 | 146=>296 | 51=>295 | n=>n,λ| 1=>1 | n=>n⟩
theorem Tryz.xV :Go.Proofs.Lays.n144 Tryz.prog Tryz.rM:={
 mixed:=by kernel_rfl
 f143:=Tryz.func215.trans (congrArg some (by kernel_rfl))
 f144:=Tryz.func196.trans (congrArg some (by kernel_rfl))
 f217:=Tryz.func225.trans (congrArg some (by kernel_rfl))
 f219:=Tryz.func224.trans (congrArg some (by kernel_rfl))
 f224:=Tryz.func227.trans (congrArg some (by kernel_rfl))
 f225:=Tryz.func226.trans (congrArg some (by kernel_rfl))
 f266:=Tryz.func229.trans (congrArg some (by kernel_rfl))
 f267:=Tryz.func228.trans (congrArg some (by kernel_rfl))
 f314:=Tryz.func230.trans (congrArg some (by kernel_rfl))
 t3:=Tryz.underlying3
 a3:=Tryz.isAgg3
 z3:=Tryz.sizeOf3
 v3:=Tryz.zeroValue3
 t4:=Tryz.underlying4
 a4:=Tryz.isAgg4
 z4:=Tryz.sizeOf4
 v4:=Tryz.zeroValue4
 t5:=Tryz.underlying5
 a5:=Tryz.isAgg5
 z5:=Tryz.sizeOf5
 v5:=Tryz.zeroValue5
 t9:=Tryz.underlying9
 a9:=Tryz.isAgg9
 z9:=Tryz.sizeOf9
 v9:=Tryz.zeroValue9
 t46:=Tryz.underlying230
 a46:=Tryz.isAgg230
 z46:=Tryz.sizeOf230
 v46:=Tryz.zeroValue230
 t51:=Tryz.underlying295
 a51:=Tryz.isAgg295
 z51:=Tryz.sizeOf295
 v51:=Tryz.zeroValue295
 t146:=Tryz.underlying296
 a146:=Tryz.isAgg296
 z146:=Tryz.sizeOf296
 v146:=Tryz.zeroValue296
 g1:=by kernel_rfl}
open Go.RowKit Go.Lib in
theorem Tryz.strings_Contains_one (s:ByteArray) (c:UInt8) (w:World):
  Calls Tryz.prog 196 #[.string s,.string ⟨#[c]⟩] w λe a=>e=.returned (.bool (decide (0<=Lib.indexByte s.data.toList c)))/\a=w:=Any.strings_Contains_one Tryz.xV s c w
end Go.Proofs
namespace Lf
open Go
def mY (k:Hp) (R:List Nat):Hp:=λb=>if b∈R then none else k b
theorem VO {k:Hp} {R:List Nat}:mY k R<=k:=λb o e=>by unfold mY at e;grind
theorem RL {k:Hp} {R:List Nat} {b:Nat} (h:b∈R):mY k R b=none:=by unfold mY;rw [if_pos h]
theorem tz {k:Hp} {R:List Nat} {b:Nat} (h:b∉R):mY k R b=k b:=by unfold mY;rw [if_neg h]
theorem VP {d k:Hp} {R:List Nat} (a:d<=k) (c:∀b∈R,d b=none):d<=mY k R:=λb o e=>by rw [tz λhb=>by grind];exact a b o e
theorem Zg {h b:Hp} {a:Addr} (e:b a.block=h a.block):dd b a=dd h a:=by unfold dd;rw [e]
theorem Kk (a:Addr) (n:Nat):(a.add n).block=a.block:=by unfold Addr.add;split<;>rfl
theorem PY {h b:Hp} {a:Addr} {c:List Value} (l:bf h a c) (e:b a.block=h a.block):bf b a c:=λi v hv=>by have:dd b (a.add i)=dd h (a.add i):=Zg (a:=a.add i) (by rw [Kk];exact e);rw [this];exact l i v hv
section
variable {α:Type} {h c:Hp} {sz:Nat} {enc:α->List Value} {l:Sl} {xs:List α} {F:List Nat}
theorem Rw.same (r:Rw h sz enc l xs) (e:∀a,l.base=some a->c a.block=h a.block):Rw c sz enc l xs:=by obtain ⟨d,f,g⟩:=r;refine ⟨d,f,g.imp id ?_⟩;rintro ⟨a,b,i⟩;exact ⟨a,b,PY i (e a b)⟩
theorem Rw.nil {l:Sl} (a:l.len=0):Rw h sz enc l ([]:List α):=⟨a,(by simp),.inl (by simp)⟩
theorem du.grow (o:du h sz enc l xs F) (j:h<=c):du c sz enc l xs F:=by obtain ⟨h1,g,i⟩:=o;refine ⟨h1,g,i.imp id ?_⟩;rintro ⟨b,a,d,rfl,e,f⟩;exact ⟨b,a,d,rfl,e.le j,f⟩
theorem du.cut {R:List Nat} (o:du h sz enc l xs F) (a:∀b∈F,b∉R):du (mY h R) sz enc l xs F:=o.same λb hb=>tz (a b hb)
theorem du.base (o:du h sz enc l xs F) {a:Addr} (d:l.base=some a):F=[a.block]:=by obtain ⟨_,_,b⟩:=o;grind
end
theorem X9 {h:Hp} {a:Addr} {v:Value} (e:dd h a=some v):∃o,h a.block=some o:=by unfold dd at e;grind
section
variable {α:Type} {h b:Hp} {sz:Nat} {enc:α->List Value} {l:Sl} {xs:List α} {F c:List Nat}
theorem Rw.known (r:Rw h sz enc l xs) {a:Addr} (j:l.base=some a) (d:xs.length*sz≠0):h a.block≠none:=by
 obtain ⟨n,g,i⟩:=r;obtain ⟨m,e,k⟩:=i.resolve_left d;rw [j] at e;cases e;have p:(xs.flatMap enc).length≠0:=by rw [g];exact d
 obtain ⟨v,hv⟩:∃v,(xs.flatMap enc)[0]? =some v:=⟨(xs.flatMap enc)[0]'(by omega),List.getElem?_eq_getElem (by omega)⟩;obtain ⟨o,f⟩:=X9 (k 0 v hv);rw [Kk] at f;rw [f];simp
end
end Lf
namespace Lf
abbrev D (α:Type):Type:=List UInt8->Nat->Except (Int×Nat) (α×Nat)
namespace D
variable {α β:Type}
def ret (x:α):D α:=λ_ at_=>.ok (x,at_)
def bind (d:D α) (f:α->D β):D β:=λb at_=>match d b at_ with
 | .ok (x,a)=>f x b a
 | .error e=>.error e
def num (k:Nat):D Nat:=λb at_=>if b.length<at_+k then .error (5,b.length) else .ok (il ((b.drop at_).take k),at_+k)
def dH (d:D α) (wrong:α->Int):D α:=λb at_=>match d b at_ with
 | .ok (x,a)=>if wrong x=0 then .ok (x,a) else .error (wrong x,at_)
 | .error e=>.error e
def many (d:List α->D α):Nat->List α->D (List α)
 | 0,a=>ret a
 | n+1,a=>bind (d a) λx=>many d n (a++ [x])
def map (f:α->β) (d:D α):D β:=bind d λx=>ret (f x)
structure kC (d:D α) (enc:α->List UInt8) (valid:α->Prop):Prop where
 back:∀x,valid x->∀u t,d (u++(enc x++t)) u.length=.ok (x,u.length+(enc x).length)
 sound:∀b at_ x at2,d b at_=.ok (x,at2)->at_<=b.length->valid x/\at2=at_+(enc x).length/\∃t,b.drop at_=enc x++t
 cut:∀x,valid x->∀u t r,enc x=t++r->r≠ []->d (u++t) u.length=.error (5,u.length+t.length)
theorem kC.within {d:D α} {enc:α->List UInt8} {f:α->Prop} (L:kC d enc f) {b:List UInt8} {at_ a:Nat} {x:α} (h:d b at_=.ok (x,a)) (c:at_<=b.length):a<=b.length:=by obtain ⟨_,g,t,e⟩:=L.sound b at_ x a h c;have:=congrArg List.length e;grind
theorem Eb (k:Nat):kC (num k) (λn=>cW (n:Int) k) (λn=>n<256^k) where
 back:=λx f u t=>by
  unfold num;have a:=mh (x:Int) k;rw [if_neg (by simp [a])];have e:((u++(cW (x:Int) k++t)).drop u.length).take k=cW (x:Int) k:=by rw [List.drop_left,List.take_left' a]
  rw [e];have c:=wB (x:Int) k;have d:(x:Int)%((256^k:Nat):Int)=(x:Int):=Int.emod_eq_of_lt (by omega) (by exact_mod_cast f);grind
 sound:=λb at_ x l h m=>by
  unfold num at h;by_cases g:b.length<at_+k
  ·grind
  ·rw [if_neg g] at h;cases h;have a:((b.drop at_).take k).length=k:=by grind
   have c:=yZ ((b.drop at_).take k);rw [a] at c;have d:=En ((b.drop at_).take k);rw [a] at d;refine ⟨c,by rw [mh],(b.drop at_).drop k,?_⟩;rw [d,List.take_append_drop]
 cut:=λx f u t r i j=>by unfold num;have a:=mh (x:Int) k;rw [i,List.length_append] at a;have:0<r.length:=List.length_pos_iff.2 j;grind
theorem mJ (x:α):kC (ret x) (λ_=> []) (λy=>y=x) where
 back:=λy d u t=>by subst d;rfl
 sound:=λb at_ y e h _=>by cases h;simp
 cut:=λy _ u t r a c=>by exact absurd (List.append_eq_nil_iff.1 a.symm).2 c
theorem Ij {γ:Type} {d1:D α} {d2:α->D β} {d:α->List UInt8} {l:α->β->List UInt8} {v1:α->Prop} {w:α->β->Prop} (f:α->β->γ) (g:γ->α×β) (I:∀x y,v1 x->w x y->g (f x y)=(x,y)) (N:∀z,f (g z).1 (g z).2=z)
  (j:kC d1 d v1) (n:∀x,v1 x->kC (d2 x) (l x) (w x)):
  kC (bind d1 λx=>bind (d2 x) λy=>ret (f x y)) (λz=>d (g z).1++l (g z).1 (g z).2) (λz=>v1 (g z).1/\w (g z).1 (g z).2) where
 back:=λz v u t=>by obtain ⟨c,i⟩:=v;have a:=j.back _ c u (l (g z).1 (g z).2++t);have b:=(n _ c).back _ i (u++d (g z).1) t;rw [List.append_assoc] at b;simp only [bind];rw [List.append_assoc,a];dsimp only;rw [List.length_append] at b;rw [b];dsimp only [ret];grind
 sound:=λb at_ z M h A=>by
  simp only [bind] at h;cases c:d1 b at_ with
  | error e=>grind
  | ok p=>
   obtain ⟨x,a1⟩:=p;rw [c] at h;dsimp only at h;obtain ⟨o,F,t1,G⟩:=j.sound b at_ x a1 c A;cases i:d2 x b a1 with
   | error e=>grind
   | ok q=>obtain ⟨y,a2⟩:=q;rw [i] at h;dsimp only [ret] at h;cases h;obtain ⟨C,O,t2,E⟩:=(n x o).sound b a1 y _ i (j.within c A);rw [I x y o C];dsimp only;refine ⟨⟨o,C⟩,by rw [List.length_append];omega,t2,?_⟩;rw [F] at E;rw [<-List.drop_drop,G,List.drop_left] at E;grind
 cut:=λz v u t r m L=>by
  obtain ⟨c,i⟩:=v;simp only [bind];by_cases J:t.length<(d (g z).1).length
  · -- cut in the first
   obtain ⟨k,B⟩:∃k,d (g z).1=t++k:=by have hp:t<+:d (g z).1:=List.prefix_of_prefix_length_le ⟨r,m.symm⟩ (List.prefix_append _ _) (Nat.le_of_lt J);obtain ⟨k,B⟩:=hp;grind
   have K:k≠ []:=λe=>by grind
   rw [j.cut _ c u t k B K]
  ·obtain ⟨t2,s⟩:∃t2,t=d (g z).1++t2:=by have hp:d (g z).1<+:t:=List.prefix_of_prefix_length_le (List.prefix_append _ _) ⟨r,m.symm⟩ (by omega);obtain ⟨t2,s⟩:=hp;exact ⟨t2,s.symm⟩
   subst s;have H:l (g z).1 (g z).2=t2++r:=by rw [List.append_assoc] at m;exact List.append_cancel_left m
   have a:=j.back _ c u t2;rw [a];dsimp only;have b:=(n _ c).cut _ i (u++d (g z).1) t2 r H L;grind
theorem fq {d:D α} {enc:α->List UInt8} {i:α->Prop} (L:kC d enc i) (c:α->Int):kC (dH d c) enc (λx=>i x/\c x=0) where
 back:=λx a u t=>by simp only [dH,L.back x a.1 u t,if_pos a.2]
 sound:=λb at_ x j h n=>by
  simp only [dH] at h;cases f:d b at_ with
  | error e=>grind
  | ok p=>
   obtain ⟨y,a1⟩:=p;rw [f] at h;dsimp only at h;by_cases g:c y=0
   ·rw [if_pos g] at h;cases h;obtain ⟨k,l,m⟩:=L.sound b at_ x j f n;exact ⟨⟨k,g⟩,l,m⟩
   grind
 cut:=λx a u t r o q=>by simp only [dH,L.cut x a.1 u t r o q]
theorem kC.congr {d:D α} {enc enc':α->List UInt8} {c valid':α->Prop} (L:kC d enc c) (hv:∀x,c x↔valid' x) (e:∀x,c x->enc x=enc' x):kC d enc' valid' where
 back:=λx a u t=>by have a:=(hv x).2 a;rw [<-e x a];exact L.back x a u t
 sound:=λb at_ x g h i=>by obtain ⟨k,l,m⟩:=L.sound b at_ x g h i;grind
 cut:=λx a u t r f j=>by have a:=(hv x).2 a;rw [<-e x a] at f;exact L.cut x a u t r f j
theorem zo {d:D α} {enc:α->List UInt8} {g:α->Prop} (h:α->β) {enc':β->List UInt8} {valid':β->Prop} (L:kC d enc g) (hv:∀y,valid' y↔∃x,g x/\h x=y) (j:∀x,g x->enc' (h x)=enc x):kC (map h d) enc' valid' where
 back:=λy f u t=>by obtain ⟨x,a,rfl⟩:=(hv y).1 f;rw [j x a];simp only [map,bind,L.back x a u t];rfl
 sound:=λb at_ y n c l=>by
  simp only [map,bind] at c;cases i:d b at_ with
  | error e=>grind
  | ok p=>obtain ⟨x,a1⟩:=p;rw [i] at c;dsimp only [ret] at c;cases c;obtain ⟨o,q,s⟩:=L.sound b at_ x _ i l;grind
 cut:=λy f u t r k m=>by obtain ⟨x,a,rfl⟩:=(hv y).1 f;rw [j x a] at k;simp only [map,bind,L.cut x a u t r k m]
def fz (v:List α->α->Prop):List α->List α->Prop
 | _,[]=>True
 | acc,x::r=>v acc x/\fz v (acc++ [x]) r
theorem Ik (a:D α) (c:α->D β):map (λz:α×β=>z.2) (bind a λx=>bind (c x) λy=>ret (x,y))=bind a c:=by
 funext b at_;simp only [map,bind];cases a b at_ with
 | error e=>rfl
 | ok p=>
  obtain ⟨x,a1⟩:=p;dsimp only;cases c x b a1 with
  | error e=>rfl
  | ok q=>rfl
theorem Mx {d:List α->D α} {e:α->List UInt8} {v:List α->α->Prop} (L:∀a,kC (d a) e (v a)):∀(n:Nat) (a:List α),
  kC (many d n a) (λz=>(z.drop a.length).flatMap e) (λz=>∃b,z=a++b/\b.length=n/\fz v a b)
 | 0,a=>by
  refine (mJ a).congr (λz=>⟨λh=>⟨[],by rw [h,List.append_nil],rfl,trivial⟩,?_⟩) λz h=> ?_
  ·rintro ⟨b,rfl,c,_⟩;rw [List.length_eq_zero_iff.1 c,List.append_nil]
  grind
 | n+1,a=>by
  have h:=Ij (γ:=α×List α) (d1:=d a) (d2:=λx=>many d n (a++ [x])) Prod.mk id (λ_ _ _ _=>rfl) (λ_=>rfl) (L a) λx _=>Mx L n (a++ [x]);have g:=zo (h:=λz:α×List α=>z.2) (enc':=λz=>(z.drop a.length).flatMap e) (valid':=λz=>∃b,z=a++b/\b.length=n+1/\fz v a b) h (λy=>⟨?_,?_⟩) ?_
  ·rw [Ik] at g;exact g
  ·rintro ⟨b,rfl,c,i⟩;cases b with
   | nil=>simp at c
   | cons x r=>exact ⟨(x,a++x::r),⟨i.1,r,by simp,by simpa using c,i.2⟩,rfl⟩
  ·rintro ⟨⟨x,z⟩,⟨j,r,f,k,l⟩,rfl⟩;have f:z=a++ [x]++r:=f;refine ⟨x::r,by simp [f],by simp [k],j,l⟩
  grind
end D
end Lf
namespace Lf
namespace D
variable {α γ:Type}
theorem mI {d:D α} {d2:α->D γ} {c:α->List UInt8} {e2:α->γ->List UInt8} {v1:α->Prop} {v2:α->γ->Prop} (g:γ->α) (j:∀x z,v1 x->v2 x z->g z=x)
  (f:kC d c v1) (i:∀x,v1 x->kC (d2 x) (e2 x) (v2 x)):kC (bind d d2) (λz=>c (g z)++e2 (g z) z) (λz=>v1 (g z)/\v2 (g z) z):=by
 have h:=Ij (γ:=α×γ) Prod.mk id (λ_ _ _ _=>rfl) (λ_=>rfl) f i;have e:=zo (h:=λz:α×γ=>z.2) (enc':=λz=>c (g z)++e2 (g z) z) (valid':=λz=>v1 (g z)/\v2 (g z) z) h (λy=>⟨?_,?_⟩) ?_
 ·rw [Ik] at e;exact e
 ·rintro ⟨a,b⟩;exact ⟨(g y,y),⟨a,b⟩,rfl⟩
 ·rintro ⟨⟨x,z⟩,⟨a,b⟩,rfl⟩;have a:v1 x:=a;have b:v2 x z:=b;show v1 (g z)/\v2 (g z) z;rw [j x z a b];exact ⟨a,b⟩
 grind
theorem eT {a:D α} {b:α->D γ} {c:α->List UInt8} {v1:α->Prop} {E:γ->List UInt8} {P W:γ->Prop} (g:γ->α)
  (d:kC a c v1) (e:∀x,v1 x->kC (b x) E (λz=>(g z=x/\P z)/\W z)):kC (bind a b) (λz=>c (g z)++E z) (λz=>P z/\(v1 (g z)/\W z)):=by
 have h:=mI (e2:=λ_=>E) (v2:=λx z=>(g z=x/\P z)/\W z) g (λx z _ h=>h.1.1) d e;grind
theorem lj {c:D Int} {d:Int->List α->D α} {f:Int->List α->D γ} {i:Int->List UInt8} {v1:Int->Prop} {e:α->List UInt8} {v:Int->List α->α->Prop} {E:γ->List UInt8} {P W:γ->Prop} (g:γ->List α)
  (m:∀n,v1 n->0<=n) (j:kC c i v1) (L:∀n b,kC (d n b) e (v n b)) (k:∀n l,(l.length:Int)=n->kC (f n l) E (λz=>(g z=l/\P z)/\W z)):
  kC (bind c λn=>bind (many (d n) n.toNat []) λl=>f n l) (λz=>i (g z).length++((g z).flatMap e++E z)) (λz=>P z/\(v1 (g z).length/\(fz (v (g z).length) [] (g z)/\W z))):=by
 refine eT (λz=>((g z).length:Int)) j λn p=> ?_;have o:∀l:List α,(∃a,l=[]++a/\a.length=n.toNat/\fz (v n) [] a)->(l.length:Int)=n:=by rintro l ⟨a,rfl,r,_⟩;have:=m n p;omega
 have h:=mI (e2:=λ_=>E) (v2:=λl z=>(g z=l/\P z)/\W z) g (λx z _ h=>h.1.1) (Mx (L n) n.toNat []) λl q=>k n l (o l q);grind
def jG (d:D α) (a:α->Int×Int):D α:=λb at_=>match d b at_ with
 | .ok (x,c)=>if (a x).1=0 then .ok (x,c) else .error ((a x).1,at_+(a x).2.toNat)
 | .error e=>.error e
theorem sO {d:D α} {enc:α->List UInt8} {i:α->Prop} (L:kC d enc i) (c:α->Int×Int):kC (jG d c) enc (λx=>i x/\(c x).1=0) where
 back:=λx a u t=>by simp only [jG,L.back x a.1 u t,if_pos a.2]
 sound:=λb at_ x j h n=>by
  simp only [jG] at h;cases f:d b at_ with
  | error e=>grind
  | ok p=>
   obtain ⟨y,a1⟩:=p;rw [f] at h;dsimp only at h;by_cases g:(c y).1=0
   ·rw [if_pos g] at h;cases h;obtain ⟨k,l,m⟩:=L.sound b at_ x j f n;exact ⟨⟨k,g⟩,l,m⟩
   grind
 cut:=λx a u t r o q=>by simp only [jG,L.cut x a.1 u t r o q]
end D
open D
def i64 (n:Nat):Int:=if n<9223372036854775808 then n else (n:Int)-18446744073709551616
def pB (x:Int):Prop:= -9223372036854775808<=x/\x<9223372036854775808
theorem T3 :kC (map i64 (num 8)) (λx=>cW x 8) pB:=by
 refine zo i64 (Eb 8) (λy=>⟨λh=> ?_,?_⟩) λx c=> ?_
 ·obtain ⟨d,e⟩:=h;refine ⟨(y%18446744073709551616).toNat,?_,?_⟩
  ·omega
  ·unfold i64;split<;>omega
 ·rintro ⟨x,c,rfl⟩;have c:x<18446744073709551616:=c;unfold i64 pB;split<;>omega
 ·have c:x<18446744073709551616:=c;have key:∀(k:Nat) (a b:Int),a%((256^k:Nat):Int)=b%((256^k:Nat):Int)->cW a k=cW b k:=by
   intro k a b h;have d:=wB a k;have e:=wB b k;rw [h,<-e] at d;have i:il (cW a k)=il (cW b k):=by exact_mod_cast d
   have f:=En (cW a k);have g:=En (cW b k);rw [mh] at f g;grind
  refine key 8 _ _ ?_;show i64 x%18446744073709551616=(x:Int)%18446744073709551616;unfold i64;split<;>omega
def wq (n:Nat):Int:=n
theorem tG (k:Nat):kC (map wq (num k)) (λx=>cW x k) (λx=>0<=x/\x<((256^k:Nat):Int)):=
 zo wq (Eb k) (λy=>⟨λh=>⟨y.toNat,by omega,by unfold wq;omega⟩,by rintro ⟨x,a,rfl⟩;unfold wq;omega⟩) λx _=>rfl
def zD (k:Nat):D Int:=map wq (num k)
def q7 :D cX:=bind (zD 1) λop=>bind (zD 1) λa=>bind (zD 1) λb=>bind (zD 1) λc=>bind (map i64 (num 8)) λiQ=>ret ⟨op,a,b,c,iQ⟩
def pM (n ae:Int):D cX:=jG q7 λx=>jj x n ae
def dg (a b:Int) (n:Int):Int:=if within n a b then 0 else 2
def fJ (iA:Int) (n:Int):Int:=if n=0 then 1 else if iA<n then 3 else 0
def nf (b:List Int) (a:Int):Int:=match b.getLast? with
 | none=>0
 | some l=>if a=l then 8 else if a<l then 7 else 0
def nw (parts ae:Int):D fG:=bind (dH (zD 1) (dg 0 (parts-1))) λpart=>bind (dH (zD 2) λn=>if 256<n then 3 else 0) λn=>
 bind (many (λ_=>pM n ae) n.toNat []) λcode=>ret ⟨part,code⟩
def nv :List UInt8->D Unit
 | []=>ret ()
 | c::r=>bind (dH (num 1) λn=>if n=c.toNat then 0 else 4) λ_=>nv r
def zQ :D aE:=bind (nv [70,66,67,70,1]) λ_=>bind (dH (zD 1) (fJ 8)) λnl=>bind (many (λa=>dH (zD 8) (nf a)) nl.toNat []) λlabels=>
 bind (dH (zD 1) (fJ 64)) λb=>bind (many (λ_=>dH (zD 1) (dg 0 (nl-1))) b.toNat []) λtable=>
 bind (dH (zD 2) (dg 1 256)) λfuel=>bind (dH (zD 1) (dg 1 64)) λlane=>bind (dH (zD 1) (dg 0 8)) λae=>bind (dH (zD 2) (dg 0 4096)) λlog=>
 bind (dH (zD 1) (fJ 32)) λnp=>bind (many (λ_=>nw nl ae) np.toNat []) λprocs=>ret ⟨labels,table,fuel,lane,ae,log,procs⟩
def uX {a:Type} (d:D a) (b:List UInt8):Except (Int×Nat) a:=
 if 1048576<b.length then .error (22,1048576) else match d b 0 with
  | .error e=>.error e
  | .ok (x,at_)=>if at_<b.length then .error (6,at_) else .ok x
def tr (b:List UInt8):Except (Int×Nat) aE:=uX zQ b
theorem My :∀m:List UInt8,kC (nv m) (λ_=>m) (λ_=>True)
 | []=>(mJ ()).congr (λ_=>by simp) λ_ _=>rfl
 | c::r=>by
  have a:∀(x:Nat) (z:Unit),(x<256^1/\(if x=c.toNat then (0:Int) else 4)=0)->True->c.toNat=x:=λx z a _=>by omega
  have h:=mI (g:=λ_:Unit=>c.toNat) (d2:=λ_=>nv r) (e2:=λ_ _=>r) (v2:=λ_ _=>True) a (fq (Eb 1) λn=>if n=c.toNat then (0:Int) else 4) λ_ _=>My r
  ·refine h.congr (λ_=> ?_) λ_ _=> ?_
   ·simp;exact c.toNat_lt
   ·have:=En [c];simp only [il,List.length_cons,List.length_nil] at this;grind
theorem qN :D.kC q7 mF λx=>(0<=x.op/\x.op<256)/\(0<=x.a/\x.a<256)/\(0<=x.b/\x.b<256)/\(0<=x.c/\x.c<256)/\pB x.iQ:=by
 have h:=D.eT (P:=λ_=>True) (W:=λz=>(0<=z.a/\z.a<((256^1:Nat):Int))/\((0<=z.b/\z.b<((256^1:Nat):Int))/\((0<=z.c/\z.c<((256^1:Nat):Int))/\(pB z.iQ/\True)))) (E:=λz=>cW z.a 1++(cW z.b 1++(cW z.c 1++(cW z.iQ 8++ [])))) (λz:cX=>z.op) (tG 1) λop _=>
  D.eT (W:=λz=>(0<=z.b/\z.b<((256^1:Nat):Int))/\((0<=z.c/\z.c<((256^1:Nat):Int))/\(pB z.iQ/\True))) (E:=λz=>cW z.b 1++(cW z.c 1++(cW z.iQ 8++ []))) (λz:cX=>z.a) (tG 1) λa _=>
  D.eT (W:=λz=>(0<=z.c/\z.c<((256^1:Nat):Int))/\(pB z.iQ/\True)) (E:=λz=>cW z.c 1++(cW z.iQ 8++ [])) (λz:cX=>z.b) (tG 1) λb _=>
  D.eT (W:=λz=>pB z.iQ/\True) (E:=λz=>cW z.iQ 8++ []) (λz:cX=>z.c) (tG 1) λc _=>
  D.eT (W:=λz=>True) (E:=λz=> []) (λz:cX=>z.iQ) T3 λiQ _=>
  (D.mJ (⟨op,a,b,c,iQ⟩:cX)).congr (λz=>⟨λh=>by subst h;simp,λh=>by cases z;simp at h;simp [h]⟩) λ_ _=>rfl
 refine h.congr (λz=> ?_) λz _=> ?_
 ·simp
 ·simp [mF]
theorem C9 {b:Type} {V:b->Prop}:∀(l a:List b),fz (λ_ x=>V x) a l↔∀x∈l,V x
 | [],_=>by simp [fz]
 | x::r,a=>by simp [fz,C9 r]
def AV (x:cX):Prop:=(0<=x.op/\x.op<256)/\(0<=x.a/\x.a<256)/\(0<=x.b/\x.b<256)/\(0<=x.c/\x.c<256)/\pB x.iQ
def ri (parts ae:Int) (z:fG):Prop:=
 (0<=z.part/\z.part<256)/\dg 0 (parts-1) z.part=0/\z.code.length<=256/\∀x∈z.code,AV x/\(jj x z.code.length ae).1=0
theorem RN (parts ae:Int):D.kC (nw parts ae) gu (ri parts ae):=by
 have h:=D.eT (P:=λ_=>True) (W:=λz:fG=>((0<=(z.code.length:Int)/\(z.code.length:Int)<((256^2:Nat):Int))/\(if 256<(z.code.length:Int) then (3:Int) else 0)=0)/\(fz (λ_ x=>AV x/\(jj x z.code.length ae).1=0) [] z.code/\True))
  (E:=λz=>cW z.code.length 2++(z.code.flatMap mF++ [])) fG.part (D.fq (tG 1) (dg 0 (parts-1))) λpart _=>
  D.lj (d:=λn _=>pM n ae) (v:=λn _ x=>AV x/\(jj x n ae).1=0) (W:=λ_=>True) (E:=λ_=> []) fG.code (λn a=>a.1.1) (D.fq (tG 2) λn=>if 256<n then (3:Int) else 0)
   (λn _=>D.sO qN _) λn l _=>(D.mJ (⟨part,l⟩:fG)).congr (λz=>⟨λh=>by subst h;simp,λh=>by cases z;simp at h;simp [h]⟩) λ_ _=>rfl
 refine h.congr (λz=> ?_) λz _=> ?_
 ·rw [C9];unfold ri;grind
 ·simp [gu,ru]
end Lf
namespace Lf
open D (fz)
abbrev By (k:Nat) (x:Int):Prop:=0<=x/\x<((256^k:Nat):Int)
abbrev qe (nl ae:Int) (z:aE):Prop:=(By 2 z.log/\dg 0 4096 z.log=0)/\((By 1 z.procs.length/\fJ 32 z.procs.length=0)/\(fz (λ_ p=>ri nl ae p) [] z.procs/\True))
abbrev vk (nl:Int) (z:aE):Prop:=
 (By 1 z.table.length/\fJ 64 z.table.length=0)/\(fz (λ_ x=>By 1 x/\dg 0 (nl-1) x=0) [] z.table/\((By 2 z.fuel/\dg 1 256 z.fuel=0)/\((By 1 z.lane/\dg 1 64 z.lane=0)/\((By 1 z.ae/\dg 0 8 z.ae=0)/\qe nl z.ae z))))
abbrev vj (z:aE):Prop:=(By 1 z.labels.length/\fJ 8 z.labels.length=0)/\(fz (λb a=>By 8 a/\nf b a=0) [] z.labels/\vk z.labels.length z)
theorem Kl :D.kC zQ mz vj:=by
 have i:∀(labels table:List Int) (fuel lane:Int) (nl ae:Int),D.kC (D.bind (D.dH (zD 2) (dg 0 4096)) λlog=>D.bind (D.dH (zD 1) (fJ 32)) λnp=>D.bind (D.many (λ_=>nw nl ae) np.toNat []) λprocs=>D.ret (⟨labels,table,fuel,lane,ae,log,procs⟩:aE))
   (λz=>cW z.log 2++(cW z.procs.length 1++(z.procs.flatMap gu++ []))) (λz=>(z.ae=ae/\(z.lane=lane/\(z.fuel=fuel/\(z.table=table/\(z.labels=labels/\True)))))/\qe nl ae z):=λlabels table fuel lane nl ae=>
  D.eT (γ:=aE) (P:=λz=>z.ae=ae/\(z.lane=lane/\(z.fuel=fuel/\(z.table=table/\(z.labels=labels/\True))))) (W:=λz=>(By 1 z.procs.length/\fJ 32 z.procs.length=0)/\(fz (λ_ p=>ri nl ae p) [] z.procs/\True))
   (E:=λz=>cW z.procs.length 1++(z.procs.flatMap gu++ [])) aE.log (D.fq (tG 2) (dg 0 4096)) λlog _=>
   D.lj (γ:=aE) (d:=λ_ _=>nw nl ae) (v:=λ_ _ p=>ri nl ae p) (W:=λ_=>True) (E:=λ_=> []) aE.procs (λn c=>c.1.1) (D.fq (tG 1) (fJ 32)) (λ_ _=>RN nl ae) λn l _=>
   (D.mJ (⟨labels,table,fuel,lane,ae,log,l⟩:aE)).congr (λz=>⟨λh=>by subst h;simp,λh=>by cases z;simp at h;simp [h]⟩) λ_ _=>rfl
 have f:∀(labels:List Int) (nl:Int),D.kC (D.bind (D.dH (zD 1) (fJ 64)) λk=>D.bind (D.many (λ_=>D.dH (zD 1) (dg 0 (nl-1))) k.toNat []) λtable=>
   D.bind (D.dH (zD 2) (dg 1 256)) λfuel=>D.bind (D.dH (zD 1) (dg 1 64)) λlane=>D.bind (D.dH (zD 1) (dg 0 8)) λae=>D.bind (D.dH (zD 2) (dg 0 4096)) λlog=>
   D.bind (D.dH (zD 1) (fJ 32)) λnp=>D.bind (D.many (λ_=>nw nl ae) np.toNat []) λprocs=>D.ret (⟨labels,table,fuel,lane,ae,log,procs⟩:aE))
   (λz=>cW z.table.length 1++(z.table.flatMap (λa=>cW a 1)++(cW z.fuel 2++(cW z.lane 1++(cW z.ae 1++(cW z.log 2++(cW z.procs.length 1++(z.procs.flatMap gu++ []))))))))
   (λz=>(z.labels=labels/\True)/\vk nl z):=λlabels nl=>
  D.lj (γ:=aE) (d:=λ_ _=>D.dH (zD 1) (dg 0 (nl-1))) (v:=λ_ _ x=>By 1 x/\dg 0 (nl-1) x=0) (P:=λz=>z.labels=labels/\True)
   (W:=λz=>(By 2 z.fuel/\dg 1 256 z.fuel=0)/\((By 1 z.lane/\dg 1 64 z.lane=0)/\((By 1 z.ae/\dg 0 8 z.ae=0)/\qe nl z.ae z)))
   (E:=λz=>cW z.fuel 2++(cW z.lane 1++(cW z.ae 1++(cW z.log 2++(cW z.procs.length 1++(z.procs.flatMap gu++ [])))))) aE.table (λn c=>c.1.1) (D.fq (tG 1) (fJ 64)) (λ_ _=>D.fq (tG 1) (dg 0 (nl-1))) λn table _=>
   D.eT (γ:=aE) (W:=λz=>(By 1 z.lane/\dg 1 64 z.lane=0)/\((By 1 z.ae/\dg 0 8 z.ae=0)/\qe nl z.ae z)) (E:=λz=>cW z.lane 1++(cW z.ae 1++(cW z.log 2++(cW z.procs.length 1++(z.procs.flatMap gu++ []))))) aE.fuel (D.fq (tG 2) (dg 1 256)) λfuel _=>
   D.eT (γ:=aE) (W:=λz=>(By 1 z.ae/\dg 0 8 z.ae=0)/\qe nl z.ae z) (E:=λz=>cW z.ae 1++(cW z.log 2++(cW z.procs.length 1++(z.procs.flatMap gu++ [])))) aE.lane (D.fq (tG 1) (dg 1 64)) λlane _=>
   D.eT (γ:=aE) (W:=λz=>qe nl z.ae z) (E:=λz=>cW z.log 2++(cW z.procs.length 1++(z.procs.flatMap gu++ []))) aE.ae (D.fq (tG 1) (dg 0 8)) λae _=>
   (i labels table fuel lane nl ae).congr (λz=>and_congr_right λh=>by rw [h.1]) λ_ _=>rfl
 have e:=D.mI (g:=λ_:aE=>()) (v2:=λ_ z=>True/\vj z) (e2:=λ_ z=>cW z.labels.length 1++(z.labels.flatMap (λa=>cW a 8)++(cW z.table.length 1++(z.table.flatMap (λa=>cW a 1)++(cW z.fuel 2++(cW z.lane 1++(cW z.ae 1++(cW z.log 2++(cW z.procs.length 1++(z.procs.flatMap gu++ []))))))))))
  (λx z _ _=>rfl) (My [70,66,67,70,1]) λ_ _=>
  D.lj (γ:=aE) (d:=λ_ b=>D.dH (zD 8) (nf b)) (v:=λ_ b a=>By 8 a/\nf b a=0) (P:=λ_=>True) (W:=λz=>vk z.labels.length z)
   (E:=λz=>cW z.table.length 1++(z.table.flatMap (λa=>cW a 1)++(cW z.fuel 2++(cW z.lane 1++(cW z.ae 1++(cW z.log 2++(cW z.procs.length 1++(z.procs.flatMap gu++ [])))))))) aE.labels (λn c=>c.1.1) (D.fq (tG 1) (fJ 8)) (λ_ b=>D.fq (tG 8) (nf b)) λnl labels j=>
   (f labels nl).congr (λz=>and_congr_right λh=>by rw [h.1,j]) λ_ _=>rfl
 refine e.congr (λz=>by simp) λz _=> ?_;simp [mz]
end Lf
namespace Lf
open D (fz)
def less (n:Int):Int:=n-1
end Lf
namespace Lf
open D (fz)
theorem K9 {a:Type} {d:D a} {enc:a->List UInt8} {b:a->Prop} (L:D.kC d enc b) {x:a} (c:b x) (e:(enc x).length<=1048576):uX d (enc x)=.ok x:=by have h:=L.back x c [] [];rw [List.append_nil,List.nil_append] at h;unfold uX;grind
end Lf
namespace Lf
open D (fz)
theorem ee {a b n:Int}:dg a b n=0↔a<=n/\n<=b:=by unfold dg within;simp
theorem de {a b n:Int}:within n a b=true↔a<=n/\n<=b:=by unfold within;simp
theorem gD {a b n:Int}:within n a b=false↔¬(a<=n/\n<=b):=by rw [<-Bool.not_eq_true,de]
theorem gS {m n:Int}:fJ m n=0↔n≠0/\n<=m:=by unfold fJ;omega
theorem PZ {b:List Int} {a:Int}:nf b a=0↔∀x,b.getLast? =some x->x<a:=by unfold nf;grind
theorem CE :∀(l b:List Int),fz (λb a=>By 8 a/\nf b a=0) b l↔(∀a∈l,By 8 a)/\l.Pairwise (· < ·)/\∀x,b.getLast? =some x->∀a∈l,x<a
 | [],b=>by simp [fz]
 | a::r,b=>by
  have c:=CE r (b++ [a]);have d:(b++ [a]).getLast? =some a:=by simp
  simp only [fz];rw [c,PZ,List.pairwise_cons];grind
theorem nh {has:Bool} {n:Int}:di has n=0↔(has=false->n=0)/\0<=n/\n<8:=by unfold di;grind
theorem P0 {x:cX} {n ae:Int} (h:(jj x n ae).1=0):(0<=x.op/\x.op<34)/\(0<=x.a/\x.a<8)/\(0<=x.b/\x.b<8)/\(0<=x.c/\x.c<8):=by
 unfold jj at h;by_cases f:x.op<0\/34<=x.op
 ·grind
 rw [if_neg f] at h;by_cases d:di (iM x.op).1 x.a≠0
 ·grind
 rw [if_neg d] at h;by_cases e:di (iM x.op).2.1 x.b≠0
 ·grind
 rw [if_neg e] at h;by_cases g:di (iM x.op).2.2.1 x.c≠0
 ·grind
 have i:=(nh.1 (Decidable.not_not.1 d)).2;have j:=(nh.1 (Decidable.not_not.1 e)).2;have k:=(nh.1 (Decidable.not_not.1 g)).2;omega
theorem Km {n ae:Int}:∀ {l:List cX} {i:Int},(ko n ae l i).1=0↔∀x∈l,(jj x n ae).1=0
 | [],i=>by simp [ko]
 | x::r,i=>by
  simp only [ko];by_cases h:(jj x n ae).1=0
  ·rw [if_neg (λa=>a h),Km];simp [h]
  grind
theorem L8 {l:List cX} {ae:Int} (a:0<=ae/\ae<=8):(jJ l ae).1=0↔l.length<=256/\∀x∈l,(jj x l.length ae).1=0:=by
 unfold jJ;rw [pN];by_cases h:256<l.length
 ·grind
 ·rw [if_neg h,Km];grind
theorem JK {parts ae:Int}:∀ {l:List fG} {i:Int},(uz parts ae l i).1=0↔∀p∈l,(0<=p.part/\p.part<=parts-1)/\(jJ p.code ae).1=0
 | [],i=>by simp [uz]
 | p::r,i=>by
  simp only [uz];by_cases a:within p.part 0 (parts-1)=false
  ·rw [if_pos a];have:=gD.1 a;grind
  ·rw [if_neg a];have c:=de.1 (Bool.not_eq_false _▸a:within p.part 0 (parts-1)=true);by_cases b:(jJ p.code ae).1=0
   ·rw [if_neg (λd=>d b),JK];simp [b,c]
   grind
def Ac (l:List Int):Prop:=l≠ []/\l.length<=8/\l.Pairwise (· < ·)
def Typed (c:aE):Prop:=(∀a∈c.labels,By 8 a)/\∀p∈c.procs,∀x∈p.code,pB x.iQ
theorem jI {m:Int} {c:aE}:(sE m c).1=0↔m=0/\c.table≠ []/\c.table.length<=64/\(∀x∈c.table,0<=x/\x<=c.labels.length-1)/\(1<=c.fuel/\c.fuel<=256)/\(1<=c.lane/\c.lane<=64)/\(0<=c.ae/\c.ae<=8)/\
  (0<=c.log/\c.log<=4096)/\c.procs≠ []/\c.procs.length<=32/\∀p∈c.procs,(0<=p.part/\p.part<=c.labels.length-1)/\(jJ p.code c.ae).1=0:=by
 unfold sE;by_cases i:m=0
 case neg=>grind
 rw [if_neg (λo=>o i)];by_cases j:c.table=[]
 ·grind
 rw [if_neg j];by_cases k:64<c.table.length
 ·grind
 rw [if_neg k];by_cases g:c.table.all (λp=>within p 0 (c.labels.length-1))=false
 ·rw [if_pos g];refine ⟨λe=>(by cases e),λe=> ?_⟩;have:c.table.all (λp=>within p 0 (c.labels.length-1))=true:=List.all_eq_true.2 λx h=>de.2 (e.2.2.2.1 x h);grind
 rw [if_neg g];have q:∀x∈c.table,0<=x/\x<=c.labels.length-1:=λx h=>de.1 (List.all_eq_true.1 (Bool.not_eq_false _▸g:c.table.all (λp=>within p 0 (c.labels.length-1))=true) x h);by_cases a:within c.fuel 1 256=false
 ·rw [if_pos a];exact ⟨λe=>(by cases e),λe=>absurd e.2.2.2.2.1 (gD.1 a)⟩
 rw [if_neg a];have r:=de.1 (Bool.not_eq_false _▸a:within c.fuel 1 256=true);by_cases b:within c.lane 1 64=false
 ·rw [if_pos b];exact ⟨λe=>(by cases e),λe=>absurd e.2.2.2.2.2.1 (gD.1 b)⟩
 rw [if_neg b];have s:=de.1 (Bool.not_eq_false _▸b:within c.lane 1 64=true);by_cases d:within c.ae 0 8=false
 ·rw [if_pos d];exact ⟨λe=>(by cases e),λe=>absurd e.2.2.2.2.2.2.1 (gD.1 d)⟩
 rw [if_neg d];have t:=de.1 (Bool.not_eq_false _▸d:within c.ae 0 8=true);by_cases f:within c.log 0 4096=false
 ·rw [if_pos f];exact ⟨λe=>(by cases e),λe=>absurd e.2.2.2.2.2.2.2.1 (gD.1 f)⟩
 rw [if_neg f];have u:=de.1 (Bool.not_eq_false _▸f:within c.log 0 4096=true);by_cases l:c.procs=[]
 ·grind
 rw [if_neg l];by_cases n:32<c.procs.length
 ·grind
 rw [if_neg n,JK];grind
theorem RP {m:Int} {c:aE} (A:m=0↔Ac c.labels):Typed c/\(sE m c).1=0↔vj c:=by
 rw [jI,A];have h:∀ {o:Type} {V:o->Prop} {l:List o},fz (λ_ x=>V x) [] l↔∀x∈l,V x:=C9 _ _;constructor
 ·rintro ⟨⟨t1,t2⟩,⟨B,J,C⟩,a1,a2,a3,a4,a5,a6,a7,r,D,q⟩;have K:0<c.labels.length:=List.length_pos_iff.2 B;have L:0<c.table.length:=List.length_pos_iff.2 a1;have M:0<c.procs.length:=List.length_pos_iff.2 r;refine ⟨⟨⟨by omega,by omega⟩,gS.2 (by omega)⟩,(CE _ _).2 ⟨t1,C,λx a=>by cases a⟩,⟨⟨by omega,by omega⟩,gS.2 (by omega)⟩,
   h.2 λx a=>⟨⟨(a3 x a).1,by grind⟩,ee.2 (a3 x a)⟩,⟨⟨by omega,by omega⟩,ee.2 a4⟩,⟨⟨by omega,by omega⟩,ee.2 a5⟩,
   ⟨⟨by omega,by omega⟩,ee.2 a6⟩,⟨⟨by omega,by omega⟩,ee.2 a7⟩,⟨⟨by omega,by omega⟩,gS.2 (by omega)⟩,h.2 λp hp=> ?_,trivial⟩
  obtain ⟨d,i⟩:=q p hp;obtain ⟨j,b⟩:=(L8 a6).1 i;refine ⟨⟨d.1,by omega⟩,ee.2 d,j,λx a=>⟨?_,b x a⟩⟩;obtain ⟨k,n,E,F⟩:=P0 (b x a);exact ⟨by omega,by omega,by omega,by omega,t2 p hp x a⟩
 ·rintro ⟨⟨_,d⟩,i,⟨_,j⟩,b,⟨_,s⟩,⟨_,t⟩,⟨_,g⟩,⟨_,u⟩,⟨_,v⟩,f,_⟩;obtain ⟨k,n,_⟩:=(CE _ _).1 i;have b:=h.1 b;have f:=h.1 f;have g:=ee.1 g;have G:=gS.1 d;have H:=gS.1 j;have I:=gS.1 v;refine ⟨⟨k,λp hp x a=>((f p hp).2.2.2 x a).1.2.2.2.2⟩,⟨λe=> ?_,by omega,n⟩,λe=> ?_,by omega,λx a=>ee.1 (b x a).2,ee.1 s,ee.1 t,g,ee.1 u,λe=> ?_,by omega,λp hp=> ?_⟩
  ·grind
  ·grind
  ·grind
  ·obtain ⟨_,w,y,z⟩:=f p hp;exact ⟨ee.1 w,(L8 g).2 ⟨y,λx a=>(z x a).2⟩⟩
end Lf
namespace Lf
open D (fz)
theorem wI :∀(n:Nat) (l:List Int),l.Nodup->(∀x∈l,0<=x/\x<n)->l.length<=n
 | 0,l,_,h=>by
  cases l with
  | nil=>simp
  | cons x r=>have:=h x (List.mem_cons_self ..);omega
 | n+1,l,b,h=>by
  by_cases f:(n:Int)∈l
  ·have:=wI n (l.erase (n:Int)) (b.erase _) λx a=>by
    have c:=h x (List.mem_of_mem_erase a);have d:x≠(n:Int):=λe=>by rw [e] at a;exact (b.not_mem_erase) a
    omega
   grind
  ·have:=wI n l b λx a=>by grind
   omega
structure Small (c:aE):Prop where
 nl:c.labels.length<=8
 np:c.procs.length<=32
 lane:c.lane<=64
 ae:0<=c.ae/\c.ae<=8
 log:c.log<=4096
 code:∀p∈c.procs,p.code.length<=256
section
end
end Lf
namespace Lf
open D (fz)
theorem wS {a:Type} {f:a->List UInt8} {B:Nat}:∀(l:List a),(∀x∈l,(f x).length<=B)->(l.flatMap f).length<=l.length*B
 | [],_=>by simp
 | x::r,h=>by have c:=h x (List.mem_cons_self ..);have d:=wS r λy b=>h y (List.mem_cons_of_mem _ b);rw [List.flatMap_cons,List.length_append,List.length_cons,Nat.succ_mul];omega
theorem T4 {c:aE} (a:Small c) (h:vj c):(mz c).length<=98542:=by
 obtain ⟨_,_,⟨_,b⟩,_⟩:=h;have d:=gS.1 b;have i:=a.nl;have j:=a.np;have f1:=wS (f:=λv=>cW v 8) (B:=8) c.labels λv _=>by rw [mh];omega
 have f2:=wS (f:=λv=>cW v 1) (B:=1) c.table λv _=>by rw [mh];omega
 have f3:=wS (f:=gu) (B:=3075) c.procs λp hp=>by
  have g:=a.code p hp;have e:=wS (f:=mF) (B:=12) p.code λv _=>by simp [mF,mh]
  simp only [gu,ru,List.length_append,mh];omega
 simp only [mz,List.length_append,mh,List.length_cons,List.length_nil];omega
end Lf
