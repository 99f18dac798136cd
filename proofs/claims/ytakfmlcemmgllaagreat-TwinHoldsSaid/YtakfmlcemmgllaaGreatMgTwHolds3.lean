/-
  Part 4 of the texts that the claim leans on.
-/
import Derived.Shelf.Strings.Search1
import Derived.Shelf.Strings.Search2
import Derived.Shelf.Strings.Search3
import Derived.Shelf.LaysM
import Derived.Test.YtakfmlcemmgllaaGreatProg
import Derived.Laws.StructEq
import Derived.Test.YtakfmlcemmgllaaGreatMgTwHolds2
set_option maxRecDepth 100000
namespace Lf
open Go Go.Proofs Tryz
theorem zmu {s v Q h} (hv:UJ prog s v Q h):aa prog Up [(an).enc s,yH.enc v] yH Q h:=
 bT (C:=⟨prog,tb,QH⟩) (A:=QI) ae func91 rfl (Eq.mpr (by kernel_rfl) hv)
theorem zrp {a b Q h} (hv:R7 prog a b Q h):aa prog zkk [(an).enc a,(an).enc b] (aR) Q h:=
 bT (C:=⟨prog,tb,zup⟩) (A:=zuq) ae func96 rfl (Eq.mpr (by kernel_rfl) hv)
theorem ztc {a b Q h} (hv:Sr prog a b Q h):aa prog zml [(an).enc a,(an).enc b] (aR) Q h:=
 bT (C:=⟨prog,tb,zws⟩) (A:=zwt) ae func97 rfl (Eq.mpr (by kernel_rfl) hv)
theorem zvj {c s a Q h} (hv:zpb prog c s a Q h):aa prog zop [(aN).enc c,(bI).enc s,(ab .u64).enc a] (aR) Q h:=
 bT (C:=⟨prog,tb,Py⟩) (A:=PB) ae func98 rfl (Eq.mpr (by kernel_rfl) hv)
theorem S3 {x y Q h} (hv:zyg prog x y Q h):aa prog V3 [(bq).enc x,(bq).enc y] (aR) Q h:=
 bT (C:=⟨prog,tb,WJ⟩) (A:=WL) ae func99 rfl (Eq.mpr (by kernel_rfl) hv)
theorem zrb {s1 s2 Q h} (hv:R3 prog s1 s2 Q h):aa prog zjs [(an).enc s1,(an).enc s2] (aR) Q h:=
 bT (C:=⟨prog,tb,zsv⟩) (A:=zsw) ae func100 rfl (Eq.mpr (by kernel_rfl) hv)
theorem zxg {s1 s2 Q h} (hv:UL prog s1 s2 Q h):aa prog zpw [(an).enc s1,(an).enc s2] (aR) Q h:=
 bT (C:=⟨prog,tb,QK⟩) (A:=QM) ae func101 rfl (Eq.mpr (by kernel_rfl) hv)
theorem zek {s1 s2 eq Q h} (hv:zca prog s1 s2 eq Q h):aa prog P3 [(an).enc s1,(an).enc s2,(fu).enc eq] (aR) Q h:=
 bT (C:=⟨prog,tb,zeu⟩) (A:=zev) ae func102 rfl (Eq.mpr (by kernel_rfl) hv)
theorem JA {c i a Q h} (hv:Eb prog c i a Q h):aa prog Mf [(aN).enc c,yH.enc i,(ab .u64).enc a] (aR) Q h:=
 bT (C:=⟨prog,tb,SU⟩) (A:=SW) ae func103 rfl (Eq.mpr (by kernel_rfl) hv)
theorem Vv {x Q h} (hv:zty prog x Q h):aa prog Oc [(aP).enc x] (aP) Q h:=
 bT (C:=⟨prog,tb,aam⟩) (A:=aan) ae func104 rfl (Eq.mpr (by kernel_rfl) hv)
theorem Vw {x Q h} (hv:ztz prog x Q h):aa prog Od [(aF).enc x] (aF) Q h:=
 bT (C:=⟨prog,tb,aap⟩) (A:=aaq) ae func105 rfl (Eq.mpr (by kernel_rfl) hv)
theorem Qf {a b is Q h} (hv:VM prog a b is Q h):aa prog zsi [(an).enc a,(an).enc b,(fu).enc is] (aR) Q h:=
 bT (C:=⟨prog,tb,SO⟩) (A:=SQ) ae func106 rfl (Eq.mpr (by kernel_rfl) hv)
theorem Vx {x y Q h} (hv:zua prog x y Q h):aa prog ZY [(aP).enc x,(aP).enc y] (aR) Q h:=
 bT (C:=⟨prog,tb,aat⟩) (A:=aav) ae func107 rfl (Eq.mpr (by kernel_rfl) hv)
theorem zvk {a b is Q h} (hv:TT prog a b is Q h):aa prog zos [(an).enc a,(an).enc b,(fu).enc is] (aR) Q h:=
 bT (C:=⟨prog,tb,PF⟩) (A:=PI) ae func108 rfl (Eq.mpr (by kernel_rfl) hv)
theorem Vy {x y Q h} (hv:zub prog x y Q h):aa prog ZZ [(aF).enc x,(aF).enc y] (aR) Q h:=
 bT (C:=⟨prog,tb,aax⟩) (A:=aaz) ae func109 rfl (Eq.mpr (by kernel_rfl) hv)
theorem zxh {l Q h} (hv:Mh prog l Q h):bF prog OE [(an).enc l] yH yH Q h:=
 show aa prog OE [(an).enc l] (cl tb [39,3]) (λr=>Q r.1 r.2) h from bT (C:=⟨prog,tb,SY⟩) (A:=S0) ae func110 rfl (Eq.mpr (by kernel_rfl) hv)
theorem JB {n lU Q h} (hv:Ec prog n lU Q h):aa prog D2 [yH.enc n,yH.enc lU] yH Q h:=
 bT (C:=⟨prog,tb,S2⟩) (A:=S4) ae func111 rfl (Eq.mpr (by kernel_rfl) hv)
theorem JC {table parts Q h} (hv:Mi prog table parts Q h):mh prog OF [(an).enc table,yH.enc parts] (aj) yH yH Q h:=
 show aa prog OF [(an).enc table,yH.enc parts] (cl tb [107,39,3]) (λr=>Q r.1 r.2.1 r.2.2) h from bT (C:=⟨prog,tb,S6⟩) (A:=S8) ae func112 rfl (Eq.mpr (by kernel_rfl) hv)
theorem YX {part n Q h} (hv:zzs prog part n Q h):aa prog Kj [yH.enc part,yH.enc n] yH Q h:=
 bT (C:=⟨prog,tb,aep⟩) (A:=aes) ae func113 rfl (Eq.mpr (by kernel_rfl) hv)
theorem zip {n from_ to Q h} (hv:zzt prog n from_ to Q h):aa prog Gp [yH.enc n,yH.enc from_,yH.enc to] (aR) Q h:=
 bT (C:=⟨prog,tb,aev⟩) (A:=aex) ae func114 rfl (Eq.mpr (by kernel_rfl) hv)
theorem PG {l ai Q h} (hv:EB prog l ai Q h):bF prog Eu [(an).enc l,yH.enc ai] yH yH Q h:=
 show aa prog Eu [(an).enc l,yH.enc ai] (cl tb [39,3]) (λr=>Q r.1 r.2) h from bT (C:=⟨prog,tb,We⟩) (A:=Wf) ae func115 rfl (Eq.mpr (by kernel_rfl) hv)
theorem acZ {l Q h} (hv:Mj prog l Q h):mh prog D3 [(an).enc l] (aj) yH yH Q h:=
 show aa prog D3 [(an).enc l] (cl tb [106,39,3]) (λr=>Q r.1 r.2.1 r.2.2) h from bT (C:=⟨prog,tb,Ta⟩) (A:=Te) ae func116 rfl (Eq.mpr (by kernel_rfl) hv)
theorem ac0 {aC au Q h} (hv:Ed prog aC au Q h):bF prog OG [(an).enc aC,(an).enc au] (aj) yH Q h:=
 show aa prog OG [(an).enc aC,(an).enc au] (cl tb [114,39]) (λr=>Q r.1 r.2) h from bT (C:=⟨prog,tb,Th⟩) (A:=Tk) ae func117 rfl (Eq.mpr (by kernel_rfl) hv)
theorem ac1 {Q h} (hv:OH prog  Q h):aa prog D4 [] (aj) Q h:=
 bT (C:=⟨prog,tb,Tn⟩) (A:=Tr) ae func118 rfl (Eq.mpr (by kernel_rfl) hv)
theorem PJ {room l af Q h} (hv:EC prog room l af Q h):bF prog ya [yH.enc room,(an).enc l,yH.enc af] (aj) yH Q h:=
 show aa prog ya [yH.enc room,(an).enc l,yH.enc af] (cl tb [126,39]) (λr=>Q r.1 r.2) h from bT (C:=⟨prog,tb,Wg⟩) (A:=Wi) ae func119 rfl (Eq.mpr (by kernel_rfl) hv)
theorem VP {w dP due Q h} (hv:N7 prog w dP due Q h):aa prog xc [(aj).enc w,yH.enc dP,yH.enc due] yH Q h:=
 bT (C:=⟨prog,tb,WN⟩) (A:=WQ) ae func120 rfl (Eq.mpr (by kernel_rfl) hv)
theorem zvl {x count Q h} (hv:TU prog x count Q h):aa prog tQ [(an).enc x,yH.enc count] (an) Q h:=
 bT (C:=⟨prog,tb,PL⟩) (A:=PN) ae func121 rfl (Eq.mpr (by kernel_rfl) hv)
theorem zlp {m p Q h} (hv:TV prog m p Q h):aa prog TF [(aj).enc m,yH.enc p] yH Q h:=
 bT (C:=⟨prog,tb,PQ⟩) (A:=PS) ae func122 rfl (Eq.mpr (by kernel_rfl) hv)
theorem X6 {p lane v Q h} (hv:Oj prog p lane v Q h):aa prog Oe [(aj).enc p,yH.enc lane,yH.enc v] yH Q h:=
 bT (C:=⟨prog,tb,aaC⟩) (A:=aaF) ae func123 rfl (Eq.mpr (by kernel_rfl) hv)
theorem zuu {p lane Q h} (hv:Oa prog p lane Q h):bV prog JG [(aj).enc p,yH.enc lane] (Q) h:=
 show aa prog JG [(aj).enc p,yH.enc lane] (cl tb []) (λ_=>Q) h from bT (C:=⟨prog,tb,Yq⟩) (A:=Yr) ae func124 rfl (Eq.mpr (by kernel_rfl) hv)
theorem SH {m q Q h} (hv:UN prog m q Q h):bV prog IJ [(aj).enc m,(aj).enc q] (Q) h:=
 show aa prog IJ [(aj).enc m,(aj).enc q] (cl tb []) (λ_=>Q) h from bT (C:=⟨prog,tb,QN⟩) (A:=QO) ae func125 rfl (Eq.mpr (by kernel_rfl) hv)
theorem zmv {m p state Q h} (hv:UP prog m p state Q h):bV prog NT [(aj).enc m,(aj).enc p,yH.enc state] (Q) h:=
 show aa prog NT [(aj).enc m,(aj).enc p,yH.enc state] (cl tb []) (λ_=>Q) h from bT (C:=⟨prog,tb,QQ⟩) (A:=QS) ae func126 rfl (Eq.mpr (by kernel_rfl) hv)
theorem znx {a b Q h} (hv:Vj prog a b Q h):aa prog Ve [(an).enc a,(an).enc b] (aR) Q h:=
 bT (C:=⟨prog,tb,RL⟩) (A:=RN) ae func127 rfl (Eq.mpr (by kernel_rfl) hv)
theorem ztd {a b Q h} (hv:Su prog a b Q h):aa prog zmm [(aX).enc a,(aX).enc b] (aR) Q h:=
 bT (C:=⟨prog,tb,zwu⟩) (A:=zwv) ae func128 rfl (Eq.mpr (by kernel_rfl) hv)
theorem zxi {a b Q h} (hv:UR prog a b Q h):aa prog zpx [(ab .u64).enc a,(ab .u64).enc b] (aR) Q h:=
 bT (C:=⟨prog,tb,QT⟩) (A:=QU) ae func129 rfl (Eq.mpr (by kernel_rfl) hv)
theorem Gg {s Q h} (hv:B0 prog s Q h):aa prog Gi [(an).enc s] (an) Q h:=
 bT (C:=⟨prog,tb,QW⟩) (A:=QY) ae func130 rfl (Eq.mpr (by kernel_rfl) hv)
theorem zsm {l Q h} (hv:YR prog l Q h):aa prog YB [(aj).enc l] (aX) Q h:=
 bT (C:=⟨prog,tb,WS⟩) (A:=WV) ae func131 rfl (Eq.mpr (by kernel_rfl) hv)
theorem S5 {w now Q h} (hv:N8 prog w now Q h):aa prog zxy [(aj).enc w,yH.enc now] (an) Q h:=
 bT (C:=⟨prog,tb,WX⟩) (A:=WZ) ae func132 rfl (Eq.mpr (by kernel_rfl) hv)
theorem SJ {m p c Q h} (hv:UT prog m p c Q h):bV prog IL [(aj).enc m,(aj).enc p,(fE).enc c] (Q) h:=
 show aa prog IL [(aj).enc m,(aj).enc p,(fE).enc c] (cl tb []) (λ_=>Q) h from bT (C:=⟨prog,tb,Q0⟩) (A:=Q2) ae func133 rfl (Eq.mpr (by kernel_rfl) hv)
theorem DZ {c Q h} (hv:ED prog c Q h):aa prog xg [(fE).enc c] (fE) Q h:=
 bT (C:=⟨prog,tb,Wj⟩) (A:=Wl) ae func134 rfl (Eq.mpr (by kernel_rfl) hv)
theorem PM {c l tick self Q h} (hv:EE prog c l tick self Q h):bF prog Ev [(fE).enc c,(an).enc l,yH.enc tick,yH.enc self] (fE) (EG) Q h:=
 show aa prog Ev [(fE).enc c,(an).enc l,yH.enc tick,yH.enc self] (cl tb [125,228]) (λr=>Q r.1 r.2) h from bT (C:=⟨prog,tb,Wn⟩) (A:=Wp) ae func135 rfl (Eq.mpr (by kernel_rfl) hv)
theorem zvm {m p to v Q h} (hv:TX prog m p to v Q h):bV prog TH [(aj).enc m,(aj).enc p,yH.enc to,yH.enc v] (Q) h:=
 show aa prog TH [(aj).enc m,(aj).enc p,yH.enc to,yH.enc v] (cl tb []) (λ_=>Q) h from bT (C:=⟨prog,tb,PU⟩) (A:=PX) ae func136 rfl (Eq.mpr (by kernel_rfl) hv)
theorem zlq {m p try_ Q h} (hv:TY prog m p try_ Q h):bV prog TJ [(aj).enc m,(aj).enc p,(aR).enc try_] (Q) h:=
 show aa prog TJ [(aj).enc m,(aj).enc p,(aR).enc try_] (cl tb []) (λ_=>Q) h from bT (C:=⟨prog,tb,PY⟩) (A:=PZ) ae func137 rfl (Eq.mpr (by kernel_rfl) hv)
theorem IP {w dP Q h} (hv:N2 prog w dP Q h):aa prog Di [(aj).enc w,yH.enc dP] (aR) Q h:=
 bT (C:=⟨prog,tb,UG⟩) (A:=UI) ae func138 rfl (Eq.mpr (by kernel_rfl) hv)
theorem RV {l n p Q h} (hv:X3 prog l n p Q h):bF prog N3 [(aj).enc l,yH.enc n,yH.enc p] (aR) yH Q h:=
 show aa prog N3 [(aj).enc l,yH.enc n,yH.enc p] (cl tb [4,39]) (λr=>Q r.1 r.2) h from bT (C:=⟨prog,tb,Vm⟩) (A:=Vn) ae func139 rfl (Eq.mpr (by kernel_rfl) hv)
theorem zju {s v Q h} (hv:Sx prog s v Q h):aa prog NQ [(an).enc s,yH.enc v] (aR) Q h:=
 bT (C:=⟨prog,tb,zww⟩) (A:=zwx) ae func140 rfl (Eq.mpr (by kernel_rfl) hv)
theorem zqb {l p Q h} (hv:Wt prog l p Q h):aa prog NZ [(aj).enc l,yH.enc p] (an) Q h:=
 bT (C:=⟨prog,tb,UK⟩) (A:=UM) ae func141 rfl (Eq.mpr (by kernel_rfl) hv)
theorem zrq {l n p Q h} (hv:X5 prog l n p Q h):bF prog Jq [(aj).enc l,yH.enc n,yH.enc p] yH yH Q h:=
 show aa prog Jq [(aj).enc l,yH.enc n,yH.enc p] (cl tb [3,39]) (λr=>Q r.1 r.2) h from bT (C:=⟨prog,tb,Vo⟩) (A:=Vp) ae func142 rfl (Eq.mpr (by kernel_rfl) hv)
theorem Se {m lz Q h} (hv:T1 prog m lz Q h):bV prog Dh [(aj).enc m,yH.enc lz] (Q) h:=
 show aa prog Dh [(aj).enc m,yH.enc lz] (cl tb []) (λ_=>Q) h from bT (C:=⟨prog,tb,P1⟩) (A:=P4) ae func143 rfl (Eq.mpr (by kernel_rfl) hv)
theorem zyq {n Q h} (hv:zwj prog n Q h):aa prog Om [yH.enc n] yH Q h:=
 bT (C:=⟨prog,tb,acI⟩) (A:=acL) ae func144 rfl (Eq.mpr (by kernel_rfl) hv)
theorem zxj {x n ai Q h} (hv:UW prog x n ai Q h):aa prog zpy [(bn).enc x,yH.enc n,yH.enc ai] yH Q h:=
 bT (C:=⟨prog,tb,Q4⟩) (A:=Q6) ae func146 rfl (Eq.mpr (by kernel_rfl) hv)
theorem zhi {s Q h} (hv:NN prog s Q h):aa prog RX [(an).enc s] (an) Q h:=
 bT (C:=⟨prog,tb,zsx⟩) (A:=zsy) ae func153 rfl (Eq.mpr (by kernel_rfl) hv)
theorem znm {s Q h} (hv:zgu prog s Q h):aa prog zgr [(an).enc s] (an) Q h:=
 bT (C:=⟨prog,tb,zpp⟩) (A:=zpq) ae func154 rfl (Eq.mpr (by kernel_rfl) hv)
theorem zpi {s Q h} (hv:zhn prog s Q h):aa prog zhm [(an).enc s] (an) Q h:=
 bT (C:=⟨prog,tb,zrn⟩) (A:=zro) ae func155 rfl (Eq.mpr (by kernel_rfl) hv)
theorem H0 {a b Q h} (hv:zzv prog a b Q h):aa prog zzo [(ab .u64).enc a,(ab .u64).enc b] (aR) Q h:=
 bT (C:=⟨prog,tb,aeA⟩) (A:=aeD) ae func174 rfl (Eq.mpr (by kernel_rfl) hv)
theorem zuv {s Q h} (hv:znu prog s Q h):aa prog znt [(an).enc s] (an) Q h:=
 bT (C:=⟨prog,tb,zyl⟩) (A:=zym) ae func175 rfl (Eq.mpr (by kernel_rfl) hv)
theorem znn {s Q h} (hv:zgv prog s Q h):aa prog zgs [(an).enc s] (an) Q h:=
 bT (C:=⟨prog,tb,zpr⟩) (A:=zps) ae func176 rfl (Eq.mpr (by kernel_rfl) hv)
theorem RI {s Q h} (hv:NP prog s Q h):aa prog NO [(an).enc s] (an) Q h:=
 bT (C:=⟨prog,tb,zve⟩) (A:=zvf) ae func177 rfl (Eq.mpr (by kernel_rfl) hv)
theorem QF {s Q h} (hv:NL prog s Q h):aa prog NK [(an).enc s] (an) Q h:=
 bT (C:=⟨prog,tb,zmn⟩) (A:=zmo) ae func178 rfl (Eq.mpr (by kernel_rfl) hv)
theorem zel {s1 s2 eq Q h} (hv:zcb prog s1 s2 eq Q h):aa prog zby [(an).enc s1,(an).enc s2,(fu).enc eq] (aR) Q h:=
 bT (C:=⟨prog,tb,zew⟩) (A:=zex) ae func179 rfl (Eq.mpr (by kernel_rfl) hv)
theorem S7 {a b Q h} (hv:zyh prog a b Q h):aa prog V7 [(an).enc a,(an).enc b] (aR) Q h:=
 bT (C:=⟨prog,tb,W4⟩) (A:=W6) ae func180 rfl (Eq.mpr (by kernel_rfl) hv)
theorem zwb {a b is Q h} (hv:zuf prog a b is Q h):aa prog ztq [(an).enc a,(an).enc b,(fu).enc is] (aR) Q h:=
 bT (C:=⟨prog,tb,aaI⟩) (A:=aaL) ae func181 rfl (Eq.mpr (by kernel_rfl) hv)
theorem U6 {x y Q h} (hv:HZ prog x y Q h):aa prog Yi [yH.enc x,yH.enc y] (aR) Q h:=
 bT (C:=⟨prog,tb,Ys⟩) (A:=Yt) ae func182 rfl (Eq.mpr (by kernel_rfl) hv)
theorem zyr {a b is Q h} (hv:Vk prog a b is Q h):aa prog zrm [(an).enc a,(an).enc b,(fu).enc is] (aR) Q h:=
 bT (C:=⟨prog,tb,RP⟩) (A:=RT) ae func183 rfl (Eq.mpr (by kernel_rfl) hv)
theorem zxk {x y Q h} (hv:zqa prog x y Q h):aa prog Qn [(cK).enc x,(cK).enc y] (aR) Q h:=
 bT (C:=⟨prog,tb,Q8⟩) (A:=Ra) ae func184 rfl (Eq.mpr (by kernel_rfl) hv)
theorem S9 {a b is Q h} (hv:YU prog a b is Q h):aa prog zxz [(an).enc a,(an).enc b,(fu).enc is] (aR) Q h:=
 bT (C:=⟨prog,tb,W8⟩) (A:=Xa) ae func185 rfl (Eq.mpr (by kernel_rfl) hv)
theorem zct {s1 s2 eq Q h} (hv:zay prog s1 s2 eq Q h):aa prog zax [(an).enc s1,(an).enc s2,(fu).enc eq] (aR) Q h:=
 bT (C:=⟨prog,tb,zcx⟩) (A:=zcy) ae func186 rfl (Eq.mpr (by kernel_rfl) hv)
theorem Qg {a b is Q h} (hv:VN prog a b is Q h):aa prog zsj [(an).enc a,(an).enc b,(fu).enc is] (aR) Q h:=
 bT (C:=⟨prog,tb,SS⟩) (A:=SV) ae func187 rfl (Eq.mpr (by kernel_rfl) hv)
theorem Vz {x y Q h} (hv:zug prog x y Q h):aa prog Z1 [(aX).enc x,(aX).enc y] (aR) Q h:=
 bT (C:=⟨prog,tb,aaO⟩) (A:=aaR) ae func188 rfl (Eq.mpr (by kernel_rfl) hv)
theorem ziq {s f Q h} (hv:Sd prog s f Q h):aa prog zlo [(an).enc s,(fu).enc f] yH Q h:=
 bT (C:=⟨prog,tb,zvg⟩) (A:=zvh) ae func189 rfl (Eq.mpr (by kernel_rfl) hv)
theorem H2 {p a1 Q h} (hv:zzw prog p a1 Q h):aa prog K3 [yH.enc p,.pointer (some a1)] (aR) Q h:=
 bT (C:=⟨prog,tb,aeG⟩) (A:=aeJ) ae func190 rfl (Eq.mpr (by kernel_rfl) hv)
theorem Jd {x n ai Q h} (hv:Du prog x n ai Q h):aa prog Dm [(bn).enc x,yH.enc n,yH.enc ai] yH Q h:=
 bT (C:=⟨prog,tb,Rb⟩) (A:=Rd) ae func191 rfl (Eq.mpr (by kernel_rfl) hv)
theorem zqc {l p Q h} (hv:Ww prog l p Q h):bF prog N0 [(aj).enc l,yH.enc p] yH (aR) Q h:=
 show aa prog N0 [(aj).enc l,yH.enc p] (cl tb [3,4]) (λr=>Q r.1 r.2) h from bT (C:=⟨prog,tb,UO⟩) (A:=UQ) ae func192 rfl (Eq.mpr (by kernel_rfl) hv)
theorem PO {room s Q h} (hv:EF prog room s Q h):bF prog Ew [yH.enc room,(aX).enc s] (aj) yH Q h:=
 show aa prog Ew [yH.enc room,(aX).enc s] (cl tb [213,39]) (λr=>Q r.1 r.2) h from bT (C:=⟨prog,tb,Ws⟩) (A:=Wv) ae func193 rfl (Eq.mpr (by kernel_rfl) hv)
theorem zdf {x target cmp Q h} (hv:PW prog x target cmp Q h):bF prog NJ [(an).enc x,(aZ).enc target,(fu).enc cmp] yH (aR) Q h:=
 show aa prog NJ [(an).enc x,(aZ).enc target,(fu).enc cmp] (cl tb [3,4]) (λr=>Q r.1 r.2) h from bT (C:=⟨prog,tb,zdp⟩) (A:=zdq) ae func194 rfl (Eq.mpr (by kernel_rfl) hv)
theorem H4 {a b Q h} (hv:zzx prog a b Q h):aa prog K4 [(aZ).enc a,(aZ).enc b] yH Q h:=
 bT (C:=⟨prog,tb,aeM⟩) (A:=Pb) ae func195 rfl (Eq.mpr (by kernel_rfl) hv)
theorem zir {s i v Q h} (hv:zei prog s i v Q h):aa prog QD [(an).enc s,yH.enc i,(an).enc v] (an) Q h:=
 bT (C:=⟨prog,tb,zks⟩) (A:=zkt) ae func196 rfl (Eq.mpr (by kernel_rfl) hv)
theorem VA {x y Q h} (hv:I2 prog x y Q h):bF prog ztr [(ab .u64).enc x,(ab .u64).enc y] (ab .u64) (ab .u64) Q h:=
 show aa prog ztr [(ab .u64).enc x,(ab .u64).enc y] (cl tb [286,286]) (λr=>Q r.1 r.2) h from bT (C:=⟨prog,tb,aaU⟩) (A:=aaX) ae func197 rfl (Eq.mpr (by kernel_rfl) hv)
theorem X7 {state Q h} (hv:zuh prog state Q h):aa prog Of [yH.enc state] (aR) Q h:=
 bT (C:=⟨prog,tb,aaZ⟩) (A:=aa1) ae func198 rfl (Eq.mpr (by kernel_rfl) hv)
theorem VQ {p n Q h} (hv:YW prog p n Q h):aa prog N5 [(aj).enc p,yH.enc n] (aR) Q h:=
 bT (C:=⟨prog,tb,Xc⟩) (A:=Xe) ae func199 rfl (Eq.mpr (by kernel_rfl) hv)
theorem VB {l v Q h} (hv:zui prog l v Q h):aa prog IK [(aj).enc l,yH.enc v] yH Q h:=
 bT (C:=⟨prog,tb,aa3⟩) (A:=aa6) ae func200 rfl (Eq.mpr (by kernel_rfl) hv)
theorem U7 {l Q h} (hv:ZD prog l Q h):bV prog Zt [(aj).enc l] (Q) h:=
 show aa prog Zt [(aj).enc l] (cl tb []) (λ_=>Q) h from bT (C:=⟨prog,tb,Yu⟩) (A:=Yw) ae func201 rfl (Eq.mpr (by kernel_rfl) hv)
theorem Td {p proc Q h} (hv:YZ prog p proc Q h):aa prog YE [(aj).enc p,yH.enc proc] (aR) Q h:=
 bT (C:=⟨prog,tb,Xg⟩) (A:=Xi) ae func202 rfl (Eq.mpr (by kernel_rfl) hv)
theorem Tg {l p Q h} (hv:Y1 prog l p Q h):aa prog zya [(aj).enc l,yH.enc p] (an) Q h:=
 bT (C:=⟨prog,tb,Xk⟩) (A:=Xm) ae func203 rfl (Eq.mpr (by kernel_rfl) hv)
theorem VD {p Q h} (hv:zuj prog p Q h):aa prog IM [(aj).enc p] (an) Q h:=
 bT (C:=⟨prog,tb,aa9⟩) (A:=abc) ae func204 rfl (Eq.mpr (by kernel_rfl) hv)
theorem C1 {m p reply Q h} (hv:Sz prog m p reply Q h):bV prog xb [(aj).enc m,(aj).enc p,yH.enc reply] (Q) h:=
 show aa prog xb [(aj).enc m,(aj).enc p,yH.enc reply] (cl tb []) (λ_=>Q) h from bT (C:=⟨prog,tb,zwy⟩) (A:=zwz) ae func205 rfl (Eq.mpr (by kernel_rfl) hv)
theorem zpk {a n Q h} (hv:VO prog a n Q h):aa prog VG [(ab .u64).enc a,yH.enc n] (aR) Q h:=
 bT (C:=⟨prog,tb,SX⟩) (A:=SZ) ae func206 rfl (Eq.mpr (by kernel_rfl) hv)
theorem Ei {c l Q h} (hv:F6 prog c l Q h):bF prog wK [(fE).enc c,(an).enc l] (bn) (aR) Q h:=
 show aa prog wK [(fE).enc c,(an).enc l] (cl tb [87,4]) (λr=>Q r.1 r.2) h from bT (C:=⟨prog,tb,abt⟩) (A:=abw) ae func207 rfl (Eq.mpr (by kernel_rfl) hv)
theorem ac2 {x r Q h} (hv:Ee prog x r Q h):mh prog D5 [(bn).enc x,(xf).enc r] (EG) (aR) (aR) Q h:=
 show aa prog D5 [(bn).enc x,(xf).enc r] (cl tb [228,4,4]) (λr=>Q r.1 r.2.1 r.2.2) h from bT (C:=⟨prog,tb,Tt⟩) (A:=Tv) ae func208 rfl (Eq.mpr (by kernel_rfl) hv)
theorem B4 {c reg v Q h} (hv:zwk prog c reg v Q h):bV prog wi [(aj).enc c,yH.enc reg,yH.enc v] (Q) h:=
 show aa prog wi [(aj).enc c,yH.enc reg,yH.enc v] (cl tb []) (λ_=>Q) h from bT (C:=⟨prog,tb,acO⟩) (A:=acR) ae func209 rfl (Eq.mpr (by kernel_rfl) hv)
theorem TI {op b c Q h} (hv:F7 prog op b c Q h):bF prog FZ [yH.enc op,yH.enc b,yH.enc c] yH yH Q h:=
 show aa prog FZ [yH.enc op,yH.enc b,yH.enc c] (cl tb [2,39]) (λr=>Q r.1 r.2) h from bT (C:=⟨prog,tb,aby⟩) (A:=abA) ae func210 rfl (Eq.mpr (by kernel_rfl) hv)
theorem TK {op b c Q h} (hv:F8 prog op b c Q h):bF prog F0 [yH.enc op,yH.enc b,yH.enc c] yH yH Q h:=
 show aa prog F0 [yH.enc op,yH.enc b,yH.enc c] (cl tb [2,39]) (λr=>Q r.1 r.2) h from bT (C:=⟨prog,tb,abC⟩) (A:=abF) ae func211 rfl (Eq.mpr (by kernel_rfl) hv)
theorem Rp {t i j Q h} (hv:Wz prog t i j Q h):aa prog zts [(aj).enc t,yH.enc i,yH.enc j] (aR) Q h:=
 bT (C:=⟨prog,tb,US⟩) (A:=UU) ae func212 rfl (Eq.mpr (by kernel_rfl) hv)
theorem zuw {m p q v Q h} (hv:Tl prog m p q v Q h):bV prog Tf [(aj).enc m,(aj).enc p,(aj).enc q,yH.enc v] (Q) h:=
 show aa prog Tf [(aj).enc m,(aj).enc p,(aj).enc q,yH.enc v] (cl tb []) (λ_=>Q) h from bT (C:=⟨prog,tb,zyn⟩) (A:=zyo) ae func213 rfl (Eq.mpr (by kernel_rfl) hv)
theorem Dc {c code v from_ Q h} (hv:EH prog c code v from_ Q h):aa prog yb [(fE).enc c,(an).enc code,yH.enc v,yH.enc from_] (fE) Q h:=
 bT (C:=⟨prog,tb,Wy⟩) (A:=WB) ae func215 rfl (Eq.mpr (by kernel_rfl) hv)
theorem zis {s i j Q h} (hv:zej prog s i j Q h):aa prog zeh [(an).enc s,yH.enc i,yH.enc j] (an) Q h:=
 bT (C:=⟨prog,tb,zku⟩) (A:=zkv) ae func216 rfl (Eq.mpr (by kernel_rfl) hv)
theorem zqd {l n p Q h} (hv:WC prog l n p Q h):aa prog Wk [(aj).enc l,yH.enc n,yH.enc p] yH Q h:=
 bT (C:=⟨prog,tb,UX⟩) (A:=UZ) ae func217 rfl (Eq.mpr (by kernel_rfl) hv)
theorem zxl {x n ai Q h} (hv:UY prog x n ai Q h):bF prog Ut [(bn).enc x,yH.enc n,yH.enc ai] yH yH Q h:=
 show aa prog Ut [(bn).enc x,yH.enc n,yH.enc ai] (cl tb [39,3]) (λr=>Q r.1 r.2) h from bT (C:=⟨prog,tb,Rc⟩) (A:=Re) ae func218 rfl (Eq.mpr (by kernel_rfl) hv)
theorem zme {s1 s2 eq Q h} (hv:zfs prog s1 s2 eq Q h):aa prog zfr [(an).enc s1,(an).enc s2,(fu).enc eq] (aR) Q h:=
 bT (C:=⟨prog,tb,zod⟩) (A:=zoe) ae func240 rfl (Eq.mpr (by kernel_rfl) hv)
theorem zdr {s1 s2 eq Q h} (hv:zbm prog s1 s2 eq Q h):aa prog zbk [(an).enc s1,(an).enc s2,(fu).enc eq] (aR) Q h:=
 bT (C:=⟨prog,tb,zed⟩) (A:=zee) ae func241 rfl (Eq.mpr (by kernel_rfl) hv)
theorem zkx {s1 s2 eq Q h} (hv:zfh prog s1 s2 eq Q h):aa prog zfg [(an).enc s1,(an).enc s2,(fu).enc eq] (aR) Q h:=
 bT (C:=⟨prog,tb,zmp⟩) (A:=zmq) ae func242 rfl (Eq.mpr (by kernel_rfl) hv)
theorem zem {s1 s2 eq Q h} (hv:zcc prog s1 s2 eq Q h):aa prog zbz [(an).enc s1,(an).enc s2,(fu).enc eq] (aR) Q h:=
 bT (C:=⟨prog,tb,zey⟩) (A:=zez) ae func243 rfl (Eq.mpr (by kernel_rfl) hv)
theorem Tj {a b is Q h} (hv:Y3 prog a b is Q h):aa prog zyb [(an).enc a,(an).enc b,(fu).enc is] (aR) Q h:=
 bT (C:=⟨prog,tb,Xo⟩) (A:=Xq) ae func244 rfl (Eq.mpr (by kernel_rfl) hv)
theorem RW {x y Q h} (hv:zwa prog x y Q h):aa prog Vl [yH.enc x,yH.enc y] (aR) Q h:=
 bT (C:=⟨prog,tb,Vq⟩) (A:=Vr) ae func245 rfl (Eq.mpr (by kernel_rfl) hv)
theorem zxm {a b is Q h} (hv:U0 prog a b is Q h):aa prog zpz [(an).enc a,(an).enc b,(fu).enc is] (aR) Q h:=
 bT (C:=⟨prog,tb,Rh⟩) (A:=Rj) ae func246 rfl (Eq.mpr (by kernel_rfl) hv)
theorem zvn {x y Q h} (hv:zpf prog x y Q h):aa prog zzp [(aH).enc x,(aH).enc y] (aR) Q h:=
 bT (C:=⟨prog,tb,P5⟩) (A:=P6) ae func247 rfl (Eq.mpr (by kernel_rfl) hv)
theorem abJ {x n ai Q h} (hv:Dv prog x n ai Q h):bF prog Dn [(bn).enc x,yH.enc n,yH.enc ai] yH yH Q h:=
 show aa prog Dn [(bn).enc x,yH.enc n,yH.enc ai] (cl tb [39,3]) (λr=>Q r.1 r.2) h from bT (C:=⟨prog,tb,Rf⟩) (A:=Ri) ae func248 rfl (Eq.mpr (by kernel_rfl) hv)
theorem PR {room Q h} (hv:EI prog room Q h):bF prog Ey [yH.enc room] (aj) yH Q h:=
 show aa prog Ey [yH.enc room] (cl tb [213,39]) (λr=>Q r.1 r.2) h from bT (C:=⟨prog,tb,WE⟩) (A:=WI) ae func249 rfl (Eq.mpr (by kernel_rfl) hv)
theorem ZN {n from_ to Q h} (hv:Oq prog n from_ to Q h):aa prog Oo [yH.enc n,yH.enc from_,yH.enc to] (aR) Q h:=
 bT (C:=⟨prog,tb,Pe⟩) (A:=Ph) ae func250 rfl (Eq.mpr (by kernel_rfl) hv)
theorem abL {l Q h} (hv:Dw prog l Q h):aa prog K9 [(an).enc l] (aR) Q h:=
 bT (C:=⟨prog,tb,Rk⟩) (A:=Rm) ae func251 rfl (Eq.mpr (by kernel_rfl) hv)
theorem abN {fh Q h} (hv:Dx prog fh Q h):aa prog La [(an).enc fh] yH Q h:=
 bT (C:=⟨prog,tb,Ro⟩) (A:=Rq) ae func252 rfl (Eq.mpr (by kernel_rfl) hv)
theorem Rr {x y Q h} (hv:WG prog x y Q h):aa prog ztt [yH.enc x,yH.enc y] yH Q h:=
 bT (C:=⟨prog,tb,U1⟩) (A:=U2) ae func253 rfl (Eq.mpr (by kernel_rfl) hv)
theorem Tm {x y Q h} (hv:Y5 prog x y Q h):aa prog zyc [yH.enc x,yH.enc y] yH Q h:=
 bT (C:=⟨prog,tb,Xs⟩) (A:=Xu) ae func254 rfl (Eq.mpr (by kernel_rfl) hv)
theorem Tq {x y Q h} (hv:Y6 prog x y Q h):bF prog YH [(ab .u64).enc x,(ab .u64).enc y] (ab .u64) (ab .u64) Q h:=
 show aa prog YH [(ab .u64).enc x,(ab .u64).enc y] (cl tb [28,28]) (λr=>Q r.1 r.2) h from bT (C:=⟨prog,tb,Xw⟩) (A:=Xy) ae func258 rfl (Eq.mpr (by kernel_rfl) hv)
theorem zux {l Q h} (hv:ZE prog l Q h):aa prog Zx [(aj).enc l] (aR) Q h:=
 bT (C:=⟨prog,tb,Yx⟩) (A:=Yz) ae func259 rfl (Eq.mpr (by kernel_rfl) hv)
theorem JD {n Q h} (hv:Ef prog n Q h):aa prog D6 [yH.enc n] yH Q h:=
 bT (C:=⟨prog,tb,Tx⟩) (A:=Tz) ae func260 rfl (Eq.mpr (by kernel_rfl) hv)
theorem Ts {l p Q h} (hv:Y7 prog l p Q h):aa prog zyd [(aj).enc l,yH.enc p] (aR) Q h:=
 bT (C:=⟨prog,tb,XA⟩) (A:=XC) ae func261 rfl (Eq.mpr (by kernel_rfl) hv)
theorem zvo {s i j Q h} (hv:T2 prog s i j Q h):aa prog zox [(an).enc s,yH.enc i,yH.enc j] (an) Q h:=
 bT (C:=⟨prog,tb,P7⟩) (A:=P8) ae func262 rfl (Eq.mpr (by kernel_rfl) hv)
theorem VF {l Q h} (hv:zuk prog l Q h):aa prog IS [(aj).enc l] (an) Q h:=
 bT (C:=⟨prog,tb,abf⟩) (A:=abi) ae func263 rfl (Eq.mpr (by kernel_rfl) hv)
theorem PT {c code reply Q h} (hv:EJ prog c code reply Q h):aa prog Na [(fE).enc c,(an).enc code,yH.enc reply] (fE) Q h:=
 bT (C:=⟨prog,tb,WK⟩) (A:=WM) ae func264 rfl (Eq.mpr (by kernel_rfl) hv)
theorem zys {b c Q h} (hv:zwl prog b c Q h):aa prog zwh [yH.enc b,yH.enc c] yH Q h:=
 bT (C:=⟨prog,tb,acU⟩) (A:=acW) ae func265 rfl (Eq.mpr (by kernel_rfl) hv)
theorem PV {b c Q h} (hv:Nd prog b c Q h):aa prog Nb [yH.enc b,yH.enc c] yH Q h:=
 bT (C:=⟨prog,tb,WO⟩) (A:=WR) ae func266 rfl (Eq.mpr (by kernel_rfl) hv)
theorem ac3 {b c Q h} (hv:L5 prog b c Q h):aa prog LZ [yH.enc b,yH.enc c] yH Q h:=
 bT (C:=⟨prog,tb,TA⟩) (A:=TB) ae func267 rfl (Eq.mpr (by kernel_rfl) hv)
theorem Lc {is Q h} (hv:Fv prog is Q h):aa prog Fp [(aR).enc is] yH Q h:=
 bT (C:=⟨prog,tb,Zh⟩) (A:=Zi) ae func268 rfl (Eq.mpr (by kernel_rfl) hv)
theorem JE {bits Q h} (hv:Eg prog bits Q h):aa prog D7 [yH.enc bits] (jR .f64) Q h:=
 bT (C:=⟨prog,tb,TC⟩) (A:=TD) ae func269 rfl (Eq.mpr (by kernel_rfl) hv)
theorem Le {f Q h} (hv:EK prog f Q h):aa prog Gy [(jR .f64).enc f] yH Q h:=
 bT (C:=⟨prog,tb,WU⟩) (A:=WW) ae func270 rfl (Eq.mpr (by kernel_rfl) hv)
theorem ac4 {f Q h} (hv:Eh prog f Q h):aa prog L4 [(jR .f64).enc f] yH Q h:=
 bT (C:=⟨prog,tb,TE⟩) (A:=TG) ae func271 rfl (Eq.mpr (by kernel_rfl) hv)
theorem zuy {t i Q h} (hv:ZG prog t i Q h):aa prog Zy [(aj).enc t,yH.enc i] (aR) Q h:=
 bT (C:=⟨prog,tb,YC⟩) (A:=YF) ae func272 rfl (Eq.mpr (by kernel_rfl) hv)
theorem U8 {p lane proc v Q h} (hv:ZI prog p lane proc v Q h):aa prog HX [(aj).enc p,yH.enc lane,yH.enc proc,yH.enc v] yH Q h:=
 bT (C:=⟨prog,tb,YI⟩) (A:=YL) ae func273 rfl (Eq.mpr (by kernel_rfl) hv)
theorem Tu {p Q h} (hv:zyi prog p Q h):aa prog zye [(aj).enc p] (fu) Q h:=
 bT (C:=⟨prog,tb,XE⟩) (A:=XG) ae func274 rfl (Eq.mpr (by kernel_rfl) hv)
theorem VH {l Q h} (hv:zul prog l Q h):aa prog Z4 [(aj).enc l] yH Q h:=
 bT (C:=⟨prog,tb,abl⟩) (A:=abo) ae func275 rfl (Eq.mpr (by kernel_rfl) hv)
theorem U9 {l Q h} (hv:ZJ prog l Q h):pP prog ZA [(aj).enc l] yH (aH) (aR) yH Q h:=
 show aa prog ZA [(aj).enc l] (cl tb [2,254,4,39]) (λr=>Q r.1 r.2.1 r.2.2.1 r.2.2.2) h from bT (C:=⟨prog,tb,YN⟩) (A:=YQ) ae func276 rfl (Eq.mpr (by kernel_rfl) hv)
theorem zvp {op Q h} (hv:T4 prog op Q h):pP prog TN [yH.enc op] (aR) (aR) (aR) (aR) Q h:=
 show aa prog TN [yH.enc op] (cl tb [4,4,4,4]) (λr=>Q r.1 r.2.1 r.2.2.1 r.2.2.2) h from bT (C:=⟨prog,tb,P9⟩) (A:=Qa) ae func277 rfl (Eq.mpr (by kernel_rfl) hv)
theorem R4 {n has Q h} (hv:SB prog n has Q h):aa prog NR [yH.enc n,(aR).enc has] yH Q h:=
 bT (C:=⟨prog,tb,zxa⟩) (A:=zxb) ae func278 rfl (Eq.mpr (by kernel_rfl) hv)
theorem zhj {s1 s2 eq Q h} (hv:zdn prog s1 s2 eq Q h):aa prog zdm [(an).enc s1,(an).enc s2,(fu).enc eq] (aR) Q h:=
 bT (C:=⟨prog,tb,zin⟩) (A:=zio) ae func298 rfl (Eq.mpr (by kernel_rfl) hv)
theorem zdc {s1 s2 eq Q h} (hv:zbc prog s1 s2 eq Q h):aa prog zbb [(an).enc s1,(an).enc s2,(fu).enc eq] (aR) Q h:=
 bT (C:=⟨prog,tb,zdj⟩) (A:=zdk) ae func299 rfl (Eq.mpr (by kernel_rfl) hv)
theorem Y0 {op Q h} (hv:zzy prog op Q h):pP prog zzq [yH.enc op] (aR) (aR) (aR) (aR) Q h:=
 show aa prog zzq [yH.enc op] (cl tb [4,4,4,4]) (λr=>Q r.1 r.2.1 r.2.2.1 r.2.2.2) h from bT (C:=⟨prog,tb,Pl⟩) (A:=Po) ae func300 rfl (Eq.mpr (by kernel_rfl) hv)
theorem X9 {has n Q h} (hv:zum prog has n Q h):aa prog Og [(aR).enc has,yH.enc n] yH Q h:=
 bT (C:=⟨prog,tb,abr⟩) (A:=abv) ae func301 rfl (Eq.mpr (by kernel_rfl) hv)
theorem Y2 {x has n ai Q h} (hv:zzz prog x has n ai Q h):aa prog Kn [(bn).enc x,(aR).enc has,yH.enc n,yH.enc ai] yH Q h:=
 bT (C:=⟨prog,tb,Pr⟩) (A:=Pv) ae func302 rfl (Eq.mpr (by kernel_rfl) hv)
theorem zsn {x Q h} (hv:Y9 prog x Q h):aa prog YK [yH.enc x] (aR) Q h:=
 bT (C:=⟨prog,tb,XI⟩) (A:=XK) ae func303 rfl (Eq.mpr (by kernel_rfl) hv)
theorem zwc {x Q h} (hv:zun prog x Q h):aa prog ztu [yH.enc x] (aR) Q h:=
 bT (C:=⟨prog,tb,abx⟩) (A:=abz) ae func304 rfl (Eq.mpr (by kernel_rfl) hv)
theorem zso {l p Q h} (hv:Zb prog l p Q h):aa prog YM [(aj).enc l,yH.enc p] yH Q h:=
 bT (C:=⟨prog,tb,XM⟩) (A:=XO) ae func306 rfl (Eq.mpr (by kernel_rfl) hv)
theorem zjy {s i j Q h} (hv:QJ prog s i j Q h):aa prog zet [(an).enc s,yH.enc i,yH.enc j] (an) Q h:=
 bT (C:=⟨prog,tb,zma⟩) (A:=zmb) ae func307 rfl (Eq.mpr (by kernel_rfl) hv)
theorem Tw {p proc Q h} (hv:Zd prog p proc Q h):aa prog zyf [(aj).enc p,yH.enc proc] yH Q h:=
 bT (C:=⟨prog,tb,XQ⟩) (A:=XS) ae func310 rfl (Eq.mpr (by kernel_rfl) hv)
theorem Va {l p v Q h} (hv:ZL prog l p v Q h):aa prog HY [(aj).enc l,yH.enc p,yH.enc v] yH Q h:=
 bT (C:=⟨prog,tb,YS⟩) (A:=YV) ae func311 rfl (Eq.mpr (by kernel_rfl) hv)
theorem Y4 {op Q h} (hv:CY prog op Q h):aa prog Kr [yH.enc op] (qf) Q h:=
 bT (C:=⟨prog,tb,Pz⟩) (A:=PD) ae func327 rfl (Eq.mpr (by kernel_rfl) hv)
theorem VJ {field a1 Q h} (hv:I6 prog field a1 Q h):aa prog IU [(qf).enc field,.pointer (some a1)] (aR) Q h:=
 bT (C:=⟨prog,tb,abB⟩) (A:=abE) ae func328 rfl (Eq.mpr (by kernel_rfl) hv)
theorem zik {s f Q h} (hv:Qz prog s f Q h):aa prog zea [(an).enc s,(fu).enc f] yH Q h:=
 bT (C:=⟨prog,tb,zjw⟩) (A:=zjx) ae func331 rfl (Eq.mpr (by kernel_rfl) hv)
theorem Rt {w a1 Q h} (hv:zuo prog w a1 Q h):aa prog N1 [(aH).enc w,.pointer (some a1)] (aR) Q h:=
 bT (C:=⟨prog,tb,U3⟩) (A:=U4) ae func332 rfl (Eq.mpr (by kernel_rfl) hv)
section
variable {V:Type}
def j7 (a:Int):List (Int×V)->Option (Nat×V)
 | []=>none
 | (k,v)::r=>if a=k then some (0,v) else (j7 a r).map λp=>(p.1+1,p.2)
def iw (a:Int):List (Int×V)->Option V
 | []=>none
 | (k,v)::r=>if a=k then some v else iw a r
def kQ (a:Int) (v:V):List (Int×V)->List (Int×V)
 | []=> [(a,v)]
 | (k,u)::r=>if a=k then (a,v)::r else (k,u)::kQ a v r
def mT (a:Int):List (Int×V)->List (Int×V)
 | []=> []
 | (k,u)::r=>if a=k then r else (k,u)::mT a r
theorem y9 (a b:Int) (v:V):∀l:List (Int×V),iw a (kQ b v l)=if a=b then some v else iw a l
 | []=>by simp [kQ,iw]
 | (k,u)::r=>by
  simp only [kQ];by_cases h:b=k
  ·rw [if_pos h];subst h;simp only [iw];split<;>rfl
  ·rw [if_neg h];simp only [iw,y9 a b v r];grind
theorem Ir {a:Int}:∀ {l:List (Int×V)},a∉l.map (·.1)->iw a l=none
 | [],_=>rfl
 | (k,u)::r,h=>by simp only [List.map_cons,List.mem_cons,not_or] at h;simp only [iw];rw [if_neg h.1];exact Ir h.2
theorem Kc (a b:Int):∀l:List (Int×V),(l.map (·.1)).Nodup->iw a (mT b l)=if a=b then none else iw a l
 | [],_=>by simp [mT,iw]
 | (k,u)::r,c=>by
  simp only [List.map_cons,List.nodup_cons] at c;simp only [mT];by_cases h:b=k
  ·rw [if_pos h];subst h;simp only [iw];by_cases d:a=b
   ·subst d;rw [if_pos rfl];exact Ir c.1
   grind
  ·rw [if_neg h];simp only [iw,Kc a b r c.2];grind
theorem Iu (b:Int) (v:V):∀(l:List (Int×V)) (a:Int),a∈(kQ b v l).map (·.1)↔a=b\/a∈l.map (·.1)
 | [],a=>by simp [kQ]
 | (k,u)::r,a=>by
  simp only [kQ];by_cases h:b=k
  ·subst h;simp
  ·rw [if_neg h];simp only [List.map_cons,List.mem_cons,Iu b v r a];grind
theorem Ng (b:Int) (v:V):∀ {l:List (Int×V)},(l.map (·.1)).Nodup->((kQ b v l).map (·.1)).Nodup
 | [],_=>by simp [kQ]
 | (k,u)::r,a=>by
  simp only [List.map_cons,List.nodup_cons] at a;simp only [kQ];by_cases h:b=k
  ·grind
  ·rw [if_neg h];simp only [List.map_cons,List.nodup_cons];refine ⟨λe=> ?_,Ng b v a.2⟩;rcases (Iu b v r k).1 e with e | e
   ·exact h e.symm
   ·exact a.1 e
theorem Ke (b:Int):∀(l:List (Int×V)),(mT b l).Sublist l
 | []=>.slnil
 | (k,u)::r=>by
  simp only [mT];split
  ·simp
  ·exact .cons_cons _ (Ke b r)
theorem WY (b:Int) {l:List (Int×V)} (h:(l.map (·.1)).Nodup):((mT b l).map (·.1)).Nodup:=h.sublist ((Ke b l).map _)
theorem Iv {b:Int}:∀ {l:List (Int×V)},iw b l=none->mT b l=l
 | [],_=>rfl
 | (k,u)::r,h=>by
  simp only [iw] at h;simp only [mT];split at h
  ·cases h
  ·rename_i e;rw [if_neg e,Iv h]
theorem CZ (a:Int):∀l:List (Int×V),iw a l=(j7 a l).map (·.2)
 | []=>rfl
 | (k,v)::r=>by
  simp only [iw,j7];split
  ·rfl
  ·rw [CZ a r];simp [Function.comp_def]
def gQ (h:Hp) (m:Nat) (k:IntKind) (ev:V->Value) (c:List (Int×V)):Prop:=
 ∃(a:List MapEntry) (ck:Nat),h m=some (.map a.toArray ck)/\a.map (λe=>(e.key,e.val))=c.map λp=>(Value.int k p.1,ev p.2)
variable {h:Hp} {m:Nat} {k:IntKind} {ev:V->Value} {c:List (Int×V)}
theorem xN (a:Int):∀(d:List MapEntry) (c:List (Int×V)) (j:Nat),d.map (λe=>(e.key,e.val))=c.map (λp=>(Value.int k p.1,ev p.2))->
  Instr.findNow (.int k) (.int k a) d j=some ((j7 a c).map λp=>(p.1+j,ev p.2))
 | [],[],j,_=>rfl
 | [],_::_,j,h=>by simp at h
 | _::_,[],j,h=>by simp at h
 | e::d,(b,v)::r,j,h=>by
  simp only [List.map_cons,List.cons.injEq,Prod.mk.injEq] at h;obtain ⟨⟨g,i⟩,l⟩:=h;simp only [Instr.findNow,g,Instr.sameNow,if_true,j7];by_cases f:a=b
  ·simp [f,i]
  ·have n:(a==b)=false:=by simpa using f
   rw [n,if_neg f];simp only;rw [xN a d r (j+1) l];cases j7 a r with
   | none=>rfl
   | some p=>simp;omega
theorem za {e:IntKind} {sh:Shape} {c:List (Int×sh.T)} {a:Int} {z:sh.T} {zero:Value} {K:sh.T->Bool->Prop} (o:gQ h m e sh.enc c) (q:sh.enc z=zero) (l:iw a c=none->K z false)
  (n:∀v,iw a c=some v->K v true):nJ none (.int e) sh zero (some m) (.int e a) h K:=by
 obtain ⟨f,ck,g,j⟩:=o;have b:=xN (ev:=sh.enc) a f c 0 j;have d:=CZ a c;cases i:j7 a c with
 | none=>rw [i] at b d;exact ⟨z,false,⟨f,.inr ⟨m,ck,rfl,g⟩,.inl ⟨b,q,rfl⟩⟩,l d⟩
 | some p=>rw [i] at b d;exact ⟨p.2,true,⟨f,.inr ⟨m,ck,rfl,g⟩,.inr ⟨_,b,rfl⟩⟩,n p.2 d⟩
theorem Iw {a:Int} {v:V}:∀ {l:List (Int×V)},j7 a l=none->kQ a v l=l++ [(a,v)]
 | [],_=>rfl
 | (k,u)::r,h=>by
  simp only [j7] at h;split at h
  ·cases h
  ·rename_i e;simp only [kQ];rw [if_neg e,Iw (by simpa using h)];rfl
theorem Kf {a:Int} {v u:V} {ev:V->Value}:∀ {g:List MapEntry} {l:List (Int×V)} {i:Nat},g.map (λe=>(e.key,e.val))=l.map (λp=>(Value.int k p.1,ev p.2))->j7 a l=some (i,u)->
  (g.modify i λe=>{e with key:=.int k a,val:=ev v}).map (λe=>(e.key,e.val))=(kQ a v l).map λp=>(Value.int k p.1,ev p.2)
 | _,[],_,_,h=>by simp [j7] at h
 | [],_::_,_,h,_=>by simp at h
 | e::g,(b,w)::r,i,h,d=>by
  simp only [List.map_cons,List.cons.injEq] at h;simp only [j7] at d;simp only [kQ];split at d
  ·grind
  ·rename_i j;rw [if_neg j];cases f:j7 a r with
   | none=>rw [f] at d;simp at d
   | some p=>rw [f] at d;simp at d;obtain ⟨rfl,rfl⟩:=d;simp only [List.modify_succ_cons,List.map_cons,h.1];rw [Kf h.2 f]
theorem Nh {a:Int} {u:V} {ev:V->Value}:∀ {g:List MapEntry} {l:List (Int×V)} {i:Nat},g.map (λe=>(e.key,e.val))=l.map (λp=>(Value.int k p.1,ev p.2))->j7 a l=some (i,u)->
  (g.eraseIdx i).map (λe=>(e.key,e.val))=(mT a l).map λp=>(Value.int k p.1,ev p.2)
 | _,[],_,_,h=>by simp [j7] at h
 | [],_::_,_,h,_=>by simp at h
 | e::g,(b,w)::r,i,h,d=>by
  simp only [List.map_cons,List.cons.injEq] at h;simp only [j7] at d;simp only [mT];split at d
  ·grind
  ·rename_i j;rw [if_neg j];cases f:j7 a r with
   | none=>rw [f] at d;simp at d
   | some p=>rw [f] at d;simp at d;obtain ⟨rfl,rfl⟩:=d;simp only [List.eraseIdx_cons_succ,List.map_cons,h.1];rw [Nh h.2 f]
theorem Ix {a:Int} {v:V} {K:Hp->Prop} (l:gQ h m k ev c) (i:∀o,isCells o=false->gQ (h.set m o) m k ev (kQ a v c)->K (h.set m o)):sV (.int k) (some m) (.int k a) (ev v) K h:=by
 obtain ⟨f,ck,j,g⟩:=l;have b:=xN (ev:=ev) a f c 0 g;refine ⟨m,f.toArray,ck,rfl,j,?_⟩;cases d:j7 a c with
 | none=>
  rw [d] at b;refine .inl ⟨b,i _ rfl ⟨f++ [{key:=.int k a,val:=ev v,born:=ck}],ck+1,?_,?_⟩⟩
  ·rw [oX];simp
  ·rw [Iw d];simp [g]
 | some p=>rw [d] at b;refine .inr ⟨p.1,ev p.2,b,i _ rfl ⟨f.modify p.1 λe=>{e with key:=.int k a,val:=ev v},ck,?_,Kf (u:=p.2) g d⟩⟩;rw [oX];simp
theorem Zj {a:Int} {K:Hp->Prop} (j:gQ h m k ev c) (g:∀o,isCells o=false->gQ (h.set m o) m k ev (mT a c)->K (h.set m o)):wQ (.int k) (some m) (.int k a) K h:=by
 obtain ⟨e,ck,i,f⟩:=j;have b:=xN (ev:=ev) a e c 0 f;refine .inr ⟨m,e.toArray,ck,rfl,i,?_⟩;cases d:j7 a c with
 | none=>rw [d] at b;refine .inl ⟨b,g _ rfl ⟨e,ck,oX,?_⟩⟩;rw [Iv (by rw [CZ,d];rfl)];exact f
 | some p=>rw [d] at b;refine .inr ⟨p.1,ev p.2,b,g _ rfl ⟨e.eraseIdx p.1,ck,?_,Nh (u:=p.2) f d⟩⟩;rw [oX];simp
end
abbrev fZ :Int->List Value:=λx=> [.int .i64 x]
abbrev eW :mL->List Value:=λw=> [.int .i64 w.proc,.int .i64 w.value]
def oH (w:mL):bB:=⟨w.proc,w.value⟩
section
variable {h0 k:Hp} {A B C:eh}
theorem Has.f1 (o:Has h0 (A.star (B.star C)) k):∃c,h0<=c/\Has c A k/\∀e f,Has c e f->Has h0 (e.star (B.star C)) f:=by obtain ⟨c,a,b,_,d⟩:=o.fst;grind
theorem Has.f2 (o:Has h0 (A.star (B.star C)) k):∃c,h0<=c/\Has c B k/\∀B' e,Has c B' e->Has h0 (A.star (B'.star C)) e:=by obtain ⟨c,a,b,_,d⟩:=o.snd;obtain ⟨h,a2,f,_,g⟩:=b.fst;exact ⟨h,Hp.le_trans a a2,f,λB' e i=>d _ _ (g _ _ i)⟩
theorem Has.f3 (o:Has h0 (A.star (B.star C)) k):∃h1,h0<=h1/\Has h1 C k/\∀e c,Has h1 e c->Has h0 (A.star (B.star e)) c:=by obtain ⟨h1,a,b,_,d⟩:=o.snd;obtain ⟨h,a2,f,_,g⟩:=b.snd;exact ⟨h,Hp.le_trans a a2,f,λj c i=>d _ _ (g _ _ i)⟩
theorem Mz {l:Option Addr} {sz c:Nat}:bh l sz 0 c=l:=by
 unfold bh;split
 ·rfl
 ·cases l with
  | none=>rfl
  | some a=>obtain ⟨b,off,sp⟩:=a;simp [Addr.add]
theorem Has.shift {i:Type} {sz:Nat} {enc:i->List Value} {l:Sl} {a:i} {r:List i} {K:Int->Hp->Prop} (o:Has h0 (eu sz enc l (a::r)) k) (h:∀x,(enc x).length=sz) (D:∀x,jE (enc x)=true)
  (w:∀f,Has h0 (eu sz enc ⟨l.base,r.length,l.cap⟩ r) f->K (r.length:Nat) f):gz sz l ⟨bh l.base sz 1 l.cap,l.len-1,l.cap-1⟩ K k:=by
 have H:=o.iR;have g:=o.vR;have G:=(o.qq h (c:=l.cap) g (Nat.le_refl _)).jb h;obtain ⟨y,F,⟨J,L,t⟩,p⟩:=o;have N:l.len=r.length+1:=by simpa using H
 rcases t with ⟨e,d,_⟩ | ⟨b,off,I,e,j,v,M,P⟩
 ·omega
 ·have z:h0 b=none:=p b ((j b).2 rfl);have O:r.length*sz<=l.cap*sz:=Nat.mul_le_mul_right sz (by omega);have s:l=⟨some ⟨b,off,none⟩,l.len,l.cap⟩:=by cases l;simp at e;subst e;rfl
  have E:(r.flatMap enc).length=r.length*sz:=jo h r;rw [show (gz sz l:Sl->_)=gz sz ⟨some ⟨b,off,none⟩,l.len,l.cap⟩ by rw [<-s]];refine Fz (n:=r.length) (new:=r.flatMap enc) v (by show min (l.len-1) l.len=_;omega) G.2 (sZ D r) (by omega) λf m u=>w f ⟨λc q d=>m.cW c q (y c q d) (λg=>(by rw [List.mem_singleton.1 g,z] at d;cases d)),F,⟨rfl,by show r.length<=l.cap;omega,.inr ⟨b,off,_,e,j,u,?_,?_⟩⟩,p⟩
  ·simp only [List.length_append,List.length_take,List.length_drop,E];show off+l.cap*sz<=_;omega
  grind
theorem Rw.map {b β:Type} {sz:Nat} {enc:β->List Value} {f:b->β} {l:Sl} {a:List b} (r:Rw k sz (λx=>enc (f x)) l a):Rw k sz enc l (a.map f):=by obtain ⟨d,c⟩:=r;refine ⟨by grind,?_⟩;rw [List.length_map,List.flatMap_map];exact c
theorem Kh {n:Int} (h:kh n):jh (yw (n+(1:Int))) (65535:Int)=more n:=by rw [wrap64 (by have:=h.1;omega) (by have:=h.2;omega)];unfold jh more;omega
end
def dW (q:Addr) (room:Int) (l:bH):eh:=
 .some_ λx:dX=>((dR Ep q x).star ((eu 1 fZ x.values l.values).star (eu 2 eW x.waiters l.waiters))).star (.fact (x.room=room/\x.taken=l.taken/\x.dropped=l.dropped))
section
variable {h0 k:Hp} {q:Addr} {room:Int} {l:bH}
theorem Has.bL (o:Has h0 (dW q room l) k):∃x:dX,x.room=room/\x.taken=l.taken/\x.dropped=l.dropped/\Has h0 ((dR Ep q x).star ((eu 1 fZ x.values l.values).star (eu 2 eW x.waiters l.waiters))) k:=by obtain ⟨x,o⟩:=Has.ex.1 o;obtain ⟨o,a,b,c⟩:=o.j8;grind
theorem Has.j9 {x:dX} (o:Has h0 ((dR Ep q x).star ((eu 1 fZ x.values l.values).star (eu 2 eW x.waiters l.waiters))) k) (a:x.room=room) (b:x.taken=l.taken) (c:x.dropped=l.dropped):Has h0 (dW q room l) k:=
 Has.ex.2 ⟨x,o.fV ⟨a,b,c⟩⟩
theorem aeB {Q:Int->Hp->Prop} (o:Has h0 (dW q room l) k) (a:Q (l.values.length:Int) k):zul prog (some q) Q k:=by obtain ⟨x,_,_,_,o⟩:=o.bL;unfold zul;refine aY (o.left.ld (shf:=an) x.values rfl ?_);rw [o.right.left.iR];exact a
theorem LF {Q:Bool->Hp->Prop} (o:Has h0 (dW q room l) k) (b:Q (decide (room<=(l.values.length:Int))) k):ZE prog (some q) Q k:=by obtain ⟨x,a,_,_,o⟩:=o.bL;unfold ZE;refine aY (o.left.ld (shf:=an) x.values rfl ?_);refine aY (o.left.ld (shf:=ab .i64) x.room rfl ?_);rw [o.right.left.iR,a];exact b
theorem ado {v:Int} {Q:Int->Hp->Prop} (o:Has h0 (dW q room l) k) (u:room<=64) (t:room<=(l.values.length:Int)->Q 19 k) (g:∀b,¬room<=(l.values.length:Int)->Has h0 (dW q room (sH v l)) b->Q 0 b):zui prog (some q) v Q k:=by
 unfold zui;refine zux (LF o ?_);by_cases a:room<=(l.values.length:Int)
 ·grind
 ·rw [if_neg (λh=>a (of_decide_eq_true h))];obtain ⟨x,d,e,f,o⟩:=o.bL;refine aY (o.left.ld (shf:=an) x.values rfl ?_);obtain ⟨r,_,j,put⟩:=o.f2;refine j.push rfl (λ_=>rfl) (λ_=>rfl) rfl ⟨by omega,by omega⟩ λc w m=> ?_;have o:=put _ _ m;obtain ⟨s,_,n,put⟩:=o.f1;refine aY (n.st {x with values:=c} (show (2:Nat)<=5 by decide) rfl λi p=> ?_);exact g i a (Has.j9 (x:={x with values:=c}) (put _ _ p) d e f)
theorem abI {Q:Hp->Prop} (o:Has h0 (dW q room l) k) (e:kh l.dropped) (f:∀a,Has h0 (dW q room (jN l)) a->Q a):ZD prog (some q) Q k:=by obtain ⟨x,b,c,d,o⟩:=o.bL;unfold ZD;refine aY (o.left.ld (shf:=ab .i64) x.dropped rfl ?_);refine JD ?_;unfold Ef;rw [d,Kh e];obtain ⟨j,_,h,put⟩:=o.f1;refine aY (h.st {x with dropped:=more l.dropped} (show (5:Nat)<=5 by decide) rfl λg i=> ?_);exact f g (Has.j9 (x:={x with dropped:=more l.dropped}) (put _ _ i) b c rfl)
theorem abK {Q:Int->bB->Bool->Int->Hp->Prop} (o:Has h0 (dW q room l) k) (E:kh l.taken) (i:l.values.length<=64) (Y:l.values=[]->Q 0 ⟨0,0⟩ false 21 k)
  (C:∀v b h,l.values=v::b->l.waiters=[]->Has h0 (dW q room (eB l)) h->Q v ⟨0,0⟩ false 0 h)
  (D:∀v b w g h,l.values=v::b->l.waiters=w::g->Has h0 (dW q room (eB l)) h->Q v (oH w) true 0 h):ZJ prog (some q) Q k:=by
 obtain ⟨x,p,B,r,o⟩:=o.bL;unfold ZJ;have j:=o.right.left.iR;refine aY (o.left.ld (shf:=an) x.values rfl ?_);cases hv:l.values with
 | nil=>grind
 | cons v b=>
  rw [hv] at o j i;have j:x.values.len=b.length+1:=by simpa using j
  rw [if_neg (show ¬((x.values.len:Int)==0)=true by simp;omega)];refine aY (o.left.ld (shf:=an) x.values rfl ?_);have W:Rs k (ab .i64) 1 x.values (v::b):=o.right.left.jb (λ_=>rfl);refine W.get (λ_=>rfl) (by omega) (by omega) (by simp) λ(y:Int) t=> ?_;have t:y=v:=by grind
  subst t;refine aY (o.left.ld (shf:=an) x.values rfl ?_);refine aY (o.left.ld (shf:=an) x.values rfl ?_);refine ⟨by omega,aJ ?_⟩;obtain ⟨e,_,J,put⟩:=o.f2;refine J.shift (λ_=>rfl) (λ_=>rfl) λZ A=> ?_;have o:=put _ _ A;have s:=A.vR;refine aY (o.left.ld (shf:=an) x.values rfl ?_);have s:b.length<=x.values.cap:=s;refine ⟨by omega,aJ ?_⟩;rw [Mz,Int.toNat_natCast,Nat.sub_zero,Nat.sub_zero];obtain ⟨e,_,O,put⟩:=o.f1;refine aY (O.st {x with values:=⟨x.values.base,b.length,x.values.cap⟩} (show (2:Nat)<=5 by decide) rfl λk2 P=> ?_);have o:=put _ _ P;refine aY (o.left.ld (shf:=ab .i64) x.taken rfl ?_);refine JD ?_;unfold Ef;rw [B,Kh E];obtain ⟨e,_,R,put⟩:=o.f1;refine aY (R.st {x with values:=⟨x.values.base,b.length,x.values.cap⟩,taken:=more l.taken} (show (4:Nat)<=5 by decide) rfl λu S=> ?_);have o:=put _ _ S;refine aY (o.left.ld (shf:=an) x.waiters rfl ?_);have f:=o.right.right.iR;cases d:l.waiters with
  | nil=>
   rw [d] at f;rw [if_neg (show ¬(decide ((x.waiters.len:Int)>0))=true by simp at f;simp [f])];refine C y b u hv d (Has.j9 (x:={x with values:=⟨x.values.base,b.length,x.values.cap⟩,taken:=more l.taken}) ?_ p (by unfold eB;rw [d]) (by unfold eB;rw [d];exact r));have:eB l={l with values:=b,taken:=more l.taken}:=by unfold eB;rw [d,hv];rfl
   grind
  | cons w g=>
   rw [d] at f o;have f:x.waiters.len=g.length+1:=by simpa using f
   rw [if_pos (decide_eq_true (show (x.waiters.len:Int)>0 by omega))];refine aY (o.left.ld (shf:=an) x.waiters rfl ?_);have Aa:Rs u aH 2 x.waiters ((w::g).map oH):=(o.right.right.jb (λ_=>rfl)).map (enc:=λx=>bu (aH.enc x));refine Aa.get (λ_=>rfl) (by omega) (by omega) (by simp) λ(X:bB) m=> ?_;have m:X=oH w:=by simpa using m.symm
   subst m;refine aY (o.left.ld (shf:=an) x.waiters rfl ?_);refine aY (o.left.ld (shf:=an) x.waiters rfl ?_);refine aY (o.left.ld (shf:=an) x.waiters rfl ?_);have G:=o.right.right.vR;refine ⟨by omega,aJ ?_⟩;rw [Int.toNat_natCast];obtain ⟨e,_,T,put⟩:=o.f3;have U:=T.qq (λ_=>rfl) (c:=x.waiters.len) (Nat.le_refl _) G;have o:=put _ _ U;obtain ⟨e,_,V,put⟩:=o.f1;refine aY (V.st {x with values:=⟨x.values.base,b.length,x.values.cap⟩,taken:=more l.taken,waiters:=⟨bh x.waiters.base 2 1 x.waiters.len,x.waiters.len-1,x.waiters.len-1⟩} (show (3:Nat)<=5 by decide) rfl λk4 K=> ?_);have o:=put _ _ K;refine aY (o.left.ld (shf:=an) ⟨x.values.base,b.length,x.values.cap⟩ rfl ?_);refine iA (xs:=[w.value]) (sz:=1) (enc:=fZ) rfl (λ_=>rfl) λa k5 F I=> ?_;have o:=o.grow F;refine ⟨⟨?_,trivial⟩,?_⟩
   ·exact (Has.left o).fq (n:=1) rfl
   obtain ⟨e,_,L,put⟩:=o.f2;refine L.app (I.jb (λ_=>rfl)) (λ_=>rfl) (λ_=>rfl) rfl ⟨by simp at i ⊢;omega,by simp at i ⊢;omega⟩ λz k6 M=> ?_;have o:=put _ _ M;obtain ⟨e,_,N,put⟩:=o.f1;refine aY (N.st {x with values:=z,taken:=more l.taken,waiters:=⟨bh x.waiters.base 2 1 x.waiters.len,x.waiters.len-1,x.waiters.len-1⟩} (show (2:Nat)<=5 by decide) rfl λH a8=> ?_);refine D y b w g H hv d (Has.j9 (x:={x with values:=z,taken:=more l.taken,waiters:=⟨bh x.waiters.base 2 1 x.waiters.len,x.waiters.len-1,x.waiters.len-1⟩}) ?_ p (by unfold eB;rw [d]) (by unfold eB;rw [d];exact r));have:eB l={values:=b++ [w.value],waiters:=g,taken:=more l.taken,dropped:=l.dropped}:=by unfold eB;rw [d,hv];rfl
   grind
end
theorem cV {P:Program} {g:FuncId} {first captured:Array Value} {args:List Value} {sh:Shape} {K:sh.T->Hp->Prop} {h:Hp} (b:tb.call g=true) (a:aa P g (first.toList++args++captured.toList) sh K h):eN P tb (.func (.func g) first captured) args sh K h:=
 ⟨g,first,captured,rfl,b,a⟩
def nq (p:Int) (a:List mL):Int:=iY (λw=>decide (w.proc=p)) a
def pE (v:Int) (xs:List Int):Int:=iY (λz=>decide (z=v)) xs
theorem Zk {k:Hp} {s:Sl} {b:List mL} {a:Addr} {p:Int} {Q:Int->Hp->Prop} (r:Rw k 2 eW s b) (u:b.length<=1000000) (o:bG k a [.int .i64 p]) (m:Q (nq p b) k):
  Qz prog s ⟨N1, #[], #[.pointer (some a)]⟩ Q k:=by
 unfold Qz;have v:=r.1;have r:Rs k aH 2 s (b.map oH):=r.map (enc:=λx=>bu (aH.enc x));refine aA.intro (λi t=>t=k/\0<=i/\i<=(b.length:Int)/\∀(j:Nat) y,j<i.toNat->b[j]? =some y->decide (y.proc=p)=false) (λi _=>(b.length-i).toNat) ⟨rfl,by omega,by omega,λj y c=>by simp at c⟩ ?_;rintro i _ ⟨rfl,q,z,l⟩;by_cases n:i<(b.length:Int)
 ·rw [if_pos (decide_eq_true (by omega))];refine r.get (λ_=>rfl) (by omega) q (by grind) λ(x:bB) h=> ?_;rw [List.getElem?_map] at h;cases d:b[i.toNat]? with
  | none=>grind
  | some w=>
   rw [d] at h;have h:x=oH w:=by grind
   subst h;refine cV (g:=N1) rfl (Rt ?_);unfold zuo;refine qc (sh:=ab .i64) p o ?_;dsimp only;by_cases e:w.proc=p
   ·rw [if_pos (show ((oH w).dB==p)=true by unfold oH;simp [e])];have:nq p b=i:=by have:=LD (f:=λw=>decide (w.proc=p)) d (by simp [e]) l;unfold nq;rw [this];omega
    grind
   ·rw [if_neg (show ¬((oH w).dB==p)=true by unfold oH;simp [e]),wrap64 (by omega) (by omega)];grind
 ·rw [if_neg (λe=>n (by have:=of_decide_eq_true e;omega))];have:nq p b= -1:=yy λw d=>by obtain ⟨j,c⟩:=List.getElem?_of_mem d;have:=(List.getElem?_eq_some_iff.1 c).1;exact l j w (by omega) c
  rw [this] at m;exact m
theorem Iy {k:Hp} {s:Sl} {a:List Int} {v:Int} {Q:Int->Hp->Prop} (r:Rw k 1 fZ s a) (p:a.length<=1000000) (g:Q (pE v a) k):UJ prog s v Q k:=by
 unfold UJ;have q:=r.1;have r:Rs k (ab .i64) 1 s a:=r;refine aA.intro (λi o=>o=k/\0<=i/\i<=(a.length:Int)/\∀(j:Nat) y,j<i.toNat->a[j]? =some y->decide (y=v)=false) (λi _=>(a.length-i).toNat) ⟨rfl,by omega,by omega,λj y b=>by simp at b⟩ ?_;rintro i _ ⟨rfl,n,t,d⟩;by_cases c:i<(a.length:Int)
 ·rw [if_pos (decide_eq_true (by omega))];refine r.get (λ_=>rfl) (by omega) n c λ(x:Int) m=> ?_;by_cases e:x=v
  ·rw [if_pos (show (v==x)=true by simp [e])];have:pE v a=i:=by have:=LD (f:=λz=>decide (z=v)) m (by simp [e]) d;unfold pE;rw [this];omega
   grind
  ·rw [if_neg (show ¬(v==x)=true by simp;exact λh=>e h.symm),wrap64 (by omega) (by omega)];grind
 ·rw [if_neg (λe=>c (by have:=of_decide_eq_true e;omega))];have:pE v a= -1:=yy λw l=>by obtain ⟨j,b⟩:=List.getElem?_of_mem l;have:=(List.getElem?_eq_some_iff.1 b).1;exact d j w (by omega) b
  rw [this] at g;exact g
theorem abM {a:Type} {f:a->Bool} {xs:List a}:0<=iY f xs↔∃x∈xs,f x=true:=by
 constructor
 ·intro h;refine Classical.byContradiction λd=> ?_;rw [yy λx b=>by
   grind] at h
  omega
 ·rintro ⟨x,b,c⟩;unfold iY;grind
theorem Ld {k:Hp} {s:Sl} {a:List Int} {v:Int} {Q:Bool->Hp->Prop} (r:Rw k 1 fZ s a) (b:a.length<=1000000) (d:Q (decide (v∈a)) k):Sx prog s v Q k:=by
 unfold Sx;refine zmu (Iy r b ?_);have:decide (pE v a>=0)=decide (v∈a):=by have:(pE v a>=0)↔v∈a:=(abM (f:=λz=>decide (z=v))).trans ⟨λ⟨x,c,e⟩=>(of_decide_eq_true e)▸c,λh=>⟨v,h,(by simp)⟩⟩;simp only [this]
 grind
section
variable {h0 k:Hp} {q:Addr} {room:Int} {l:bH}
theorem Ki {p:Int} {Q:Int->Hp->Prop} (o:Has h0 (dW q room l) k) (d:l.waiters.length<=1000000) (i:∀b,Has h0 (dW q room l) b->Q (nq p l.waiters) b):Zb prog (some q) p Q k:=by
 unfold Zb;refine iA (xs:=[p]) (sz:=1) (enc:=fZ) rfl (λ_=>rfl) λa j g n=> ?_;have o:=o.grow g;obtain ⟨x,_,_,_,c⟩:=o.bL;refine aY (c.left.ld (shf:=an) x.waiters rfl ?_);refine zik (f:=⟨N1, #[], #[.pointer (some a)]⟩) (Zk (p:=p) (c.right.right.jb (λ_=>rfl)) d ?_ (i j o));obtain ⟨_,h⟩:=n.jb (λ_=>rfl);rcases h.2 with e | ⟨m,r,s⟩
 ·simp at e
 grind
theorem abO {p v:Int} {Q:Int->Hp->Prop} (o:Has h0 (dW q room l) k) (z:l.waiters.length<=100) (g:room<=(l.values.length:Int)) (h:∀w∈l.waiters,w.proc≠p) (i:∀a,Has h0 (dW q room (il p v l)) a->Q 0 a):ZL prog (some q) p v Q k:=by
 unfold ZL;refine zux (LF o ?_);rw [if_neg (by simp;exact g)];refine zso (Ki o (by omega) λA o=> ?_);have:nq p l.waiters= -1:=yy λw j=>by simp [h w j]
 rw [this,if_neg (by decide)];obtain ⟨x,c,d,f,o⟩:=o.bL;refine aY (o.left.ld (shf:=an) x.waiters rfl ?_);obtain ⟨u,_,n,put⟩:=o.f3;refine n.push (e:=⟨p,v⟩) rfl (λ_=>rfl) (λ_=>rfl) rfl ⟨by omega,by omega⟩ λb B r=> ?_;have o:=put _ _ r;obtain ⟨y,_,s,put⟩:=o.f1;refine aY (s.st {x with waiters:=b} (show (3:Nat)<=5 by decide) rfl λm t=> ?_);exact i m (Has.j9 (x:={x with waiters:=b}) (put _ _ t) c d f)
def sd (p:Int) (l:bH):bH:={l with waiters:=iD (λw=>decide (w.proc=p)) l.waiters}
theorem Zl {p:Int} {Q:Bool->Hp->Prop} (o:Has h0 (dW q room l) k) (K:l.waiters.length<=100) (g:∀b a,Has h0 (dW q room (sd p l)) a->Q b a):Y7 prog (some q) p Q k:=by
 unfold Y7;refine zso (Ki o (by omega) λi o=> ?_);have A:=Dk (λw:mL=>decide (w.proc=p)) l.waiters;by_cases hp:nq p l.waiters<0
 ·rw [if_pos (decide_eq_true hp)];refine g false i ?_;have:sd p l=l:=by unfold sd;rw [A,if_neg (show ¬0<=iY (λw:mL=>decide (w.proc=p)) l.waiters by unfold nq at hp;omega)]
  rw [this];exact o
 ·rw [if_neg (λh=>hp (of_decide_eq_true h))];have t:0<=nq p l.waiters:=by omega
  have L:nq p l.waiters<l.waiters.length:=LC t;obtain ⟨x,j,r,s,o⟩:=o.bL;refine aY (o.left.ld (shf:=an) x.waiters rfl ?_);obtain ⟨u,_,F,put⟩:=o.f3;have C:prog.underlying 201=some (.slice 254):=ae.aM 201 qi rfl;obtain ⟨n,f⟩:∃n:Nat,nq p l.waiters=n:=⟨(nq p l.waiters).toNat,by omega⟩;have B:∀(d:Sl->Hp->Prop),(∀c a,Has u (eu 2 eW c (l.waiters.take n++l.waiters.drop (n+1))) a->d c a)->QJ prog x.waiters (n:Int) ((n+1:Nat):Int) d i:=λd y=>by
   unfold QJ;exact Has.Hn (bytes:=16) (z:=.agg #[.int .i64 0,.int .i64 0]) C (λv=>Fm ae (e:=rM) rfl v) (λ_=>rfl) (λ_=>rfl) rfl (λm=>by induction m with
    | zero=>rfl
    | succ m D=>exact D) F (by omega) (by omega) ⟨by omega,by omega⟩ y
  rw [f,wrap64 (by omega) (by omega)];refine zjy (B _ λc N G=> ?_);have o:=put _ _ G;obtain ⟨J,_,H,put⟩:=o.f1;refine aY (H.st {x with waiters:=c} (show (3:Nat)<=5 by decide) rfl λE I=> ?_);refine g true E (Has.j9 (x:={x with waiters:=c}) ?_ j r s);have:(sd p l).waiters=l.waiters.take n++l.waiters.drop (n+1):=by show iD (λw=>decide (w.proc=p)) l.waiters=_;have M:iY (λw:mL=>decide (w.proc=p)) l.waiters=n:=f;grind
  rw [this];exact put _ _ I
def uu (l:bH):bH:={l with waiters:=[]}
theorem adp {Q:Sl->Hp->Prop} (o:Has h0 (dW q room l) k) (i:∀s b,Has h0 ((dW q room (uu l)).star (eu 2 eW s l.waiters)) b->Q s b):zuk prog (some q) Q k:=by unfold zuk;obtain ⟨x,e,f,g,o⟩:=o.bL;refine aY (o.left.ld (shf:=an) x.waiters rfl ?_);refine aY (o.left.ld (shf:=an) x.waiters rfl ?_);refine aY (o.left.ld (shf:=an) x.waiters rfl ?_);have z:=o.right.right.iR;have h:=o.right.right.vR;refine ⟨by omega,aJ ?_⟩;rw [Int.toNat_natCast];obtain ⟨v,_,j,put⟩:=o.f3;have d:=j.xu (λ_=>rfl) (n:=x.waiters.len) (c:=x.waiters.len) (by omega) (Nat.le_refl _) h;rw [List.take_of_length_le (by omega)] at d;have o:=put _ _ d;obtain ⟨w,_,m,put⟩:=o.f1;refine aY (m.st {x with waiters:=⟨none,0,0⟩} (show (3:Nat)<=5 by decide) rfl λa p=> ?_);have o:=put _ _ p;refine i _ a ?_;have u:=o.Cq;obtain ⟨y,_,r,_,put⟩:=u.fst;have nil:Has a (eu 2 eW (⟨none,0,0⟩:Sl) ([]:List mL)) a:=Has.jO (Hp.le_refl _);have t:=(r.beside nil).assoc;exact put _ _ (Has.j9 (l:=uu l) (x:={x with waiters:=⟨none,0,0⟩}) t e f g)
end
end Lf
namespace Go.Proofs
open Go.Shelf
def Tryz.rj :Go.Shelf.Ren:=⟨λ| 144=>329 | 143=>338 | 219=>339 | 217=>340 | 225=>341 | 224=>342 | 267=>343 | 266=>344 | 314=>345 | n=>n,λ| 9=>9 | 4=>4 | 3=>3 | 5=>5 | 46=>286 | 146=>342 | 51=>341 | n=>n,λ| 1=>1 | n=>n⟩
theorem Tryz.xA :Go.Proofs.Lays.n144 Tryz.prog Tryz.rj:={
 mixed:=by kernel_rfl
 f143:=Tryz.func338.trans (congrArg some (by kernel_rfl))
 f144:=Tryz.func329.trans (congrArg some (by kernel_rfl))
 f217:=Tryz.func340.trans (congrArg some (by kernel_rfl))
 f219:=Tryz.func339.trans (congrArg some (by kernel_rfl))
 f224:=Tryz.func342.trans (congrArg some (by kernel_rfl))
 f225:=Tryz.func341.trans (congrArg some (by kernel_rfl))
 f266:=Tryz.func344.trans (congrArg some (by kernel_rfl))
 f267:=Tryz.func343.trans (congrArg some (by kernel_rfl))
 f314:=Tryz.func345.trans (congrArg some (by kernel_rfl))
 t3:=Tryz.underlying3
 a3:=Tryz.isAgg3
 z3:=Tryz.sizeOf3
 v3:=Tryz.zeroValue3
 t4:=Tryz.underlying4
 a4:=Tryz.isAgg4
 z4:=Tryz.sizeOf4
 v4:=Tryz.zeroValue4
 t5:=Tryz.underlying5
 a5:=Tryz.isAgg5
 z5:=Tryz.sizeOf5
 v5:=Tryz.zeroValue5
 t9:=Tryz.underlying9
 a9:=Tryz.isAgg9
 z9:=Tryz.sizeOf9
 v9:=Tryz.zeroValue9
 t46:=Tryz.underlying286
 a46:=Tryz.isAgg286
 z46:=Tryz.sizeOf286
 v46:=Tryz.zeroValue286
 t51:=Tryz.underlying341
 a51:=Tryz.isAgg341
 z51:=Tryz.sizeOf341
 v51:=Tryz.zeroValue341
 t146:=Tryz.underlying342
 a146:=Tryz.isAgg342
 z146:=Tryz.sizeOf342
 v146:=Tryz.zeroValue342
 g1:=by kernel_rfl}
open Go.RowKit Go.Lib in
theorem Tryz.strings_Contains_one (s:ByteArray) (c:UInt8) (w:World):
  Calls Tryz.prog 329 #[.string s,.string ⟨#[c]⟩] w λe a=>e=.returned (.bool (decide (0<=Lib.indexByte s.data.toList c)))/\a=w:=Any.strings_Contains_one Tryz.xA s c w
end Go.Proofs
namespace Lf
open Go
def Cr (k:Hp) (R:List Nat):Hp:=λb=>if b∈R then none else k b
theorem aeE {k:Hp} {R:List Nat} {b:Nat} (h:b∉R):Cr k R b=k b:=by unfold Cr;rw [if_neg h]
theorem W1 {h b:Hp} {a:Addr} (e:b a.block=h a.block):dw b a=dw h a:=by unfold dw;rw [e]
theorem Ni (a:Addr) (n:Nat):(a.add n).block=a.block:=by unfold Addr.add;split<;>rfl
theorem Zm {h b:Hp} {a:Addr} {c:List Value} (l:bG h a c) (e:b a.block=h a.block):bG b a c:=λi v hv=>by have:dw b (a.add i)=dw h (a.add i):=W1 (a:=a.add i) (by rw [Ni];exact e);rw [this];exact l i v hv
section
variable {α:Type} {h c:Hp} {sz:Nat} {enc:α->List Value} {l:Sl} {xs:List α} {F:List Nat}
theorem Rw.same (r:Rw h sz enc l xs) (e:∀a,l.base=some a->c a.block=h a.block):Rw c sz enc l xs:=by obtain ⟨d,f,g⟩:=r;refine ⟨d,f,g.imp id ?_⟩;rintro ⟨a,b,i⟩;exact ⟨a,b,Zm i (e a b)⟩
theorem Rw.nil {l:Sl} (a:l.len=0):Rw h sz enc l ([]:List α):=⟨a,(by simp),.inl (by simp)⟩
theorem dJ.grow (o:dJ h sz enc l xs F) (j:h<=c):dJ c sz enc l xs F:=by obtain ⟨h1,g,i⟩:=o;refine ⟨h1,g,i.imp id ?_⟩;rintro ⟨b,a,d,rfl,e,f⟩;exact ⟨b,a,d,rfl,e.le j,f⟩
theorem dJ.cut {R:List Nat} (o:dJ h sz enc l xs F) (a:∀b∈F,b∉R):dJ (Cr h R) sz enc l xs F:=o.same λb hb=>aeE (a b hb)
theorem dJ.base (o:dJ h sz enc l xs F) {a:Addr} (d:l.base=some a):F=[a.block]:=by obtain ⟨_,_,b⟩:=o;grind
end
theorem TL {h:Hp} {a:Addr} {v:Value} (e:dw h a=some v):∃o,h a.block=some o:=by unfold dw at e;grind
section
variable {α:Type} {h c:Hp} {sz:Nat} {enc:α->List Value} {l:Sl} {xs:List α} {F b:List Nat}
theorem Rw.known (r:Rw h sz enc l xs) {a:Addr} (j:l.base=some a) (d:xs.length*sz≠0):h a.block≠none:=by
 obtain ⟨n,g,i⟩:=r;obtain ⟨m,e,k⟩:=i.resolve_left d;rw [j] at e;cases e;have p:(xs.flatMap enc).length≠0:=by rw [g];exact d
 obtain ⟨v,hv⟩:∃v,(xs.flatMap enc)[0]? =some v:=⟨(xs.flatMap enc)[0]'(by omega),List.getElem?_eq_getElem (by omega)⟩;obtain ⟨o,f⟩:=TL (k 0 v hv);rw [Ni] at f;rw [f];simp
end
end Lf
namespace Lf
abbrev D (α:Type):Type:=List UInt8->Nat->Except (Int×Nat) (α×Nat)
namespace D
variable {α β:Type}
def ret (x:α):D α:=λ_ at_=>.ok (x,at_)
def bind (d:D α) (f:α->D β):D β:=λb at_=>match d b at_ with
 | .ok (x,a)=>f x b a
 | .error e=>.error e
def num (k:Nat):D Nat:=λb at_=>if b.length<at_+k then .error (5,b.length) else .ok (HU ((b.drop at_).take k),at_+k)
def agI (d:D α) (a:α->Int):D α:=λb at_=>match d b at_ with
 | .ok (x,c)=>if a x=0 then .ok (x,c) else .error (a x,at_)
 | .error e=>.error e
def many (d:List α->D α):Nat->List α->D (List α)
 | 0,a=>ret a
 | n+1,a=>bind (d a) λx=>many d n (a++ [x])
def map (f:α->β) (d:D α):D β:=bind d λx=>ret (f x)
end D
end Lf
namespace Lf
namespace D
variable {α γ:Type}
end D
open D
def i64 (n:Nat):Int:=if n<9223372036854775808 then n else (n:Int)-18446744073709551616
def ug (x:Int):Prop:= -9223372036854775808<=x/\x<9223372036854775808
def oj (a b:Int) (n:Int):Int:=if jF n a b then 0 else 2
def mo (lU:Int) (n:Int):Int:=if n=0 then 1 else if lU<n then 3 else 0
end Lf
namespace Lf
abbrev By (k:Nat) (x:Int):Prop:=0<=x/\x<((256^k:Nat):Int)
def less (n:Int):Int:=n-1
theorem dZ {a b n:Int}:jF n a b=true↔a<=n/\n<=b:=by unfold jF;simp
theorem gK {a b n:Int}:jF n a b=false↔¬(a<=n/\n<=b):=by rw [<-Bool.not_eq_true,dZ]
theorem Nj {n ai:Int}:∀ {l:List eT} {i:Int},(km n ai l i).1=0↔∀x∈l,(mI x n ai).1=0
 | [],i=>by simp [km]
 | x::r,i=>by
  simp only [km];by_cases h:(mI x n ai).1=0
  ·rw [if_neg (λa=>a h),Nj];simp [h]
  grind
theorem W5 {l:List eT} {ai:Int} (a:0<=ai/\ai<=8):(jJ l ai).1=0↔l.length<=256/\∀x∈l,(mI x l.length ai).1=0:=by
 unfold jJ;rw [if_neg (by omega)];by_cases h:256<l.length
 ·grind
 ·rw [if_neg h,Nj];grind
theorem Mk {parts ai:Int}:∀ {l:List jH} {i:Int},(ud parts ai l i).1=0↔∀p∈l,(0<=p.part/\p.part<=parts-1)/\(jJ p.code ai).1=0
 | [],i=>by simp [ud]
 | p::r,i=>by
  simp only [ud];by_cases a:jF p.part 0 (parts-1)=false
  ·rw [if_pos a];have:=gK.1 a;grind
  ·rw [if_neg a];have c:=dZ.1 (Bool.not_eq_false _▸a:jF p.part 0 (parts-1)=true);by_cases b:(jJ p.code ai).1=0
   ·rw [if_neg (λd=>d b),Mk];simp [b,c]
   grind
def Typed (c:aW):Prop:=(∀a∈c.labels,By 8 a)/\∀p∈c.procs,∀x∈p.code,ug x.mS
theorem pX {m:Int} {c:aW}:(uq m c).1=0↔m=0/\c.table≠ []/\c.table.length<=64/\(∀x∈c.table,0<=x/\x<=c.labels.length-1)/\(1<=c.fuel/\c.fuel<=256)/\(1<=c.lane/\c.lane<=64)/\(0<=c.ai/\c.ai<=8)/\
  (0<=c.log/\c.log<=4096)/\c.procs≠ []/\c.procs.length<=32/\∀p∈c.procs,(0<=p.part/\p.part<=c.labels.length-1)/\(jJ p.code c.ai).1=0:=by
 unfold uq;by_cases b:m=0
 case neg=>rw [if_pos b];exact ⟨λe=>absurd e b,λe=>absurd e.1 b⟩
 rw [if_neg (λo=>o b)];by_cases i:c.table=[]
 ·rw [if_pos i];exact ⟨λe=>(by cases e),λe=>absurd i e.2.1⟩
 rw [if_neg i];by_cases l:64<c.table.length
 ·rw [if_pos l];exact ⟨λe=>(by cases e),λe=>(by have:=e.2.2.1;omega)⟩
 rw [if_neg l];by_cases a:c.table.all (λp=>jF p 0 (c.labels.length-1))=false
 ·rw [if_pos a];refine ⟨λe=>(by cases e),λe=> ?_⟩;have:c.table.all (λp=>jF p 0 (c.labels.length-1))=true:=List.all_eq_true.2 λx k=>dZ.2 (e.2.2.2.1 x k);rw [this] at a;cases a
 rw [if_neg a];have q:∀x∈c.table,0<=x/\x<=c.labels.length-1:=λx k=>dZ.1 (List.all_eq_true.1 (Bool.not_eq_false _▸a:c.table.all (λp=>jF p 0 (c.labels.length-1))=true) x k);by_cases d:jF c.fuel 1 256=false
 ·rw [if_pos d];exact ⟨λe=>(by cases e),λe=>absurd e.2.2.2.2.1 (gK.1 d)⟩
 rw [if_neg d];have r:=dZ.1 (Bool.not_eq_false _▸d:jF c.fuel 1 256=true);by_cases f:jF c.lane 1 64=false
 ·rw [if_pos f];exact ⟨λe=>(by cases e),λe=>absurd e.2.2.2.2.2.1 (gK.1 f)⟩
 rw [if_neg f];have s:=dZ.1 (Bool.not_eq_false _▸f:jF c.lane 1 64=true);by_cases g:jF c.ai 0 8=false
 ·rw [if_pos g];exact ⟨λe=>(by cases e),λe=>absurd e.2.2.2.2.2.2.1 (gK.1 g)⟩
 rw [if_neg g];have t:=dZ.1 (Bool.not_eq_false _▸g:jF c.ai 0 8=true);by_cases h:jF c.log 0 4096=false
 ·rw [if_pos h];exact ⟨λe=>(by cases e),λe=>absurd e.2.2.2.2.2.2.2.1 (gK.1 h)⟩
 rw [if_neg h];have u:=dZ.1 (Bool.not_eq_false _▸h:jF c.log 0 4096=true);by_cases j:c.procs=[]
 ·rw [if_pos j];exact ⟨λe=>(by cases e),λe=>absurd j e.2.2.2.2.2.2.2.2.1⟩
 rw [if_neg j];by_cases n:32<c.procs.length
 ·rw [if_pos n];exact ⟨λe=>(by cases e),λe=>(by have:=e.2.2.2.2.2.2.2.2.2.1;omega)⟩
 rw [if_neg n,Mk];grind
theorem wM :∀(n:Nat) (l:List Int),l.Nodup->(∀x∈l,0<=x/\x<n)->l.length<=n
 | 0,l,_,h=>by
  cases l with
  | nil=>simp
  | cons x r=>have:=h x (List.mem_cons_self ..);omega
 | n+1,l,b,h=>by
  by_cases f:(n:Int)∈l
  ·have:=wM n (l.erase (n:Int)) (b.erase _) λx a=>by
    have c:=h x (List.mem_of_mem_erase a);have d:x≠(n:Int):=λe=>by rw [e] at a;exact (b.not_mem_erase) a
    omega
   grind
  ·have:=wM n l b λx a=>by grind
   omega
section
variable {c:aW} {s:fA} {fl:Nat->Int->Prop}
end
end Lf
namespace Lf
open Go Go.Proofs Go.RowKit
theorem W7 {P:Program} {g:FuncId} {args:List Value} {sh:Shape} {K:sh.T->Hp->Prop} {h:Hp} {x:sh.T} (c:∀w,Sub h w->Calls P g args.toArray w λe b=>e=.returned (sh.enc x)/\b=w) (d:K x h):aa P g args sh K h:=by intro w a;refine (c w a).mono ?_;rintro e b ⟨rfl,rfl⟩;exact ⟨_,h,rfl,⟨x,rfl,d⟩,⟨a,Nat.le_refl _,λi j f=>⟨rfl,f⟩,rfl,rfl,rfl⟩⟩
def q6 (s:ByteArray) (c:UInt8):Bool:=decide (0<=Lib.indexByte s.data.toList c)
theorem TM {s:ByteArray} {c:UInt8} {K:Bool->Hp->Prop} {h:Hp} (a:K (q6 s c) h):aa Tryz.prog zvz [.string s,.string ⟨#[c]⟩] aR K h:=by refine W7 (x:=q6 s c) (λw _=> ?_) a;exact Tryz.strings_Contains_one s c w
def bD (x:bc):eT:=⟨x.Op,x.A,x.B,x.C,x.iV⟩
def gm :List (List UInt8):=[[],[97,105],[97,98],[97,98,99],[97,98,99],[97,98,99],[97,98,99],[97,98,99],[97,98,99],[97,98,99],[97,98,99],[97,98,99],[97,98,99],[97,98,99],[97,98,99],[97,98,99],[97,98,99],[97,98,99],[97,98,99],[97,98,99],[97,98],[97,98],[105],[97,105],[97,98,99],[97,98],[97,98],[97],[97],[105],[105],[97],[97],[97]]
def uH (op:Int):ByteArray:=if 0<=op/\op<34 then ⟨(gm.getD op.toNat []).toArray⟩ else ⟨#[]⟩
theorem TO :∀n,n<34->(decide (0<=Lib.indexByte (gm.getD n []) 97),decide (0<=Lib.indexByte (gm.getD n []) 98),decide (0<=Lib.indexByte (gm.getD n []) 99),decide (0<=Lib.indexByte (gm.getD n []) 105))=kG (n:Int):=by decide
theorem W9 (op:Int):(q6 (uH op) 97,q6 (uH op) 98,q6 (uH op) 99,q6 (uH op) 105)=kG op:=by
 by_cases h:0<=op/\op<34
 ·have e:=TO op.toNat (by omega);rw [Int.toNat_of_nonneg h.1] at e;rw [<-e];simp [q6,uH,h]
 ·have a:uH op=⟨#[]⟩:=if_neg h;rw [a];have b:kG op=(false,false,false,false):=by unfold kG;grind
  rw [b];decide
theorem adq :∀n,n<34->gm[n]? =some (gm.getD n []):=by decide
theorem Ru {a:Type} (l:List a) (i:Nat):List.get?Internal l i=l[i]?:=by simp
theorem P0 {op:Int} {Q:ByteArray->Hp->Prop} {h:Hp} (c:Q (uH op) h):CY Tryz.prog op Q h:=by
 unfold CY;refine aJ ?_;by_cases a:0<=op/\op<34
 ·rw [if_neg (by simp;omega)];refine ⟨a,uH op,?_,c⟩;have e:uH op=⟨(gm.getD op.toNat []).toArray⟩:=if_pos a;rw [Ru,e];have d:=adq op.toNat (by omega);rw [Nat.mul_one];have b:(gm.map λl=>Value.string ⟨l.toArray⟩)[op.toNat]? =some (Value.string ⟨(gm.getD op.toNat []).toArray⟩):=by grind
  exact b
 ·rw [if_pos (by simp;omega)];have e:uH op=⟨#[]⟩:=if_neg a;grind
theorem uV {P:Program} {g:FuncId} {first captured:Array Value} {args:List Value} {sh:Shape} {K:sh.T->Hp->Prop} {h:Hp} (b:tb.call g=true) (a:aa P g (first.toList++args++captured.toList) sh K h):eN P tb (.func (.func g) first captured) args sh K h:=
 ⟨g,first,captured,rfl,b,a⟩
theorem P2 {op:Int} {Q:Bool->Bool->Bool->Bool->Hp->Prop} {h:Hp} (l:∀d,h<=d->Q (kG op).1 (kG op).2.1 (kG op).2.2.1 (kG op).2.2.2 d):zzy Tryz.prog op Q h:=by
 unfold zzy;refine Y4 (P0 ?_);intro b t j;refine rP (b:=b) (off:=0) (cs:=[.string ⟨#[]⟩]) ⟨t,oX⟩ (by simp) λa i hb=> ?_;have k:h<=a:=(((Mv.new j).trans i).le (Hp.le_refl h) (by simp)).1;have g:bG a ⟨b,0,none⟩ [.string (uH op)]:=hb.nY (n:=1) (by rfl);have one:∀(c:UInt8) (K:Bool->Hp->Prop),K (q6 (uH op) c) a->eN Tryz.prog tb (.func (.func IU) #[] #[.pointer (some ⟨b,0,none⟩)]) [.string ⟨#[c]⟩] aR K a:=λc K f=>by refine uV rfl (VJ ?_);unfold I6;refine qc (sh:=qf) (uH op) g ?_;exact TM f
 have e:=W9 op;grind
theorem Ej {P:Program} {has:Bool} {n:Int} {Q:Int->Hp->Prop} {h:Hp} (b:Q (gu has n) h):zum P has n Q h:=by
 unfold zum;refine aJ ?_;unfold gu at b;by_cases a:has=false/\n≠0
 ·grind
 ·rw [if_neg a] at b;rw [if_neg (by cases has<;>simp at a ⊢;exact a)];refine aJ ?_;grind
theorem Zn {P:Program} {x:bc} {has:Bool} {n ai:Int} {Q:Int->Hp->Prop} {h:Hp}
  (c:Q (if has=false/\x.iV≠0 then 11 else if (x.Op=22\/x.Op=23)/\(x.iV<0\/n<x.iV) then 12 else if (x.Op=29\/x.Op=30)/\(x.iV<0\/ai<=x.iV) then 13 else 0) h):zzz P x has n ai Q h:=by
 unfold zzz;refine aJ ?_;by_cases a:has=false/\x.iV≠0
 ·grind
 ·rw [if_neg a] at c;rw [if_neg (by cases has<;>simp at a ⊢;exact a)];refine aJ ?_;by_cases b:x.Op=22\/x.Op=23
  ·rw [if_pos (by simp;exact b)];refine aJ ?_;grind
  ·rw [if_neg (λe=>b e.1)] at c;rw [if_neg (by simp;omega)];refine aJ ?_;by_cases d:x.Op=29\/x.Op=30
   ·rw [if_pos (by simp;exact d)];refine aJ ?_;grind
   grind
theorem abP {x:bc} {n ai:Int} {Q:Int->Int->Hp->Prop} {h:Hp} (a:∀b at_,h<=b->((mI (bD x) n ai).1≠0->at_=(mI (bD x) n ai).2)->Q (mI (bD x) n ai).1 at_ b):Dv Tryz.prog x n ai Q h:=by
 unfold Dv;refine aJ ?_;have le:=Hp.le_refl h;rw [show mI (bD x) n ai=(if x.Op<0\/34<=x.Op then (9,0)
  else if gu (kG x.Op).1 x.A≠0 then (gu (kG x.Op).1 x.A,1)
  else if gu (kG x.Op).2.1 x.B≠0 then (gu (kG x.Op).2.1 x.B,2)
  else if gu (kG x.Op).2.2.1 x.C≠0 then (gu (kG x.Op).2.2.1 x.C,3)
  else if (kG x.Op).2.2.2=false/\x.iV≠0 then (11,4)
  else if (x.Op=22\/x.Op=23)/\(x.iV<0\/n<x.iV) then (12,4)
  else if (x.Op=29\/x.Op=30)/\(x.iV<0\/ai<=x.iV) then (13,4)
  else (0,0)) from rfl] at a
 by_cases c:x.Op<0\/34<=x.Op
 ·grind
 ·rw [if_neg c] at a;rw [if_neg (by simp;omega)];refine Y0 (P2 λc g=> ?_);dsimp only;refine X9 (Ej ?_);by_cases d:gu (kG x.Op).1 x.A≠0
  ·grind
  ·rw [if_neg d] at a;rw [if_neg (by simpa using d)];refine X9 (Ej ?_);by_cases e:gu (kG x.Op).2.1 x.B≠0
   ·grind
   ·rw [if_neg e] at a;rw [if_neg (by simpa using e)];refine X9 (Ej ?_);by_cases f:gu (kG x.Op).2.2.1 x.C≠0
    ·grind
    ·rw [if_neg f] at a;rw [if_neg (by simpa using f)];refine Y2 (Zn ?_);grind
theorem Kk {x:bc} {n ai:Int} {Q:Int->Hp->Prop} {h:Hp} (b:∀a,h<=a->Q (mI (bD x) n ai).1 a):Du Tryz.prog x n ai Q h:=by unfold Du;exact abJ (abP λa _ l _=>b a l)
abbrev lR (h:Hp) (l:Sl) (a:List bc):Prop:=Rs h bn 5 l a
theorem Xb {l:Sl} {a:List bc} {ai:Int} {Q:Int->Int->Hp->Prop} {h:Hp} (r:lR h l a) (b:∀g,h<=g->Q (jJ (a.map bD) ai).1 (jJ (a.map bD) ai).2 g):EB Tryz.prog l ai Q h:=by
 unfold EB;have q:=r.1;refine aJ ?_;unfold jJ at b;by_cases j:ai<0\/8<ai
 ·rw [if_pos j] at b;rw [if_pos (by simp;omega)];exact b h (Hp.le_refl h)
 ·rw [if_neg j,List.length_map] at b;rw [if_neg (by simp;omega)];by_cases m:256<a.length
  ·rw [if_pos m] at b;rw [if_pos (by simp;omega)];exact b h (Hp.le_refl h)
  ·rw [if_neg m] at b;rw [if_neg (by simp;omega)];refine aA.intro (λi k=>h<=k/\0<=i/\i<=(a.length:Int)/\km a.length ai ((a.drop i.toNat).map bD) i=km a.length ai (a.map bD) 0) (λi _=>(a.length-i).toNat) ⟨Hp.le_refl h,by omega,by omega,rfl⟩ ?_;rintro i k ⟨e,o,w,c⟩;by_cases p:i<(a.length:Int)
   ·rw [if_pos (decide_eq_true (by omega))];refine Rs.get (sh:=bn) (Rw.mono e r) (λ_=>rfl) (by omega) o p λx t=> ?_;refine Jd (Kk λv n=> ?_);have f:a.drop i.toNat=x::a.drop (i.toNat+1):=by obtain ⟨y,u⟩:=List.getElem?_eq_some_iff.1 t;rw [<-u];simp
    rw [f,List.map_cons,km] at c;rw [q];by_cases d:(mI (bD x) a.length ai).1≠0
    ·rw [if_pos d] at c;rw [if_pos (by simpa using d)];rw [<-c] at b;exact b v (Hp.le_trans e n)
    ·rw [if_neg d] at c;rw [if_neg (by simpa using d)];have s:yw (i+1)=i+1:=wrap64 (by omega) (by omega);rw [s];refine ⟨⟨Hp.le_trans e n,by omega,by omega,?_⟩,by omega⟩;grind
   ·rw [if_neg (by simp;omega)];have f:a.drop i.toNat=[]:=List.drop_eq_nil_of_le (by omega);rw [f] at c;rw [<-c] at b;exact b k e
end Lf
namespace Lf
open Go
abbrev jq (x:Int):Prop:=0<=x/\x<18446744073709551616
def bit (x:Int) (n:Nat):Bool:=x.toNat.testBit n
theorem v8 {x:Int} (h:jq x):IntKind.wrap .u64 x=x:=by
 (try unfold yw);unfold IntKind.wrap
 simp only [IntKind.signed,IntKind.bits];have:=h.1;have:=h.2;simp;omega
theorem IA {x:Int} (h:jq x):BitVec.ofInt 64 x=BitVec.ofNat 64 x.toNat:=by obtain ⟨n,rfl⟩:=Int.eq_ofNat_of_zero_le h.1;rfl
theorem adr {x n:Int} (h:jq x) (c:0<=n) (f:n<=63):(fj .and .u64 (iC .u64 x n) 1==1)=bit x n.toNat:=by
 obtain ⟨X,rfl⟩:=Int.eq_ofNat_of_zero_le h.1;obtain ⟨N,rfl⟩:=Int.eq_ofNat_of_zero_le c;have d:X<18446744073709551616:=by have:=h.2;omega
 have g:N<=63:=by omega
 have a:iC .u64 (X:Int) (N:Int)=((X / 2^N:Nat):Int):=by
  unfold iC;have:min (N:Int).toNat (IntKind.bits .u64)=N:=by simp [IntKind.bits];omega
  rw [this,Int.fdiv_eq_ediv_of_nonneg _ (by exact Int.pow_nonneg (by decide))]
  norm_cast
 rw [a];have e:X / 2^N<18446744073709551616:=Nat.lt_of_le_of_lt (Nat.div_le_self _ _) d;have b:((BitVec.ofInt (IntKind.bits .u64) ((X / 2^N:Nat):Int)&&&BitVec.ofInt (IntKind.bits .u64) 1).toNat)=(X / 2^N)%2:=by show ((BitVec.ofNat 64 (X / 2^N))&&&(BitVec.ofNat 64 1)).toNat=_;rw [BitVec.toNat_and,BitVec.toNat_ofNat,BitVec.toNat_ofNat,Nat.mod_eq_of_lt e];exact Nat.and_one_is_mod _
 simp only [fj,b];rw [v8 ⟨by omega,by omega⟩];simp only [bit,Int.toNat_natCast,Nat.testBit_eq_decide_div_mod_eq];by_cases hb:(X / 2^N)%2=1
 ·simp [hb]
 ·have:(X / 2^N)%2=0:=by omega
  simp [this]
theorem ads {a b:Int} (g:jq a) (hb:jq b):(fj .andNot .u64 a b==0)=true↔∀n,n<64->bit a n=true->bit b n=true:=by
 have e:fj .andNot .u64 a b=(((BitVec.ofNat 64 a.toNat)&&& ~~~ (BitVec.ofNat 64 b.toNat)).toNat:Int):=by show IntKind.wrap .u64 ((BitVec.ofInt 64 a&&& ~~~ BitVec.ofInt 64 b).toNat:Int)=_;rw [IA g,IA hb,v8 ⟨by omega,by have:=((BitVec.ofNat 64 a.toNat)&&& ~~~ (BitVec.ofNat 64 b.toNat)).isLt;omega⟩]
 rw [e];have f:((((BitVec.ofNat 64 a.toNat)&&& ~~~ (BitVec.ofNat 64 b.toNat)).toNat:Int)==0)=true↔(BitVec.ofNat 64 a.toNat)&&& ~~~ (BitVec.ofNat 64 b.toNat)=0#64:=by rw [BitVec.toNat_eq];simp
 rw [f];have ga:∀n,n<64->(BitVec.ofNat 64 a.toNat).getLsbD n=bit a n:=λn c=>by rw [BitVec.getLsbD_ofNat];simp [bit,c]
 have gb:∀n,n<64->(BitVec.ofNat 64 b.toNat).getLsbD n=bit b n:=λn c=>by rw [BitVec.getLsbD_ofNat];simp [bit,c]
 constructor
 ·intro h n c d;have:=congrArg (λv=>v.getLsbD n) h;simp only [BitVec.getLsbD_and,BitVec.getLsbD_not,ga n c,gb n c,d,c,decide_true,Bool.true_and,BitVec.getLsbD_zero] at this;simpa using this
 ·intro h;apply BitVec.eq_of_getLsbD_eq;intro n c;simp only [BitVec.getLsbD_and,BitVec.getLsbD_not,ga n c,gb n c,c,decide_true,Bool.true_and,BitVec.getLsbD_zero];cases d:bit a n with
  | false=>rfl
  | true=>simp [h n c d]
end Lf
namespace Lf
open Go Go.Proofs Tryz
abbrev Us (h:Hp) (l:Sl) (a:List Int):Prop:=Rs h (ab .u64) 1 l a
abbrev Is (h:Hp) (l:Sl) (a:List Int):Prop:=Rs h (ab .i64) 1 l a
theorem aeH {P:Program} {l:Sl} {a:List Int} {Q:Int->Int->Hp->Prop} {h:Hp} (r:Us h l a) (C:a.length<=8) (j:a.Pairwise (· < ·)) (n:a=[]->Q 1 0 h) (z:a≠ []->Q 0 0 h):Mh P l Q h:=by
 unfold Mh;have D:=r.1;split
 ·rename_i e;have e:(l.len:Int)=0:=by simpa using e
  exact n (List.length_eq_zero_iff.1 (by omega))
 ·rename_i e;have e:¬(l.len:Int)=0:=by simpa using e
  split
  ·grind
  ·refine aA.intro (λi k=>k=h/\1<=i/\i<=(a.length:Int)) (λi _=>(a.length-i).toNat) ⟨rfl,by omega,by omega⟩ ?_;rintro i k ⟨rfl,A,B⟩;split
   ·rename_i b;have b:i<(l.len:Int):=by simpa using b
    have o:yw (i-1)=i-1:=wrap64 (by omega) (by omega);rw [o];refine r.get (λ_=>rfl) (by omega) (by omega) (by omega) λ(x:Int) c=> ?_;refine r.get (λ_=>rfl) (by omega) (by omega) (by omega) λ(y:Int) f=> ?_;have E:y<x:=by
     have m:(i-1).toNat<i.toNat:=by omega
     have t:=(List.getElem?_eq_some_iff.1 c);have w:=(List.getElem?_eq_some_iff.1 f);obtain ⟨q,s⟩:=t;obtain ⟨u,v⟩:=w;rw [<-s,<-v];exact List.pairwise_iff_getElem.1 j _ _ u q m
    rw [if_neg (show ¬((x==y)=true) by simp;omega)];refine r.get (λ_=>rfl) (by omega) (by omega) (by omega) λ(F:Int) d=> ?_;rw [c] at d;cases d;refine r.get (λ_=>rfl) (by omega) (by omega) (by omega) λ(G:Int) g=> ?_;rw [f] at g;cases g;rw [if_neg (show ¬(decide (x<y)=true) by simp;omega)];have p:yw (i+1)=i+1:=wrap64 (by omega) (by omega);rw [p];exact ⟨⟨rfl,by omega,by omega⟩,by omega⟩
   grind
abbrev OM (a h:Hp) (l:Sl) (b:List Int):Prop:=Own a h 1 (λx=>bu ((ab .u64).enc x)) l b
abbrev OL (a h:Hp) (l:Sl) (b:List Int):Prop:=Own a h 1 (λx=>bu ((ab .i64).enc x)) l b
def jg (a b:Int):Bool:=(List.range 64).all λn=> !bit a n || bit b n
theorem iF {a b:Int}:jg a b=true↔∀n,n<64->bit a n=true->bit b n=true:=by unfold jg;grind
theorem KN {a b:Int} {Q:Bool->Hp->Prop} {h:Hp} (c:jq a) (hb:jq b) (d:Q (jg a b) h):zzv prog a b Q h:=by
 unfold zzv;have:(fj .andNot .u64 a b==0)=jg a b:=by rw [Bool.eq_iff_iff,ads c hb,iF]
 grind
def fl (a:List Int) (i j:Int):Bool:=if 0<=i/\i<(a.length:Int)/\0<=j/\j<(a.length:Int) then jg (a.getD i.toNat 0) (a.getD j.toNat 0) else false
theorem GZ {xs:List Int} {i j:Int} {x y:Int} (h:0<=i/\0<=j) (a:xs[i.toNat]? =some x) (b:xs[j.toNat]? =some y):fl xs i j=jg x y:=by have c:=(List.getElem?_eq_some_iff.1 a).1;have d:=(List.getElem?_eq_some_iff.1 b).1;unfold fl;grind
theorem MB {xs:List Int} {i j:Int} (h:¬(0<=i/\i<(xs.length:Int)/\0<=j/\j<(xs.length:Int))):fl xs i j=false:=by unfold fl;rw [if_neg h]
def pA :List Int->Nat->List MapEntry
 | [],_=> []
 | x::r,j=>{key:=.int .u64 x,val:=.int .i64 (j:Int),born:=j}::pA r (j+1)
def place (a:Int):List Int->Nat->Option Nat
 | [],_=>none
 | x::r,j=>if a=x then some j else place a r (j+1)
theorem IB (a:Int):∀(b:List Int) (j:Nat),Instr.findNow (.int .u64) (.int .u64 a) (pA b j) j=some ((place a b j).map λ(k:Nat)=>(k,Value.int .i64 (k:Int)))
 | [],j=>rfl
 | x::r,j=>by
  simp only [pA,Instr.findNow,Instr.sameNow,if_true,place];by_cases h:a=x
  ·simp [h]
  ·have:(a==x)=false:=by simpa using h
   rw [this];simp only [if_neg h];exact IB a r (j+1)
theorem IC :∀(a:List Int) (x:Int) (j:Nat),pA (a++ [x]) j=pA a j++ [{key:=.int .u64 x,val:=.int .i64 ((j+a.length:Nat):Int),born:=j+a.length}]
 | [],x,j=>by simp [pA]
 | y::r,x,j=>by simp only [List.cons_append,pA,IC r x (j+1),List.length_cons];grind
theorem Nk {a:Int}:∀ {b:List Int} {j:Nat},a∉b->place a b j=none
 | [],_,_=>rfl
 | x::r,j,h=>by simp only [place];rw [if_neg λe=>h (by grind)];exact Nk λe=>h (List.mem_cons_of_mem _ e)
structure sx (h:Hp) (p:Addr) (ls:List Int):Prop where
 ex:∃(sl:Sl) (m:Nat),bG h p [sl.v,.map (some m)]/\Us h sl ls/\h m=some (.map (pA ls 0).toArray ls.length)
theorem sx.mono {h b:Hp} {p:Addr} {c:List Int} (a:h<=b) (t:sx h p c):sx b p c:=by obtain ⟨sl,m,d,e,f⟩:=t.ex;exact ⟨sl,m,qk a d,e.mono a,a _ _ f⟩
theorem sx.sl {h:Hp} {p:Addr} {a:List Int} (t:sx h p a) {K:Sl->Prop} (d:∀sl,Us h sl a->K sl):aQ none an h (p.add 0) K:=by
 obtain ⟨sl,m,b,c,e⟩:=t.ex;refine ⟨sl,λi v hv=> ?_,d sl c⟩;cases i with
 | zero=>have:=b 0 v (by simpa [bu,Sl.v] using hv);rw [s6];exact this
 | succ i=>simp [bu] at hv
theorem sx.Hs {h:Hp} {p:Addr} {a:List Int} (t:sx h p a) {c:Bool} {K:Sl->Prop} (e:∀sl,Us h sl a->K sl):aQ (some c) an h (p.add 0) K:=by obtain ⟨sl,b,d⟩:=t.sl e;exact ⟨sl,λ_=>b,d⟩
theorem sx.map {h:Hp} {p:Addr} {a:List Int} (t:sx h p a) {K:Option Nat->Prop} (d:∀m,h m=some (.map (pA a 0).toArray a.length)->K (some m)):aQ none gU h (p.add 1) K:=by
 obtain ⟨sl,m,b,e,c⟩:=t.ex;refine ⟨some m,λi v hv=> ?_,d m c⟩;cases i with
 | zero=>have:=b 1 v (by simpa [bu] using hv);rw [s6];exact this
 | succ i=>simp [bu] at hv
theorem Kl {p:Addr} {a:List Int} {i:Int} {Q:Bool->Hp->Prop} {h:Hp} (t:sx h p a) (b:Q (decide (0<=i)&&decide (i<(a.length:Int))) h):ZG prog (some p) i Q h:=by unfold ZG;refine aY (t.Hs λsl c=>aJ ?_);rw [c.1];exact b
theorem TP {p:Addr} {a:List Int} {i j:Int} {Q:Bool->Hp->Prop} {h:Hp} (t:sx h p a) (l:∀x∈a,jq x) (d:Q (fl a i j) h):Wz prog (some p) i j Q h:=by
 unfold Wz;refine zuy (Kl t ?_);generalize c:(decide (0<=i)&&decide (i<(a.length:Int)))=ci;refine ⟨λe=>zuy (Kl t ?_),λe=>⟨false,?_⟩⟩
 ·generalize b:(decide (0<=j)&&decide (j<(a.length:Int)))=q;refine aJ ?_;subst e;rw [Bool.true_and];simp at c;refine aY (t.Hs λsl f=> ?_);refine Rs.qZ f (0:Int) (λ_=>rfl) (by omega) (λ_=>c) λ(x:Int) m=> ?_;refine aY (t.Hs λo g=> ?_);refine Rs.qZ g (0:Int) (λ_=>rfl) (by omega) (λe=>by grind) λ(y:Int) n=> ?_;refine ⟨λe=> ?_,λe=>⟨false,?_⟩⟩
  ·have ex:=m e;have k:=n e;rw [e] at b;simp at b;refine H0 (KN (l x (List.mem_of_getElem? ex)) (l y (List.mem_of_getElem? k)) (aJ ?_));rw [e,Bool.true_and,<-GZ ⟨c.1,b.1⟩ ex k];exact d
  ·refine aJ ?_;rw [e] at b ⊢;rw [Bool.false_and,<-MB (xs:=a) (i:=i) (j:=j) (by simp at b;omega)];exact d
 ·subst e;simp at c;refine aJ ?_;rw [Bool.false_and];refine aY (t.Hs λsl f=> ?_);refine Rs.qZ f (0:Int) (λ_=>rfl) (by omega) (λe=>by cases e) λ(x:Int) m=> ?_;refine aY (t.Hs λo g=> ?_);refine Rs.qZ g (0:Int) (λ_=>rfl) (by omega) (λe=>by cases e) λ(y:Int) n=> ?_;refine ⟨λe=>(by cases e),λe=>⟨false,aJ ?_⟩⟩;rw [Bool.false_and,<-MB (xs:=a) (i:=i) (j:=j) (by omega)];exact d
theorem abQ {s:Sl} {xs:List Int} {Q:Sl->Hp->Prop} {h:Hp} (r:Us h s xs) (j:xs.length<=1000000) (f:∀out b,h<=b->OM h b out xs->Q out b):NN prog s Q h:=by
 unfold NN;refine ⟨s.base.isNone,OB (ae.aM 22 vY rfl) s,?_⟩;cases hb:s.base with
 | none=>
  rw [if_pos (show (none:Option Addr).isNone=true from rfl)];have:xs=[]:=by
   rcases r.2.2 with e | ⟨a,i,_⟩
   ·exact List.length_eq_zero_iff.1 (by omega)
   grind
  subst this;exact f _ h (Hp.le_refl h) ⟨rfl,Nat.le_refl _,.inl ⟨rfl,rfl⟩⟩
 | some a=>
  rw [if_neg (by simp)];refine zz (xs:=([]:List Int)) (enc:=λx=>bu ((ab .u64).enc x)) (sz:=1) (Hp.le_refl h) rfl (λ_=>rfl) λa g c d=> ?_;refine LA c d (Rw.mono c r) (λ_=>rfl) (λ_=>rfl) rfl ?_ λm b k l _=> ?_
  ·simp;omega
  grind
theorem Xd {b:List Int} (g:b.Pairwise (· < ·)) {t:Nat} {x:Int} (h:b[t]? =some x):x∉b.take t:=by
 intro f;obtain ⟨i,a⟩:=List.mem_iff_getElem?.1 f;rw [List.getElem?_take] at a;split at a
 ·rename_i e;obtain ⟨c,j⟩:=List.getElem?_eq_some_iff.1 a;obtain ⟨d,k⟩:=List.getElem?_eq_some_iff.1 h;have:=List.pairwise_iff_getElem.1 g i t c d e;omega
 ·cases a
theorem aeK {l:Sl} {a:List Int} {Q:Option Addr->Int->Int->Hp->Prop} {h:Hp} (r:Us h l a) (G:a.length<=8) (s:a.Pairwise (· < ·)) (L:a=[]->Q none 1 0 h)
  (E:a≠ []->∀p g,h<=g->sx g p a->Q (some p) 0 0 g):Mj prog l Q h:=by
 unfold Mj;refine zxh (aeH r G s (λe=> ?_) (λe=> ?_))
 ·grind
 rw [if_neg (by simp)];refine zhi (abQ r (by omega) λout q y J=> ?_);intro m A;have z:q<=q.set m (.map #[] 0):=nu A;intro b t hb;have n:=nu (o:=.cells (([out.v,.map (some m)]:List Value).toArray) t (0,0)) hb;have I:h m=none:=tV y A;have M:b≠m:=λe=>by rw [e,oX] at hb;cases hb
 have K:Us q out a:=J.rw λ_=>rfl;refine ⟨_,rfl,out,?_,?_⟩
 ·intro i v hv;cases i with
  | zero=>rw [s6];exact FW 0 v (by simpa [bu,Sl.v] using hv)
  | succ i=>simp [bu] at hv
 refine aA.intro (λi k=>h<=k/\0<=i/\i<=(a.length:Int)/\Us k out a/\bG k ⟨b,0,none⟩ [out.v,.map (some m)]/\k m=some (.map (pA (a.take i.toNat) 0).toArray i.toNat)) (λi _=>(a.length-i).toNat)
  ⟨Hp.le_trans y (Hp.le_trans z n),by omega,by omega,Rw.mono (Hp.le_trans z n) K,FW,n _ _ oX⟩ ?_
 rintro i k ⟨w,F,N,f,hp,d⟩;have O:=f.1;split
 ·rename_i e;have e:i<(out.len:Int):=by simpa using e
  refine Rs.get f (λ_=>rfl) (by omega) F (by omega) λ(x:Int) B=> ?_;refine ⟨_,rfl,some m,?_,?_⟩
  ·intro j v hv;cases j with
   | zero=>have:=hp 1 v (by simpa [bu] using hv);rw [s6];exact this
   | succ j=>simp [bu] at hv
  have H:(a.take i.toNat).length=i.toNat:=by grind
  refine ⟨m,_,_,rfl,d,.inl ⟨?_,?_⟩⟩
  ·have:=IB x (a.take i.toNat) 0;rw [Nk (Xd s B)] at this;exact this
  ·have u:∀o,pO k (k.set m o):=λo=>aet d rfl;rw [wrap64 (by omega) (by omega)];refine ⟨⟨Ka w I,by omega,by omega,Rw.ck (u _) f,LB (u _) hp,?_⟩,by omega⟩;rw [oX];have C:(i+1).toNat=i.toNat+1:=by omega
   have c:a.take (i.toNat+1)=a.take i.toNat++ [x]:=by rw [List.take_add_one,B];rfl
   rw [C,c,IC,H];grind
 ·rename_i c;have c:¬i<(out.len:Int):=by simpa using c
  have D:i.toNat=a.length:=by omega
  rw [D,List.take_length] at d;exact E e _ _ w ⟨out,m,hp,f,d⟩
def qz :Int->List Int->Int->Int×Int
 | _,[],_=>(0,0)
 | p,x::r,i=>if x=p then (8,i) else if x<p then (7,i) else qz x r (i+1)
def jM :List Int->Int×Int
 | []=>(1,0)
 | x::r=>if 8<r.length+1 then (3,8) else qz x r 1
theorem IE :∀ {r:List Int} {p i:Int},(qz p r i).1=0↔(p::r).Pairwise (· < ·)
 | [],p,i=>by simp [qz]
 | x::r,p,i=>by
  simp only [qz];by_cases b:x=p
  ·rw [if_pos b,List.pairwise_cons];refine ⟨λe=>(by cases e),λh=> ?_⟩;have:=h.1 x (List.mem_cons_self ..);omega
  ·rw [if_neg b];by_cases c:x<p
   ·rw [if_pos c,List.pairwise_cons];refine ⟨λe=>(by cases e),λh=> ?_⟩;have:=h.1 x (List.mem_cons_self ..);omega
   ·rw [if_neg c,IE,List.pairwise_cons (a:=p)];refine ⟨λh=>⟨λy hy=> ?_,h⟩,λh=>h.2⟩;rcases List.mem_cons.1 hy with rfl | hy
    ·omega
    ·have:=(List.pairwise_cons.1 h).1 y hy;omega
theorem lf {a:List Int}:(jM a).1=0↔a≠ []/\a.length<=8/\a.Pairwise (· < ·):=by
 cases a with
 | nil=>simp [jM]
 | cons x r=>
  simp only [jM,List.length_cons];by_cases h:8<r.length+1
  ·grind
  ·rw [if_neg h,IE];grind
theorem DP {P:Program} {l:Sl} {f:List Int} {Q:Int->Int->Hp->Prop} {h:Hp} (r:Us h l f) (e:Q (jM f).1 (jM f).2 h):Mh P l Q h:=by
 unfold Mh;have o:=r.1;cases u:f with
 | nil=>subst u;rw [if_pos (by simp [o])];exact e
 | cons b a=>
  subst u;simp only [List.length_cons] at o;rw [if_neg (show ¬(((l.len:Int)==0)=true) by simp;omega)];by_cases m:(l.len:Int)>8
  ·rw [if_pos (decide_eq_true m)];have:jM (b::a)=(3,8):=by simp only [jM];rw [if_pos (by omega)]
   grind
  rw [if_neg λg=>m (of_decide_eq_true g)];have E:jM (b::a)=qz b a 1:=by simp only [jM];grind
  rw [E] at e;refine aA.intro (λi k=>k=h/\1<=i/\i<=((a.length:Int)+1)/\∃p,(b::a)[(i-1).toNat]? =some p/\qz p ((b::a).drop i.toNat) i=qz b a 1) (λi _=>(a.length+1-i).toNat)
   ⟨rfl,by omega,by omega,b,rfl,rfl⟩ ?_
  rintro i k ⟨rfl,F,G,p,hp,c⟩;split
  ·rename_i d;have d:i<(l.len:Int):=by simpa using d
   have H:((b::a).length:Int)=(a.length:Int)+1:=by simp
   rw [wrap64 (n:=i-1) (by omega) (by omega)];refine r.get (λ_=>rfl) (by omega) (by omega) (by omega) λ(x:Int) j=> ?_;refine r.get (λ_=>rfl) (by omega) (by omega) (by omega) λ(y:Int) v=> ?_;rw [hp] at v;cases v;have D:(b::a).drop i.toNat=x::(b::a).drop (i.toNat+1):=by obtain ⟨B,C⟩:=List.getElem?_eq_some_iff.1 j;rw [List.drop_eq_getElem_cons B,C]
   rw [D] at c;simp only [qz] at c;by_cases t:x=p
   ·grind
   rw [if_neg (by simpa using t)];rw [if_neg t] at c;refine r.get (λ_=>rfl) (by omega) (by omega) (by omega) λ(I:Int) s=> ?_;rw [j] at s;cases s;refine r.get (λ_=>rfl) (by omega) (by omega) (by omega) λ(J:Int) w=> ?_;rw [hp] at w;cases w;by_cases q:x<p
   ·grind
   rw [if_neg λg=>q (of_decide_eq_true g)];rw [if_neg q] at c;rw [wrap64 (by omega) (by omega)];have z:(i+1).toNat=i.toNat+1:=by omega
   have A:(i+1-1).toNat=i.toNat:=by omega
   exact ⟨⟨rfl,by omega,by omega,x,by rw [A];exact j,by rw [z];exact c⟩,by omega⟩
  ·rename_i d;have d:¬i<(l.len:Int):=by simpa using d
   rw [List.drop_eq_nil_of_le (by simp;omega)] at c;rw [<-c] at e;exact e
theorem adt {l:Sl} {a:List Int} {Q:Option Addr->Int->Int->Hp->Prop} {h:Hp} (r:Us h l a) (j:(jM a).1≠0->Q none (jM a).1 (jM a).2 h)
  (d:(jM a).1=0->∀p b,h<=b->sx b p a->Q (some p) 0 0 b):Mj prog l Q h:=by
 by_cases c:(jM a).1=0
 ·obtain ⟨i,g,f⟩:=lf.1 c;exact aeK r g f (λe=>absurd e i) λ_=>d c
 ·unfold Mj;refine zxh (DP r ?_);grind
def cZ {c d:Type} (R:c->d->Prop):List c->List d->Prop
 | [],[]=>True
 | a::l,b::m=>R a b/\cZ R l m
 | _,_=>False
section
variable {α β:Type} {R S:α->β->Prop}
theorem cZ.len :∀ {l:List α} {m:List β},cZ R l m->l.length=m.length
 | [],[],_=>rfl
 | _::l,_::m,h=>by simp [cZ.len h.2]
 | [],_::_,h=>h.elim
 | _::_,[],h=>h.elim
theorem cZ.imp (c:∀a b,R a b->S a b):∀ {l:List α} {m:List β},cZ R l m->cZ S l m
 | [],[],_=>trivial
 | _::_,_::_,h=>⟨c _ _ h.1,cZ.imp c h.2⟩
 | [],_::_,h=>h.elim
 | _::_,[],h=>h.elim
theorem cZ.get :∀ {l:List α} {m:List β} {i:Nat} {a:α},cZ R l m->l[i]? =some a->∃b,m[i]? =some b/\R a b
 | [],_,_,_,_,e=>by simp at e
 | _::_,[],_,_,h,_=>h.elim
 | _::_,b::_,0,_,h,e=>by simp at e;subst e;exact ⟨b,rfl,h.1⟩
 | _::_,_::_,i+1,_,h,e=>by rw [List.getElem?_cons_succ] at e;obtain ⟨b,c,d⟩:=cZ.get h.2 e;grind
theorem cZ.get' :∀ {l:List α} {m:List β} {i:Nat} {b:β},cZ R l m->m[i]? =some b->∃a,l[i]? =some a/\R a b
 | _,[],_,_,_,e=>by simp at e
 | [],_::_,_,_,h,_=>h.elim
 | a::_,_::_,0,_,h,e=>by simp at e;subst e;exact ⟨a,rfl,h.1⟩
 | _::_,_::_,i+1,_,h,e=>by rw [List.getElem?_cons_succ] at e;obtain ⟨b,c,d⟩:=cZ.get' h.2 e;grind
theorem cZ.app :∀ {l a:List α} {m b:List β},cZ R l m->cZ R a b->cZ R (l++a) (m++b)
 | [],_,[],_,_,h=>h
 | _::_,_,_::_,_,h,c=>⟨h.1,cZ.app h.2 c⟩
 | [],_,_::_,_,h,_=>h.elim
 | _::_,_,[],_,h,_=>h.elim
theorem cZ.drop :∀ {l:List α} {m:List β} (n:Nat),cZ R l m->cZ R (l.drop n) (m.drop n)
 | _,_,0,h=>h
 | [],[],_+1,h=>h
 | _::_,_::_,n+1,h=>cZ.drop n h.2
 | [],_::_,_+1,h=>h.elim
 | _::_,[],_+1,h=>h.elim
theorem cZ.take :∀ {l:List α} {m:List β} (n:Nat),cZ R l m->cZ R (l.take n) (m.take n)
 | _,_,0,_=>trivial
 | [],[],_+1,h=>h
 | _::_,_::_,n+1,h=>⟨h.1,cZ.take n h.2⟩
 | [],_::_,_+1,h=>h.elim
 | _::_,[],_+1,h=>h.elim
end
def j3 (h:Hp) (q:aS) (p:jH):Prop:=q.Part=p.part/\∃a,lR h q.Code a/\a.map bD=p.code
abbrev GM (h:Hp) (l:Sl) (a:List aS):Prop:=Rs h bq 2 l a
structure dQ (h:Hp) (c:az) (p:aW):Prop where
 labels:Us h c.be p.labels
 table:Is h c.Table p.table
 fuel:c.Fuel=p.fuel
 lane:c.hZ=p.lane
 ai:c.cv=p.ai
 log:c.Log=p.log
 procs:∃ps,GM h c.aE ps/\cZ (j3 h) ps p.procs
section
variable {h b:Hp}
theorem j3.mono (f:h<=b) {q:aS} {p:jH} (a:j3 h q p):j3 b q p:=by obtain ⟨c,g,d,e⟩:=a;exact ⟨c,g,Rw.mono f d,e⟩
theorem dQ.mono (d:h<=b) {c:az} {p:aW} (a:dQ h c p):dQ b c p:=by obtain ⟨i,f,g⟩:=a.procs;exact ⟨Rw.mono d a.labels,Rw.mono d a.table,a.fuel,a.lane,a.ai,a.log,i,Rw.mono d f,g.imp λ_ _ e=>e.mono d⟩
end
section
variable {P:Program} {h:Hp}
theorem wy {n a b:Int} {Q:Bool->Hp->Prop} (c:Q (jF n a b) h):zzt P n a b Q h:=by unfold zzt;exact aJ c
theorem LH {n lU:Int} {Q:Int->Hp->Prop} (a:Q (mo lU n) h):Ec P n lU Q h:=by unfold Ec;unfold mo at a;grind
def wU (part n:Int):Int:=if part=2 then oj 1 256 n else if part=3 then oj 1 64 n else if part=4 then oj 0 8 n else if part=5 then oj 0 4096 n else 0
theorem Zo {part n:Int} {Q:Int->Hp->Prop} (c:Q (wU part n) h):zzs prog part n Q h:=by
 unfold zzs;unfold wU at c;have one:∀a b,Q (oj a b n) h->(if (!(jF n a b))=true then Q 2 h else Q 0 h):=λa b c=>by unfold oj at c;grind
 by_cases d:part=2
 ·rw [if_pos d] at c;rw [if_pos (by simpa using d)];exact zip (wy (one 1 256 c))
 ·rw [if_neg d] at c;rw [if_neg (by simpa using d)];by_cases e:part=3
  ·rw [if_pos e] at c;rw [if_pos (by simpa using e)];exact zip (wy (one 1 64 c))
  ·rw [if_neg e] at c;rw [if_neg (by simpa using e)];by_cases f:part=4
   ·rw [if_pos f] at c;rw [if_pos (by simpa using f)];exact zip (wy (one 0 8 c))
   ·rw [if_neg f] at c;rw [if_neg (by simpa using f)];by_cases g:part=5
    ·rw [if_pos g] at c;rw [if_pos (by simpa using g)];exact zip (wy (one 0 4096 c))
    grind
end
theorem Lg {h:Hp} {s:Sl} {a:List Int} {p:Int->Bool} {f:nH} {Q:Int->Hp->Prop} (r:Is h s a) (w:a.length<=1000000)
  (n:∀x∈a,∀(k:Hp) (K:Bool->Hp->Prop),h<=k->(∀d,h<=d->K (p x) d)->eN prog tb (.func (.func f.g) f.first f.captured) [.int .i64 x] aR K k)
  (q:∀i j,h<=j->(0<=i↔a.any p=true)->Q i j):Sd prog s f Q h:=by
 unfold Sd;have z:=r.1;refine aA.intro (λi k=>h<=k/\0<=i/\i<=(a.length:Int)/\∀x∈a.take i.toNat,p x=false) (λi _=>(a.length-i).toNat) ⟨Hp.le_refl h,by omega,by omega,λx b=>by simp at b⟩ ?_;rintro i k ⟨c,m,v,u⟩;by_cases l:i<(a.length:Int)
 ·rw [if_pos (decide_eq_true (by omega))];refine Rs.get (sh:=ab .i64) (Rw.mono c r) (λ_=>rfl) (by omega) m l λx b=> ?_;refine n x (List.mem_of_getElem? b) k _ c λd o=> ?_;cases hp:p x with
  | true=>grind
  | false=>
   rw [if_neg (by simp),wrap64 (by omega) (by omega)];refine ⟨⟨o,by omega,by omega,λy t=> ?_⟩,by omega⟩;have:(i+1).toNat=i.toNat+1:=by omega
   rw [this,List.take_add_one,b] at t;grind
 ·rw [if_neg (λe=>l (by have:=of_decide_eq_true e;omega))];refine q (-1) k c ⟨λe=>by omega,λe=> ?_⟩;obtain ⟨x,b,hp⟩:=List.any_eq_true.1 e;have:a.take i.toNat=a:=List.take_of_length_le (by omega);grind
theorem Zp {s:Sl} {xs:List Int} {Q:Sl->Hp->Prop} {h:Hp} (r:Is h s xs) (j:xs.length<=1000000) (f:∀out b,h<=b->OL h b out xs->Q out b):B0 prog s Q h:=by
 unfold B0;refine ⟨s.base.isNone,OB (ae.aM 23 pG rfl) s,?_⟩;cases hb:s.base with
 | none=>
  rw [if_pos (show (none:Option Addr).isNone=true from rfl)];have:xs=[]:=by
   rcases r.2.2 with e | ⟨a,i,_⟩
   ·exact List.length_eq_zero_iff.1 (by omega)
   grind
  subst this;exact f _ h (Hp.le_refl h) ⟨rfl,Nat.le_refl _,.inl ⟨rfl,rfl⟩⟩
 | some a=>
  rw [if_neg (by simp)];refine zz (xs:=([]:List Int)) (enc:=λx=>bu ((ab .i64).enc x)) (sz:=1) (Hp.le_refl h) rfl (λ_=>rfl) λa g c d=> ?_;refine LA c d (Rw.mono c r) (λ_=>rfl) (λ_=>rfl) rfl ?_ λm b k l _=> ?_
  ·simp;omega
  grind
theorem TS {h:Hp} {t:Sl} {xs:List Int} {n:Int} {Q:Option Addr->Int->Int->Hp->Prop} (r:Is h t xs) (D:1<=n) (F:n<=8) (B:xs≠ []) (G:xs.length<=64)
  (m:∀p i d,h<=d->Q p (if (xs.all λx=>jF x 0 (n-1))=false then 2 else 0) i d):Mi prog t n Q h:=by
 unfold Mi;have H:=r.1;have J:0<xs.length:=List.length_pos_iff.2 B;intro b ty z;have l:=nu (o:=.cells (#[Value.int .i64 n]) ty (0,0)) z;have a:bG (h.set b (.cells (#[Value.int .i64 n]) ty (0,0))) ⟨b,0,none⟩ [.int .i64 n]:=FW (cs:=[Value.int .i64 n]);refine qc (sh:=ab .i64) n a ?_;refine ⟨n,λ_=>a,?_⟩;refine aJ (aJ ?_);rw [if_neg (by simp;omega),if_neg (by simp;omega)];have y:(xs.any λx=>decide (x<0) || decide (x>=n))= !(xs.all λx=>jF x 0 (n-1)):=by
  rw [Bool.eq_iff_iff];simp only [List.any_eq_true,Bool.not_eq_true',List.all_eq_false,Bool.or_eq_true,decide_eq_true_eq];constructor
  ·rintro ⟨x,q,hb⟩;exact ⟨x,q,by rw [dZ];omega⟩
  ·rintro ⟨x,q,hb⟩;exact ⟨x,q,by rw [dZ] at hb;omega⟩
 refine ziq (f:=⟨K3, #[], #[.pointer (some ⟨b,0,none⟩)]⟩) (Lg (p:=λx=>decide (x<0) || decide (x>=n)) (Rw.mono l r) (by omega) (λx _ k K u w=> ?_) λi d c j=> ?_)
 ·refine uV (g:=K3) rfl (H2 ?_);unfold zzw;refine ⟨n,λ_=>qk u a,aJ (w k u)⟩
 ·dsimp only;rw [y] at j;cases s:(xs.all λx=>jF x 0 (n-1)) with
  | false=>rw [s] at j m;rw [if_pos (decide_eq_true (j.2 rfl))];exact m none i d (Hp.le_trans l c)
  | true=>rw [s] at j m;rw [if_neg (λe=>by grind)];refine qc (sh:=ab .i64) n (qk c a) ?_;refine Gg (Zp (Rw.mono (Hp.le_trans l c) r) (by omega) λout E v I=> ?_);refine ⟨⟨qk (Hp.le_trans c v) a,trivial⟩,?_⟩;intro C t2 A;exact m _ 0 _ (Hp.le_trans (Hp.le_trans l c) (Hp.le_trans v (nu A)))
def n8 :List Int->Int->Int×Int->Int×Int
 | [],_,z=>z
 | n::r,i,z=>if wU i n≠0 then (wU i n,i) else n8 r (i+1) z
def rA (c:aW):Int×Int:=if c.procs=[] then (1,6) else if 32<c.procs.length then (3,6) else ud c.labels.length c.ai c.procs 0
theorem Zq (m:Int) (c:aW):uq m c=if m≠0 then (m,0) else if c.table=[] then (1,1) else if 64<c.table.length then (3,1)
  else if (c.table.all λp=>jF p 0 (c.labels.length-1))=false then (2,1) else n8 [0,0,c.fuel,c.lane,c.ai,c.log] 0 (rA c):=by
 unfold uq;have a:wU 0 0=0:=rfl;have b:wU (0+1) 0=0:=rfl;have d:wU (0+1+1) c.fuel=oj 1 256 c.fuel:=rfl;have e:wU (0+1+1+1) c.lane=oj 1 64 c.lane:=rfl;have f:wU (0+1+1+1+1) c.ai=oj 0 8 c.ai:=rfl;have g:wU (0+1+1+1+1+1) c.log=oj 0 4096 c.log:=rfl;simp only [n8,a,b,d,e,f,g,ne_eq,not_true_eq_false,if_false];unfold oj rA;grind
def gN (c:aW):Int×Int:=uq (jM c.labels).1 c
theorem Nl {h:Hp} {c:az} {p:aW} {Q:Int->Int->Hp->Prop} (a:dQ h c p) (b:∀z,h<=z->Q (gN p).1 (gN p).2 z):EA prog c Q h:=by
 unfold EA;have le:=Hp.le_refl h;unfold gN at b;rw [Zq] at b;refine zxh (DP a.labels ?_);dsimp only;by_cases m:(jM p.labels).1≠0
 ·grind
 rw [if_neg m] at b;rw [if_neg (by simpa using m)];obtain ⟨O,b1,_⟩:=lf.1 (Classical.not_not.1 m);have R:=a.labels.1;have U:=a.table.1;have b2:0<p.labels.length:=List.length_pos_iff.2 O;refine JB (LH ?_);by_cases g:p.table=[]
 ·rw [if_pos g] at b;have e:mo 64 (c.Table.len:Int)=1:=by unfold mo;rw [if_pos (by rw [U,g];rfl)]
  grind
 rw [if_neg g] at b;have b4:0<p.table.length:=List.length_pos_iff.2 g;by_cases A:64<p.table.length
 ·rw [if_pos A] at b;have e:mo 64 (c.Table.len:Int)=3:=by unfold mo;rw [if_neg (by omega),if_pos (by omega)]
  grind
 rw [if_neg A] at b;have e:mo 64 (c.Table.len:Int)=0:=by unfold mo;omega
 rw [e,if_neg (by simp)];rw [R];refine JC (TS a.table (by omega) (by omega) g (by omega) λsp si B a8=> ?_);dsimp only;by_cases L:(p.table.all λx=>jF x 0 (p.labels.length-1))=false
 ·grind
 rw [if_neg L] at b;rw [if_neg (by grind)];refine zz (h0:=B) (xs:=([0,0,p.fuel,p.lane,p.ai,p.log]:List Int)) (enc:=λx=>bu ((ab .i64).enc x)) (sz:=1) (Hp.le_refl B) (by rw [a.fuel,a.lane,a.ai,a.log];rfl) (λ_=>rfl) λy C a9 o4=> ?_;have r4:Is C ⟨some y,6,6⟩ [0,0,p.fuel,p.lane,p.ai,p.log]:=o4.rw λ_=>rfl;have b0:=Hp.le_trans a8 a9;obtain ⟨w,H,F⟩:=a.procs;have S:=H.1;have T:=F.len;refine aA.intro (λi k=>C<=k/\0<=i/\i<=6/\n8 (([0,0,p.fuel,p.lane,p.ai,p.log]:List Int).drop i.toNat) i (rA p)=n8 [0,0,p.fuel,p.lane,p.ai,p.log] 0 (rA p)) (λi _=>(6-i).toNat) ⟨Hp.le_refl _,by omega,by omega,rfl⟩ ?_;rintro i k ⟨t,h0,M,d⟩;have P:=Hp.le_trans b0 t;by_cases o:i<6
 ·rw [if_pos (decide_eq_true o)];refine Rs.get (sh:=ab .i64) (l:=⟨some y,6,6⟩) (Rw.mono t r4) (λ_=>rfl) (by omega) h0 (by simpa using o) λx I=> ?_;refine YX (Zo ?_);have s:([0,0,p.fuel,p.lane,p.ai,p.log]:List Int).drop i.toNat=x::([0,0,p.fuel,p.lane,p.ai,p.log]:List Int).drop (i.toNat+1):=by grind
  rw [s,n8] at d;by_cases f:wU i x≠0
  ·grind
  ·rw [if_neg f] at d;rw [if_neg (by simpa using f),wrap64 (by omega) (by omega)];refine ⟨⟨t,by omega,by omega,?_⟩,by omega⟩;have:(i+1).toNat=i.toNat+1:=by omega
   grind
 ·rw [if_neg (λe=>o (of_decide_eq_true e))];have:i=6:=by omega
  subst this;rw [show ([0,0,p.fuel,p.lane,p.ai,p.log]:List Int).drop (6:Int).toNat=[] from rfl,n8] at d;rw [<-d] at b;unfold rA at b;refine JB (LH ?_);by_cases f:p.procs=[]
  ·rw [if_pos f] at b;have e:mo 32 (c.aE.len:Int)=1:=by unfold mo;rw [if_pos (by rw [S,T,f];rfl)]
   grind
  rw [if_neg f] at b;have b3:0<p.procs.length:=List.length_pos_iff.2 f;by_cases D:32<p.procs.length
  ·rw [if_pos D] at b;have e:mo 32 (c.aE.len:Int)=3:=by unfold mo;rw [if_neg (by omega),if_pos (by omega)]
   grind
  rw [if_neg D] at b;have e:mo 32 (c.aE.len:Int)=0:=by unfold mo;omega
  rw [e,if_neg (by simp)];refine aA.intro (λi J=>k<=J/\0<=i/\i<=(w.length:Int)/\ud p.labels.length p.ai (p.procs.drop i.toNat) i=ud p.labels.length p.ai p.procs 0) (λi _=>(w.length-i).toNat) ⟨Hp.le_refl _,by omega,by omega,rfl⟩ ?_;rintro i J ⟨G,h0,M,d⟩;have u:=Hp.le_trans P G;by_cases E:i<(w.length:Int)
  ·rw [if_pos (decide_eq_true (by omega))];refine Rs.get (sh:=bq) (Rw.mono u H) (λ_=>rfl) (by omega) h0 E λq I=> ?_;obtain ⟨v,W,X,is,N,V⟩:=F.get I;have s:p.procs.drop i.toNat=v::p.procs.drop (i.toNat+1):=by obtain ⟨b5,Y⟩:=List.getElem?_eq_some_iff.1 W;rw [<-Y];simp
   rw [s,ud] at d;rw [wrap64 (n:=(p.labels.length:Int)-1) (by omega) (by omega)];refine zip (wy ?_);rw [X];by_cases r:jF v.part 0 ((p.labels.length:Int)-1)=false
   ·rw [if_pos r] at d;rw [if_pos (by rw [r];rfl),wrap64 (by omega) (by omega)];grind
   rw [if_neg r] at d;rw [if_neg (by grind)];refine PG (Xb (Rw.mono u N) λZ K=> ?_);dsimp only;rw [V,a.ai];by_cases j:(jJ v.code p.ai).1≠0
   ·rw [if_pos j] at d;rw [if_pos (by simpa using j),wrap64 (by omega) (by omega)];rw [<-d] at b;exact b Z (Hp.le_trans u K)
   ·rw [if_neg j] at d;rw [if_neg (by simpa using j),wrap64 (by omega) (by omega)];refine ⟨⟨Hp.le_trans G K,by omega,by omega,?_⟩,by omega⟩;grind
  ·rw [if_neg (λe=>E (by have:=of_decide_eq_true e;omega))];rw [List.drop_eq_nil_of_le (by omega),ud] at d;grind
def Cg (x:bB):mL:=⟨x.dB,x.dV⟩
def rR (x:dv):qI:=⟨x.ee,x.dB,x.dV⟩
abbrev tq (h:Hp) (l:Sl) (a:List bB):Prop:=Rs h aH 2 l a
abbrev Ck (h:Hp) (l:Sl) (a:List dv):Prop:=Rs h cK 3 l a
structure gI (h:Hp) (x:bA) (p:bH):Prop where
 values:Is h x.dy p.values
 waiters:∃ws,tq h x.cq ws/\ws.map Cg=p.waiters
 taken:x.gJ=p.taken
 dropped:x.eH=p.dropped
structure cF (h:Hp) (x:aL) (p:ak):Prop where
 state:x.State=p.state
 pc:x.PC=p.pc
 bJ: [x.bW,x.bX,x.bY,x.bZ,x.cc,x.cd,x.cf,x.cg]=p.bJ
 af:x.Cursor=p.af
 timer:x.Timer=p.timer
 bN:x.gi=p.bN
 cQ:x.jI=p.cQ
 ag:∃ls,Rs h aX 4 x.eO ls/\cZ (gI h) ls p.ag
structure eV (h:Hp) (x:bf) (p:dt):Prop where
 af:x.Cursor=p.af
 log:∃es,Ck h x.Log es/\es.map rR=p.log
 lost:x.jG=p.lost
 forbidden:x.cU=p.forbidden
 aC:Is h x.dq p.aC
 au:∃qs,Rs h an 1 x.di qs/\cZ (Is h) qs p.au
structure cO (h:Hp) (x:aD) (p:fA):Prop where
 tick:x.ee=p.tick
 parts:∃ps,Rs h aP 6 x.bz ps/\cZ (eV h) ps p.parts
 procs:∃ps,Rs h aF 15 x.aE ps/\cZ (cF h) ps p.procs
section
variable {h b:Hp}
theorem gI.mono (c:h<=b) {x:bA} {p:bH} (a:gI h x p):gI b x p:=by obtain ⟨f,d,e⟩:=a.waiters;exact ⟨Rw.mono c a.values,⟨f,Rw.mono c d,e⟩,a.taken,a.dropped⟩
theorem cF.mono (c:h<=b) {x:aL} {p:ak} (a:cF h x p):cF b x p:=by obtain ⟨g,d,f⟩:=a.ag;exact ⟨a.state,a.pc,a.bJ,a.af,a.timer,a.bN,a.cQ,g,Rw.mono c d,f.imp λ_ _ e=>e.mono c⟩
theorem eV.mono (c:h<=b) {x:bf} {p:dt} (a:eV h x p):eV b x p:=by obtain ⟨d,f,g⟩:=a.log;obtain ⟨qs,i,j⟩:=a.au;exact ⟨a.af,⟨d,Rw.mono c f,g⟩,a.lost,a.forbidden,Rw.mono c a.aC,qs,Rw.mono c i,j.imp λ_ _ e=>Rw.mono c e⟩
theorem cO.mono (c:h<=b) {x:aD} {p:fA} (a:cO h x p):cO b x p:=by obtain ⟨j,d,f⟩:=a.parts;obtain ⟨qs,g,i⟩:=a.procs;exact ⟨a.tick,⟨j,Rw.mono c d,f.imp λ_ _ e=>e.mono c⟩,qs,Rw.mono c g,i.imp λ_ _ e=>e.mono c⟩
end
section
variable {h:Hp} {a:dO} {c:aW} {s:fA}
end
theorem Cz {sh:Shape} {c:Bool} {h:Hp} {a:Addr} {K:sh.T->Prop} (x:sh.T) (d:bG h a (bu (sh.enc x))) (b:K x):aQ (some c) sh h a K:=⟨x,λ_=>d,b⟩
section
variable {h:Hp} {a:dO} {c:aW} {s:fA}
end
def pv {e f:Type} (R:e->f->Hp->List Nat->Prop):List e->List f->Hp->List Nat->Prop
 | [],[],_,B=>B=[]
 | a::l,b::m,h,B=>∃c d,B=c++d/\R a b h c/\pv R l m h d
 | _,_,_,_=>False
structure iB {α β:Type} (R:α->β->Hp->List Nat->Prop):Prop where
 same:∀ {a b h h' B},R a b h B->(∀c∈B,h' c=h c)->R a b h' B
 known:∀ {a b h B},R a b h B->∀c∈B,h c≠none
section
variable {α β:Type} {R:α->β->Hp->List Nat->Prop} {h d:Hp}
theorem pv.same (ok:iB R):∀ {l:List α} {m:List β} {B:List Nat},pv R l m h B->(∀c∈B,d c=h c)->pv R l m d B
 | [],[],_,o,_=>o
 | _::_,_::_,_,⟨b,f,e,i,j⟩,a=>⟨b,f,e,ok.same i λc g=>a c (by grind),pv.same ok j λc g=>a c (by grind)⟩
 | [],_::_,_,o,_=>o.elim
 | _::_,[],_,o,_=>o.elim
theorem pv.known (ok:iB R):∀ {l:List α} {m:List β} {B:List Nat},pv R l m h B->∀c∈B,h c≠none
 | [],[],_,o,c,hc=>by rw [show _=[] from o] at hc;cases hc
 | _::_,_::_,_,⟨f,g,e,a,b⟩,c,hc=>by
  rw [e] at hc;rcases List.mem_append.1 hc with hc | hc
  ·exact ok.known a c hc
  ·exact pv.known ok b c hc
 | [],_::_,_,o,_,_=>o.elim
 | _::_,[],_,o,_,_=>o.elim
theorem pv.snoc {a:α} {b:β} {B':List Nat} (e:R a b h B'):∀ {l:List α} {m:List β} {B:List Nat},pv R l m h B->pv R (l++ [a]) (m++ [b]) h (B++B')
 | [],[],_,o=>by rw [show _=[] from o];exact ⟨B',[],by simp,e,rfl⟩
 | _::_,_::_,_,⟨c,f,j,g,i⟩=>⟨c,f++B',by grind,g,pv.snoc e i⟩
 | [],_::_,_,o=>o.elim
 | _::_,[],_,o=>o.elim
theorem pv.Co {S:α->β->Prop} (c:∀a b B,R a b h B->S a b):∀ {l:List α} {m:List β} {B:List Nat},pv R l m h B->cZ S l m
 | [],[],_,_=>trivial
 | _::_,_::_,_,⟨e,_,_,f,g⟩=>⟨c _ _ e f,pv.Co c g⟩
 | [],_::_,_,o=>o.elim
 | _::_,[],_,o=>o.elim
theorem dJ.one {sz:Nat} {enc:α->List Value} {l:Sl} {a:List α} {F:List Nat} (o:dJ h sz enc l a F):F=[]\/∃b,F=[b]:=by obtain ⟨_,_,o⟩:=o;grind
theorem dJ.nodup {sz:Nat} {enc:α->List Value} {l:Sl} {a:List α} {F:List Nat} (o:dJ h sz enc l a F):F.Nodup:=by rcases o.one with e | ⟨b,e⟩<;>rw [e]<;>simp
end
def gg {c d:Type} (S:c->d->Prop) (a:c) (b:d) (_:Hp) (B:List Nat):Prop:=B=[]/\S a b
theorem gg.ok {b β:Type} (S:b->β->Prop):iB (gg S):=⟨λo _=>o,λo c a=>by rw [o.1] at a;cases a⟩
def cm {c:Type} (sh:Shape) (sz:Nat) (R:sh.T->c->Hp->List Nat->Prop) (l:Sl) (d:List c) (h:Hp) (B:List Nat):Prop:=
 ∃(xs:List sh.T) (a b:List Nat),B=a++b/\dJ h sz (λx=>bu (sh.enc x)) l xs a/\pv R xs d h b
section
variable {β:Type} {sh:Shape} {sz:Nat} {R:sh.T->β->Hp->List Nat->Prop} {l:Sl} {ps:List β} {h d:Hp} {B:List Nat}
theorem cm.nil :cm sh sz R ⟨none,0,0⟩ [] h []:=⟨[],[],[],rfl,⟨rfl,Nat.le_refl _,.inl ⟨rfl,rfl,rfl⟩⟩,rfl⟩
theorem cm.ok (ok:iB R):iB (cm sh sz R) where
 same:=by rintro a b h d B ⟨xs,i,j,e,f,g⟩ k;exact ⟨xs,i,j,e,f.same λc hc=>k c (by grind),g.same ok λc hc=>k c (by grind)⟩
 known:=by
  rintro a b h B ⟨xs,i,j,e,f,g⟩ c hc;rw [e] at hc;rcases List.mem_append.1 hc with hc | hc
  ·exact f.known c hc
  ·exact g.known ok c hc
theorem cm.len (o:cm sh sz R l ps h B):l.len=ps.length:=by obtain ⟨xs,c,f,e,a,b⟩:=o;have:=(b.Co (S:=λ_ _=>True) λ_ _ _ _=>trivial).len;rw [<-this];exact a.1
theorem cm.rows {S:sh.T->β->Prop} (f:∀x,(bu (sh.enc x)).length=sz) (g:∀a b B,R a b h B->S a b) (o:cm sh sz R l ps h B):∃c,Rs h sh sz l c/\cZ S c ps:=by obtain ⟨c,k,m,e,i,j⟩:=o;exact ⟨c,i.rw f,j.Co g⟩
theorem abR (ok:iB R) (o:cm sh sz R l ps h B) {v:sh.T} {p:β} {f:List Nat} (e:R v p h f) (nd:(B++f).Nodup) {x:Sl} (L:Rs h sh sz x [v]) (E:∀x,(bu (sh.enc x)).length=sz) (J:∀x,jE (bu (sh.enc x))=true)
  {zero:List Value} {bytes:Nat} (N:zero.length=sz) (hb:ps.length+1<=140737488355328/\(ps.length+1)*bytes<=140737488355328) {K:Sl->Hp->Prop}
  (G:∀j d n,cm sh sz R j (ps++ [p]) d n->n.Nodup->(∀b k,h b=some k->b∉B->d b=some k)->(∀c∈n,c∈B++f\/h c=none)->K j d):gF sz bytes zero l x K h:=by
 have H:=o.len;obtain ⟨y,z,g,i,t,w⟩:=o;have M:y.length=ps.length:=by rw [<-H];exact t.1.symm
 have O:=w.known ok;have P:=ok.known e;refine xt t L E J N (by rw [M];exact hb) λj d q u m=> ?_;rw [i] at nd;have X:=nd;rw [List.append_assoc,List.nodup_append] at nd;obtain ⟨W,S,U⟩:=nd;have r:∀c∈g++f,c∉z:=λc hc hb=>U c hb c hc rfl;have Q:∀c∈g++f,h c≠none:=λc hc=>by
  rcases List.mem_append.1 hc with hc | hc
  ·exact O c hc
  ·exact P c hc
 have s:∀c∈g++f,d c=h c:=DN m Q r;have V:=(w.same ok λc hc=>s c (List.mem_append_left _ hc)).snoc (ok.same e λc hc=>s c (List.mem_append_right _ hc));have F:∀c∈q++(g++f),c∈B++f\/h c=none:=λc hc=>by
  rcases List.mem_append.1 hc with hc | hc
  ·rcases m.from_ c hc with hc | hc
   ·exact .inl (by rw [i];simp [hc])
   ·exact .inr hc
  ·refine .inl ?_;rw [i,List.append_assoc];exact List.mem_append_right _ hc
 refine G j d (q++(g++f)) ⟨y++ [v],q,g++f,rfl,u,V⟩ ?_ (λb k hb I=>m.cW b k hb λD=>I (by rw [i];simp [D])) F;rw [List.nodup_append];refine ⟨u.nodup,S,λa A b hb C=> ?_⟩;subst C;rcases m.from_ a A with hc | hc
 ·exact r a hb hc
 grind
end
abbrev zC (l:Sl) (a:List Int) (h:Hp) (B:List Nat):Prop:=cm (ab .i64) 1 (gg Eq) l a h B
abbrev Nz (l:Sl) (a:List Int) (h:Hp) (B:List Nat):Prop:=cm (ab .u64) 1 (gg Eq) l a h B
abbrev GG (l:Sl) (a:List eT) (h:Hp) (B:List Nat):Prop:=cm bn 5 (gg λx p=>bD x=p) l a h B
def qR (q:aS) (p:jH) (h:Hp) (B:List Nat):Prop:=q.Part=p.part/\GG q.Code p.code h B
abbrev MD (l:Sl) (a:List jH) (h:Hp) (B:List Nat):Prop:=cm bq 2 qR l a h B
def qP (x:bA) (p:bH) (h:Hp) (B:List Nat):Prop:=
 ∃a b,B=a++b/\zC x.dy p.values h a/\cm aH 2 (gg λx p=>Cg x=p) x.cq p.waiters h b/\x.gJ=p.taken/\x.eH=p.dropped
def mj (x:aL) (p:ak) (h:Hp) (B:List Nat):Prop:=
 cm aX 4 qP x.eO p.ag h B/\x.State=p.state/\x.PC=p.pc/\ [x.bW,x.bX,x.bY,x.bZ,x.cc,x.cd,x.cf,x.cg]=p.bJ/\x.Cursor=p.af/\x.Timer=p.timer/\x.gi=p.bN/\x.jI=p.cQ
def tj (x:bf) (p:dt) (h:Hp) (B:List Nat):Prop:=
 ∃a b c,B=a++(b++c)/\cm cK 3 (gg λx p=>rR x=p) x.Log p.log h a/\zC x.dq p.aC h b/\cm an 1 zC x.di p.au h c/\x.Cursor=p.af/\x.jG=p.lost/\x.cU=p.forbidden
def sv (x:aD) (p:fA) (h:Hp) (B:List Nat):Prop:=
 ∃a b,B=a++b/\cm aP 6 tj x.bz p.parts h a/\cm aF 15 mj x.aE p.procs h b/\x.ee=p.tick
def Cj (x:az) (c:aW) (h:Hp) (B:List Nat):Prop:=
 ∃a b d,B=a++(b++d)/\Nz x.be c.labels h a/\zC x.Table c.table h b/\MD x.aE c.procs h d/\x.Fuel=c.fuel/\x.hZ=c.lane/\x.cv=c.ai/\x.Log=c.log
theorem lV :iB zC:=cm.ok (gg.ok _)
theorem vI :iB Nz:=cm.ok (gg.ok _)
theorem vH :iB GG:=cm.ok (gg.ok _)
theorem wo :iB qR:=⟨λo a=>⟨o.1,vH.same o.2 a⟩,λo=>vH.known o.2⟩
theorem ny :iB MD:=cm.ok wo
theorem qe {a b:List Nat} {c:Nat} (h:c∈a):c∈a++b:=List.mem_append_left _ h
theorem nc {b a:List Nat} {c:Nat} (h:c∈a):c∈b++a:=List.mem_append_right _ h
theorem tc :iB qP where
 same:=by rintro a b h k B ⟨f,g,rfl,d,e,j⟩ i;exact ⟨f,g,rfl,lV.same d λc hc=>i c (qe hc),(cm.ok (gg.ok _)).same e λc hc=>i c (nc hc),j⟩
 known:=by
  rintro a b h B ⟨f,g,rfl,d,e,j⟩ c hc;rcases List.mem_append.1 hc with hc | hc
  ·exact lV.known d c hc
  ·exact (cm.ok (gg.ok _)).known e c hc
theorem wz :iB mj:=⟨λo a=>⟨(cm.ok tc).same o.1 a,o.2⟩,λo=>(cm.ok tc).known o.1⟩
theorem wq :iB tj where
 same:=by rintro a b h m B ⟨i,j,k,rfl,e,f,g,l⟩ d;exact ⟨i,j,k,rfl,(cm.ok (gg.ok _)).same e λc hc=>d c (qe hc),lV.same f λc hc=>d c (nc (qe hc)),(cm.ok lV).same g λc hc=>d c (nc (nc hc)),l⟩
 known:=by
  rintro a b h B ⟨i,j,k,rfl,e,f,g,l⟩ c hc;rcases List.mem_append.1 hc with hc | hc
  ·exact (cm.ok (gg.ok _)).known e c hc
  ·rcases List.mem_append.1 hc with hc | hc
   ·exact lV.known f c hc
   ·exact (cm.ok lV).known g c hc
theorem adu :iB sv where
 same:=by rintro a b h k B ⟨f,g,rfl,d,e,j⟩ i;exact ⟨f,g,rfl,(cm.ok wq).same d λc hc=>i c (qe hc),(cm.ok wz).same e λc hc=>i c (nc hc),j⟩
 known:=by
  rintro a b h B ⟨f,g,rfl,d,e,j⟩ c hc;rcases List.mem_append.1 hc with hc | hc
  ·exact (cm.ok wq).known d c hc
  ·exact (cm.ok wz).known e c hc
theorem Hg :iB Cj where
 same:=by rintro a b h m B ⟨i,j,k,rfl,e,f,g,l⟩ d;exact ⟨i,j,k,rfl,vI.same e λc hc=>d c (qe hc),lV.same f λc hc=>d c (nc (qe hc)),ny.same g λc hc=>d c (nc (nc hc)),l⟩
 known:=by
  rintro a b h B ⟨i,j,k,rfl,e,f,g,l⟩ c hc;rcases List.mem_append.1 hc with hc | hc
  ·exact vI.known e c hc
  ·rcases List.mem_append.1 hc with hc | hc
   ·exact lV.known f c hc
   ·exact ny.known g c hc
theorem DQ {a:Type}:∀ {l m:List a},cZ Eq l m->l=m
 | [],[],_=>rfl
 | _::_,_::_,h=>by rw [h.1,DQ h.2]
 | [],_::_,h=>h.elim
 | _::_,[],h=>h.elim
theorem zb {a b:Type} {f:a->b}:∀ {l:List a} {m:List b},cZ (λx p=>f x=p) l m->l.map f=m
 | [],[],_=>rfl
 | _::_,_::_,h=>by rw [List.map_cons,h.1,zb h.2]
 | [],_::_,h=>h.elim
 | _::_,[],h=>h.elim
section
variable {h:Hp} {B:List Nat}
theorem zC.rd {l:Sl} {c:List Int} (o:zC l c h B):Is h l c:=by obtain ⟨f,d,e⟩:=cm.rows (S:=Eq) (λ_=>rfl) (λa b B o=>o.2) o;rw [<-DQ e];exact d
theorem Nz.rd {l:Sl} {c:List Int} (o:Nz l c h B):Us h l c:=by obtain ⟨f,d,e⟩:=cm.rows (S:=Eq) (λ_=>rfl) (λa b B o=>o.2) o;rw [<-DQ e];exact d
theorem qR.rd {q:aS} {p:jH} (o:qR q p h B):j3 h q p:=by obtain ⟨e,o⟩:=o;obtain ⟨f,c,d⟩:=cm.rows (S:=λx p=>bD x=p) (λ_=>rfl) (λa b B o=>o.2) o;exact ⟨e,f,c,zb d⟩
theorem Cj.rd {x:az} {c:aW} (o:Cj x c h B):dQ h x c:=by obtain ⟨i,j,k,_,e,f,g,f1,f2,f3,d⟩:=o;exact ⟨e.rd,f.rd,f1,f2,f3,d,cm.rows (λ_=>rfl) (λa b B o=>o.rd) g⟩
theorem qP.rd {x:bA} {p:bH} (o:qP x p h B):gI h x p:=by obtain ⟨i,j,_,e,f,f1,f2⟩:=o;obtain ⟨g,c,d⟩:=cm.rows (S:=λx p=>Cg x=p) (λ_=>rfl) (λa b B o=>o.2) f;exact ⟨e.rd,⟨g,c,zb d⟩,f1,f2⟩
theorem mj.rd {x:aL} {p:ak} (o:mj x p h B):cF h x p:=by obtain ⟨g,f1,f2,f3,c,d,e,f⟩:=o;exact ⟨f1,f2,f3,c,d,e,f,cm.rows (λ_=>rfl) (λa b B o=>o.rd) g⟩
theorem tj.rd {x:bf} {p:dt} (o:tj x p h B):eV h x p:=by obtain ⟨j,k,l,_,e,f,g,f1,f2,f3⟩:=o;obtain ⟨i,c,d⟩:=cm.rows (S:=λx p=>rR x=p) (λ_=>rfl) (λa b B o=>o.2) e;exact ⟨f1,⟨i,c,zb d⟩,f2,f3,f.rd,cm.rows (λ_=>rfl) (λa b B o=>zC.rd o) g⟩
theorem sv.rd {x:aD} {p:fA} (o:sv x p h B):cO h x p:=by obtain ⟨e,f,_,c,d,f1⟩:=o;exact ⟨f1,cm.rows (λ_=>rfl) (λa b B o=>o.rd) c,cm.rows (λ_=>rfl) (λa b B o=>o.rd) d⟩
end
def jY {d f:Type} {R:d->f->Hp->List Nat->Prop} (ok:iB R) (v:d) (p:f):eh where
 R k F:=∃B,R v p k B/\B.Nodup/\∀b,F b↔b∈B
 same:=λ⟨B,h,n,e⟩ g=>⟨B,ok.same h λc a=>g c ((e c).2 a),n,e⟩
 known:=λ⟨B,h,n,e⟩ c a=>ok.known h c ((e c).1 a)
def fB {d:Type} (sz:Nat) (enc:d->List Value) (l:Sl) (g:List d):eh where
 R k F:=∃B,dJ k sz enc l g B/\∀b,F b↔b∈B
 same:=λ⟨B,h,e⟩ f=>⟨B,h.same λc a=>f c ((e c).2 a),e⟩
 known:=λ⟨B,h,e⟩ c a=>h.known c ((e c).1 a)
section
variable {h0 k:Hp} {α β:Type} {R:α->β->Hp->List Nat->Prop} {ok:iB R}
theorem Has.as_ {v:α} {p:β} (o:Has h0 (jY ok v p) k):∃B,R v p k B/\B.Nodup/\∀b∈B,h0 b=none:=by obtain ⟨_,F,⟨B,h,n,e⟩,a⟩:=o;grind
theorem Has.sJ {v:α} {p:β} {B:List Nat} (c:h0<=k) (h:R v p k B) (n:B.Nodup) (a:∀b∈B,h0 b=none):Has h0 (jY ok v p) k:=⟨c,(· ∈B),⟨B,h,n,λ_=>Iff.rfl⟩,a⟩
theorem Has.vK {sz:Nat} {enc:α->List Value} {l:Sl} {a:List α} (o:Has h0 (fB sz enc l a) k):Has h0 (eu sz enc l a) k:=by obtain ⟨d,F,⟨B,h,e⟩,c⟩:=o;exact Has.CF h d λb hb=>c b ((e b).2 hb)
theorem C0 {b c:Type} {S:b->c->Prop} {h:Hp}:∀ {l:List b} {m:List c},cZ S l m->pv (gg S) l m h []
 | [],[],_=>rfl
 | _::_,_::_,a=>⟨[],[],rfl,⟨rfl,a.1⟩,C0 a.2⟩
 | [],_::_,a=>a.elim
 | _::_,[],a=>a.elim
theorem Has.two {i j:Type} {f:i->j->Hp->List Nat->Prop} {l:iB f} {v:α} {p:β} {h:i} {g:j} (o:Has h0 ((jY ok v p).star (jY l h g)) k):
  ∃B c,R v p k B/\f h g k c/\(B++c).Nodup/\∀b∈B++c,h0 b=none:=by
 obtain ⟨_,F,⟨m,q,e,d,⟨B,a,n,ea⟩,⟨c,b,s,eb⟩⟩,r⟩:=o;grind
theorem Has.row {j:Type} {sh:Shape} {sz:Nat} {Q:sh.T->j->Hp->List Nat->Prop} {okQ:iB Q} {l:Sl} {g:List j} {v:sh.T} {p:j} {cs zero:List Value} {bytes:Nat} {K:Sl->Hp->Prop} (o:Has h0 ((jY (cm.ok (sh:=sh) (sz:=sz) okQ) l g).star (jY okQ v p)) k)
  (t:cs=bu (sh.enc v)) (i:∀x,(bu (sh.enc x)).length=sz) (C:∀x,jE (bu (sh.enc x))=true) (D:zero.length=sz) (hb:g.length+1<=140737488355328/\(g.length+1)*bytes<=140737488355328)
  (y:∀f d,Has h0 (jY (cm.ok (sh:=sh) (sz:=sz) okQ) f (g++ [p])) d->K f d):bP cs (λa m=>gF sz bytes zero l ⟨some a,1,1⟩ K m) k:=by
 refine iA (xs:=[v]) (sz:=sz) (enc:=λx=>bu (sh.enc x)) (by rw [t];simp) i λa m A n=> ?_;have o:=o.grow A;obtain ⟨B,G,r,e,nd,u⟩:=o.two;refine abR okQ r e nd (n.jb i) i C D hb λf d H F E z w=> ?_;refine y f d (Has.sJ (λb q eb=>z b q (o.1 b q eb) λhb=> ?_) F E λc s=> ?_)
 ·grind
 ·rcases w c s with h | h
  ·exact u c h
  ·exact tV o.1 h
theorem Has.n7 {a:Type} {sh:Shape} {sz:Nat} {Q:sh.T->a->Hp->List Nat->Prop} {okQ:iB Q} (b:h0<=k):Has h0 (jY (cm.ok (sh:=sh) (sz:=sz) okQ) (⟨none,0,0⟩:Sl) ([]:List a)) k:=
 Has.sJ b cm.nil .nil λ_ h=>by cases h
theorem Has.jQ {d:Type} {sh:Shape} {sz:Nat} {enc:d->List Value} {S:sh.T->d->Prop} {f:d->sh.T} {l:Sl} {c:List d} (o:Has h0 (fB sz enc l c) k) (n:∀x,enc x=bu (sh.enc (f x))) (j:∀x,S (f x) x):
  Has h0 (jY (cm.ok (sh:=sh) (sz:=sz) (gg.ok S)) l c) k:=by
 obtain ⟨q,F,⟨B,⟨s,h,t⟩,e⟩,p⟩:=o;have u:c.flatMap enc=(c.map f).flatMap λx=>bu (sh.enc x):=by rw [List.flatMap_map];congr 1;exact funext n
 have i:∀m:List d,cZ S (m.map f) m:=λm=>by
  induction m with
  | nil=>trivial
  | cons a m r=>exact ⟨j a,r⟩
 have g:dJ k sz (λx=>bu (sh.enc x)) l (c.map f) B:=⟨by grind,h,by grind⟩;refine Has.sJ q ⟨c.map f,B,[],by simp,g,C0 (i c)⟩ g.nodup λb hb=>p b ((e b).2 hb)
theorem rQ {P:Program} {sz:Nat} {enc:α->List Value} {s:Sl} {xs:List α} {p B bytes:Nat} {zero:List Value} {x y:Operand} {Q:Sl->Hp->Prop} (w:P.underlying p=some (.slice B)) (r:Rw k sz enc s xs) (G:0<sz) (j:∀x,(enc x).length=sz) (u:∀x,jE (enc x)=true) (z:zero.length=sz)
  (hb:xs.length<=140737488355328/\xs.length*bytes<=140737488355328) (l:∀f d,k<=d->Has k (fB sz enc f xs) d->Q f d):
  gw none P (cT .eql p x y s.v (.slice none 0 0)) aR k λx=>(if x=true then Q ⟨none,0,0⟩ k else bP [] (λa q=>gF sz bytes zero ⟨(some a),0,0⟩ s (λr t=>Q r t) q) k):=by
 refine ⟨s.base.isNone,OB w s,?_⟩;cases D:s.base with
 | none=>
  rw [if_pos (show (none:Option Addr).isNone=true from rfl)];have:xs=[]:=by
   rcases r.2.2 with e | ⟨a,C,_⟩
   ·exact List.length_eq_zero_iff.1 ((Nat.mul_eq_zero.1 e).resolve_right (by omega))
   grind
  subst this;exact l _ k (Hp.le_refl k) ⟨Hp.le_refl k,λ_=>False,⟨[],⟨rfl,Nat.le_refl _,.inl ⟨rfl,rfl,rfl⟩⟩,λb=>by simp⟩,λ_ h=>h.elim⟩
 | some a=>
  rw [if_neg (by simp)];refine CD (xs:=([]:List α)) (enc:=enc) (sz:=sz) rfl j λb H E n I A=> ?_;refine xt A (Rw.mono n r) j u z (by simpa using hb) λf d i o m=> ?_;have g:=m.le (h0:=k) n λc F=>by grind
  exact l f d g.1 ⟨g.1,(· ∈i),⟨i,by simpa using o,λ_=>Iff.rfl⟩,g.2⟩
end
abbrev um (l:Sl) (a:List Int):eh:=jY lV l a
abbrev OO (l:Sl) (a:List mL):eh:=jY (cm.ok (sh:=aH) (sz:=2) (gg.ok λx p=>Cg x=p)) l a
section
variable {h0 k:Hp} {q:Addr} {room:Int} {l:bH}
theorem II {Q:bA->Hp->Prop} (o:Has h0 (dW q room l) k) (hv:l.values.length<=100) (D:l.waiters.length<=100) (z:∀r g,Has h0 ((dW q room l).star (jY tc r l)) g->Q r g):YR prog (some q) Q k:=by
 unfold YR;obtain ⟨x,u,c,d,o⟩:=o.bL;refine aY (o.left.ld (shf:=an) x.values rfl ?_);refine aY (o.left.ld (shf:=an) x.waiters rfl ?_);refine aY (o.left.ld (shf:=ab .i64) x.taken rfl ?_);refine aY (o.left.ld (shf:=ab .i64) x.dropped rfl ?_);refine RI ?_;unfold NP;refine rQ (ae.aM 200 rK rfl) (o.right.left.jb (λ_=>rfl)) (by decide) (λ_=>rfl) (λ_=>rfl) rfl ⟨by omega,by omega⟩ λj h w A=> ?_;have a:=o.grow w;refine ⟨⟨a.left.fq (n:=1) rfl,a.left.fq (n:=1) rfl,a.left.fq (n:=1) rfl,trivial⟩,?_⟩;refine QF ?_;unfold NL;refine rQ (ae.aM 201 qi rfl) (a.right.right.jb (λ_=>rfl)) (by decide) (λ_=>rfl) (λ_=>rfl) rfl ⟨by omega,by omega⟩ λm b y C=> ?_;have i:=a.grow y;refine ⟨⟨i.left.fq (n:=1) rfl,i.left.fq (n:=1) rfl,trivial⟩,?_⟩;refine z _ b ?_;have s:Has k (um j l.values) h:=A.jQ (f:=λx=>x) (λ_=>rfl) λ_=>rfl;have t:Has h (OO m l.waiters) b:=C.jQ (f:=oH) (λ_=>rfl) λ_=>rfl;have both:=s.beside t;have lane:Has k (jY tc (⟨j,m,x.taken,x.dropped⟩:bA) l) b:=by obtain ⟨B,p,r,e,nd,v⟩:=both.two;exact Has.sJ both.le ⟨B,p,rfl,r,e,c,d⟩ nd v
 exact (Has.j9 o u c d).beside lane
end
section
variable {h0 k:Hp} {q:Addr} {room:Int} {l:bH}
theorem abS {s:Sl} {b:List mL} {Q:Bool->Hp->Prop} (r:Rw k 2 eW s b) (O:b.length<=1000000) (B:(b.map (·.proc)).Nodup) (S:∀c,k<=c->Q false c):Dw prog s Q k:=by
 unfold Dw;have P:=r.1;intro m u;have J:k<=k.set m (.map #[] 0):=nu u;refine aA.intro (λi c=>k<=c/\0<=i/\i<=(b.length:Int)/\∃f:List (Int×Int),gQ c m .i64 (ab .i64).enc f/\(∀a,iw a f≠none->a∈(b.take i.toNat).map (·.proc))) (λi _=>(b.length-i).toNat)
  ⟨J,by omega,by omega,[],⟨[],0,oX,rfl⟩,λa h=>absurd rfl h⟩ ?_
 rintro i c ⟨p,N,T,f,A,t⟩;by_cases F:i<(b.length:Int)
 ·rw [if_pos (decide_eq_true (by omega))];have rs:Rs c aH 2 s (b.map oH):=(r.mono p).map (enc:=λx=>bu (aH.enc x));refine rs.get (λ_=>rfl) (by omega) N (by rw [List.length_map];exact F) λ(x:bB) d=> ?_;rw [List.getElem?_map] at d;cases g:b[i.toNat]? with
  | none=>rw [g] at d;cases d
  | some w=>
   rw [g] at d;have d:x=oH w:=by simpa using d.symm
   subst d;have L:iw w.proc f=none:=by
    cases e:iw w.proc f with
    | none=>rfl
    | some v=>
     have D:=t w.proc (by rw [e];simp);obtain ⟨E,G⟩:=List.getElem?_eq_some_iff.1 g;have H:(b.map (·.proc))=(b.take i.toNat).map (·.proc)++(w.proc::(b.drop (i.toNat+1)).map (·.proc)):=by
      have:b=b.take i.toNat++w::b.drop (i.toNat+1):=by rw [<-G,<-List.drop_eq_getElem_cons E,List.take_append_drop]
      conv=>lhs;rw [this]
      simp
     rw [H] at B;exact absurd rfl ((List.nodup_append.1 B).2.2 _ D _ (List.mem_cons_self ..))
   refine za (sh:=ab .i64) (z:=(0:Int)) A rfl (λ_=> ?_) λv hv=>by rw [show (oH w).dB=w.proc from rfl,L] at hv;cases hv
   rw [wrap64 (by omega) (by omega)];refine Ix (ev:=(ab .i64).enc) (v:=(1:Int)) A λo R y=> ?_;have K:k m=none:=u;have I:k<=c.set m o:=Ka p K;have n:iw w.proc (kQ w.proc (1:Int) f)=some 1:=by rw [y9,if_pos rfl]
   refine za (sh:=ab .i64) (z:=(0:Int)) y rfl (λhv=>by rw [show (oH w).dB=w.proc from rfl,n] at hv;cases hv) λv hv=> ?_;have M:v=1:=by rw [show (oH w).dB=w.proc from rfl,n] at hv;exact (Option.some.inj hv).symm
   subst M;dsimp only;rw [if_neg (by decide),wrap64 (by omega) (by omega)];refine ⟨⟨I,by omega,by omega,_,y,λa j=> ?_⟩,by omega⟩;have C:(i+1).toNat=i.toNat+1:=by omega
   rw [C,List.take_add_one,g];rw [y9] at j;by_cases e:a=(oH w).dB
   ·rw [e];simp [oH]
   ·rw [if_neg e] at j;have:=t a j;simp only [List.map_append,List.mem_append];exact .inl this
 grind
theorem adv {Q:Option Addr->Int->Hp->Prop} (d:1<=room/\room<=64) (c:∀p a,k<=a->Has k (dR Ep p ⟨room,⟨none,0,0⟩,⟨none,0,0⟩,0,0⟩) a->Q (some p) 0 a):EI prog room Q k:=by unfold EI;refine ZN ?_;unfold Oq;refine aJ ?_;rw [show (decide (room>=1)&&decide (room<=64))=true by simp;omega];dsimp only;rw [if_neg (by decide)];exact oY (sh:=Ep) ⟨room,⟨none,0,0⟩,⟨none,0,0⟩,0,0⟩ rfl λp a b o=>c p a b o
structure OJ (room:Int) (l:bH):Prop where
 len:(l.values.length:Int)<=room
 full:l.waiters≠ []->(l.values.length:Int)=room
 taken:kh l.taken
 dropped:kh l.dropped
 once:(l.waiters.map (·.proc)).Nodup
 jW:l.waiters.length<=100
theorem Km {n:Int} {Q:Bool->Hp->Prop} (h:kh n) (a:Q true k):Oq prog n 0 65535 Q k:=by
 unfold Oq;refine aJ ?_;have:(decide (n>=0)&&decide (n<=65535))=true:=by unfold kh at h;simp;omega
 grind
theorem adw {x:bA} {Q:Option Addr->Int->Hp->Prop} (g:1<=room/\room<=64) (a:gI k x l) (v:OJ room l) (C:∀p f,k<=f->Has k (dW p room l) f->Q (some p) 0 f):EF prog room x Q k:=by
 unfold EF;refine PR (adv g λp r h s=> ?_);have hv:=a.values.1;obtain ⟨u,n,D⟩:=a.waiters;have m:u.length=l.waiters.length:=by grind
 have R:=n.1;have P:=v.len;have N:=v.jW;rw [if_neg (by decide)];have w:(decide (((x.cq.len:Nat):Int)>(0:Int))&&decide (((x.dy.len:Nat):Int)<room))=false:=by
  by_cases e:l.waiters=[]
  ·grind
  ·have:=v.full e;grind
 refine aJ (aJ ?_);rw [w,Bool.or_false,show decide (((x.dy.len:Nat):Int)>room)=false by simp;omega];refine ⟨λ_=>ZN (Km (by rw [a.taken];exact v.taken) ?_),λe=>by cases e⟩;refine aJ ⟨λ_=>ZN (Km (by rw [a.dropped];exact v.dropped) ?_),λe=>by cases e⟩;refine aJ ⟨λ_=>abL ?_,λe=>by cases e⟩;have j:Rw r 2 eW x.cq l.waiters:=by have A:Rw r 2 (λx=>bu (aH.enc x)) x.cq u:=Rw.mono h n;obtain ⟨y,z⟩:=A;refine ⟨by rw [y,m],?_⟩;rw [<-m,<-D,List.flatMap_map];exact z
 refine abS j (by omega) v.once λS c=> ?_;refine aJ ?_;rw [if_neg (by decide)];refine RI ?_;unfold NP;have hb:=g.2;refine Iq (ae.aM 200 rK rfl) (xs:=l.values) (enc:=fZ) (Rw.mono (Hp.le_trans h c) a.values) (by decide) (λ_=>rfl) (λ_=>rfl) rfl ⟨by omega,by omega⟩ λb T i G=> ?_;refine ⟨⟨trivial,trivial⟩,?_⟩;refine QF ?_;unfold NL;refine Iq (ae.aM 201 qi rfl) (xs:=l.waiters) (Rw.mono (Hp.le_trans c i) j) (by decide) (λ_=>rfl) (λ_=>rfl) rfl ⟨by omega,by omega⟩ λd E B H=> ?_;have o:=(s.grow (Hp.le_trans c (Hp.le_trans i B)));have o:Has k ((dR Ep p ⟨room,⟨none,0,0⟩,⟨none,0,0⟩,0,0⟩).star ((eu 1 fZ b l.values).star (eu 2 eW d l.waiters))) E:=(s.grow c).grow (Hp.le_refl _) |>.beside (G.beside H)
 obtain ⟨O,_,I,put⟩:=o.f1;refine aY (I.st (⟨room,b,⟨none,0,0⟩,0,0⟩:dX) (show (2:Nat)<=5 by decide) rfl λU J=> ?_);refine aY (J.st (⟨room,b,d,0,0⟩:dX) (show (3:Nat)<=5 by decide) rfl λV K=> ?_);refine aY (K.st (⟨room,b,d,x.gJ,0⟩:dX) (show (4:Nat)<=5 by decide) rfl λW L=> ?_);refine ⟨⟨trivial,trivial⟩,?_⟩;refine aY (L.st (⟨room,b,d,x.gJ,x.eH⟩:dX) (show (5:Nat)<=5 by decide) rfl λF M=> ?_);have t:=put _ _ M;exact C p F t.le (Has.j9 t rfl a.taken a.dropped)
end
abbrev eP :Addr->List Value:=λa=> [.pointer (some a)]
def a0 :Addr:=⟨0,0,none⟩
def mC :bH:=⟨[],[],0,0⟩
def wu (b:List Addr) (room:Int) (a:List bH):eh:=eh.first (λi=>dW (b.getD i a0) room (a.getD i mC)) a.length
def iz (p:Addr) (x:dK) (a:List Addr) (room:Int) (b:List bH):eh:=(dR Ow p x).star ((eu 1 eP x.ag a).star (wu a room b))
def eR (p:Addr) (room:Int) (a:List bH) (af:Int):eh:=
 .some_ λx:dK=>.some_ λb:List Addr=>(iz p x b room a).star (.fact (x.af=af/\b.length=a.length))
section
variable {h0 k:Hp} {p:Addr} {room af:Int} {c:List bH} {x:dK} {g:List Addr}
theorem nD {b:Type} {l:List b} {i:Nat} {a d:b} (h:l[i]? =some a):l.getD i d=a:=by grind
theorem Has.oe (o:Has h0 (eR p room c af) k):∃x g,x.af=af/\g.length=c.length/\Has h0 (iz p x g room c) k:=by obtain ⟨x,o⟩:=Has.ex.1 o;obtain ⟨g,o⟩:=Has.ex.1 o;obtain ⟨o,a,b⟩:=o.j8;grind
theorem Has.kR (o:Has h0 (iz p x g room c) k) (a:x.af=af) (b:g.length=c.length):Has h0 (eR p room c af) k:=Has.ex.2 ⟨x,Has.ex.2 ⟨g,o.fV ⟨a,b⟩⟩⟩
theorem Has.nX {i:Nat} {l:bH} (o:Has h0 (iz p x g room c) k) (f:c[i]? =some l):∃a,h0<=a/\Has a (dW (g.getD i a0) room l) k/\∀d b,Has a (dW (g.getD i a0) room d) b->Has h0 (iz p x g room (c.set i d)) b:=by
 obtain ⟨a,a1,s,put⟩:=o.f3;have n:i<c.length:=(List.getElem?_eq_some_iff.1 f).1;obtain ⟨m,a2,h,_,t⟩:=s.one n;rw [nD f] at h;refine ⟨m,Hp.le_trans a1 a2,h,λd b r=>put _ _ ?_⟩;have:=t _ _ r;unfold wu;rw [List.length_set];refine cast (congrArg (λA=>Has a A b) (tT λj q=> ?_)) this;by_cases e:j=i
 ·subst e;rw [kg,nD (List.getElem?_set_self q)]
 ·rw [kp e];grind
theorem Has.ptr (o:Has h0 (iz p x g room c) k) (a:g.length=c.length) {i:Nat} (b:i<c.length) {K:Option Addr->Prop} (d:K (some (g.getD i a0))):br x.ag.base x.ag.len (i:Int)/\aQ none aj k (sat x.ag.base 1 (i:Int)) K:=by have rs:Rs k aj 1 x.ag (g.map some):=(o.right.left.jb (λ_=>rfl)).map (f:=some) (enc:=λx=>bu (aj.enc x));refine rs.get (λ_=>rfl) (by omega) (by omega) (by rw [List.length_map];omega) λ(y:Option Addr) e=> ?_;grind
theorem C2 {n:Int} {Q:Bool->Hp->Prop} (o:Has h0 (eR p room c af) k) (d:0<=n/\n<c.length) (e:Q true k):YW prog (some p) n Q k:=by obtain ⟨x,g,a,b,o⟩:=o.oe;unfold YW;have f:=o.right.left.iR;refine aY ((Has.left o).Cz (shf:=an) x.ag rfl ?_);refine aJ ?_;grind
theorem Has.vB {i:Nat} {l:bH} (o:Has h0 (eR p room c af) k) (h:c[i]? =some l):∃(x:dK) (a:Addr) (b:Hp),(∀ {K:Sl->Prop},K x.ag->aQ none an k (p.add 0) K)/\(∀ {K:Option Addr->Prop},K (some a)->br x.ag.base x.ag.len (i:Int)/\aQ none aj k (sat x.ag.base 1 (i:Int)) K)/\h0<=b/\Has b (dW a room l) k/\
  ∀e d,Has b (dW a room e) d->Has h0 (eR p room (c.set i e) af) d:=by
 obtain ⟨x,g,j,m,o⟩:=o.oe;obtain ⟨b,a1,q,put⟩:=o.nX h;exact ⟨x,_,b,λf=>(Has.left o).ld (shf:=an) x.ag rfl f,λf=>o.ptr m (List.getElem?_eq_some_iff.1 h).1 f,a1,q,λe d n=>(put e d n).kR j (by grind)⟩
theorem adx {i:Nat} {l:bH} {v:Int} {Q:Int->Hp->Prop} (o:Has h0 (eR p room c af) k) (d:c[i]? =some l) (j:room<=64) (e:room<=(l.values.length:Int)->Q 19 k)
  (h:∀b,¬room<=(l.values.length:Int)->Has h0 (eR p room (c.set i (sH v l)) af) b->Q 0 b):Oj prog (some p) (i:Int) v Q k:=by
 unfold Oj;refine VQ (C2 o ⟨by omega,by have:=(List.getElem?_eq_some_iff.1 d).1;omega⟩ ?_);obtain ⟨x,a,r,ld,m,_,q,put⟩:=o.vB d;rw [if_neg (by decide)];refine aY (ld (m ?_));exact VB (ado q j e λb f n=>h b f (put _ _ n))
theorem abT {i:Nat} {l:bH} {Q:Hp->Prop} (o:Has h0 (eR p room c af) k) (d:c[i]? =some l) (e:kh l.dropped) (f:∀b,Has h0 (eR p room (c.set i (jN l)) af) b->Q b):Oa prog (some p) (i:Int) Q k:=by unfold Oa;refine VQ (C2 o ⟨by omega,by have:=(List.getElem?_eq_some_iff.1 d).1;omega⟩ ?_);obtain ⟨x,a,n,ld,h,_,m,put⟩:=o.vB d;rw [if_pos rfl];refine aY (ld (h ?_));exact U7 (abI m e λb j=>f b (put _ _ j))
theorem zc {b:Type} {f:b->b} {a:List b} {t:Nat} {y:b} (h:a[t]? =some y):((a.take t).map f++a.drop t).set t (f y)=(a.take (t+1)).map f++a.drop (t+1):=by
 obtain ⟨d,i⟩:=List.getElem?_eq_some_iff.1 h;have j:((a.take t).map f).length=t:=by rw [List.length_map,List.length_take];omega
 have e:a.drop t=y::a.drop (t+1):=by rw [List.drop_eq_getElem_cons d,i]
 rw [e,List.set_append_right _ _ (by omega),j,Nat.sub_self,List.set_cons_zero,List.take_add_one,h];simp
theorem C3 {a:Type} {f:a->a} {b:List a} {t:Nat} {y:a} (h:b[t]? =some y):((b.take t).map f++b.drop t)[t]? =some y:=by grind
theorem Zr {w:Int} {Q:Bool->Hp->Prop} (o:Has h0 (eR p room c af) k) (v:c.length<=1000000/\∀l∈c,l.waiters.length<=100) (u:∀b a,Has h0 (eR p room (c.map (sd w)) af) a->Q b a):YZ prog (some p) w Q k:=by
 obtain ⟨x,g,m,D,o⟩:=o.oe;unfold YZ;have F:=o.right.left.iR;refine aY ((Has.left o).ld (shf:=an) x.ag rfl ?_);refine dx.intro (λ(_:Bool) (i:Int) a=>0<=i/\i<=(c.length:Int)/\Has h0 (iz p x g room ((c.take i.toNat).map (sd w)++c.drop i.toNat)) a) (λ_ i _=>(c.length-i).toNat) ⟨by omega,by omega,by simpa using o⟩ ?_;rintro b i a ⟨G,H,o⟩;by_cases s:i<(c.length:Int)
 ·rw [if_pos (decide_eq_true (by omega))];have t:i.toNat<c.length:=by omega
  have d:=List.getElem?_eq_getElem t;generalize c[i.toNat]=l at d;have n:g.length=((c.take i.toNat).map (sd w)++c.drop i.toNat).length:=by grind
  obtain ⟨E,_,B,put⟩:=o.nX (C3 d);have h:=o.ptr n (i:=i.toNat) (by omega) (K:=λy=>y=some (g.getD i.toNat a0)) rfl;have f:((i.toNat:Nat):Int)=i:=by omega
  rw [f] at h;refine ⟨λr q=>0<=i/\i<(c.length:Int)/\Has h0 (iz p x g room ((c.take (i.toNat+1)).map (sd w)++c.drop (i.toNat+1))) q,⟨h.1,?_⟩,?_⟩
  ·obtain ⟨y,z,rfl⟩:=h.2;refine ⟨_,z,?_⟩;refine Ts (Zl B (v.2 l (List.mem_of_getElem? d)) λj A C=> ?_);have o:=put _ _ C;rw [zc d] at o;grind
  ·rintro j A ⟨_,_,o⟩;rw [wrap64 (by omega) (by omega)];grind
 ·rw [if_neg (λe=>s (by grind))];refine u b a ?_;have f:i.toNat=c.length:=by omega
  rw [f,List.take_length,List.drop_length,List.append_nil] at o;exact o.kR m (by grind)
end
section
variable {h0 k:Hp} {p:Addr} {room af:Int} {c:List bH} {x:dK} {d:List Addr}
theorem zm {e:Type}:∀ {l:List e} {i:Nat} {a:e},l[i]? =some a->l.set i a=l
 | [],_,_,h=>by cases h
 | b::l,0,a,h=>by cases h;rfl
 | b::l,i+1,a,h=>by rw [List.set_cons_succ,zm (by simpa using h)]
theorem abU {w:Int} {Q:Int->Hp->Prop} (o:Has h0 (eR p room c af) k) (h:c.length<=1000000/\∀l∈c,l.waiters.length<=100/\l.values.length<=100) (G:∀l∈c,∀z∈l.waiters,z.proc≠w) (I:∀a,Has h0 (eR p room c af) a->Q (-1) a):Zd prog (some p) w Q k:=by
 obtain ⟨x,d,A,n,o⟩:=o.oe;unfold Zd;have U:=o.right.left.iR;refine aY ((Has.left o).ld (shf:=an) x.ag rfl ?_);refine aA.intro (λ(i:Int) a=>0<=i/\i<=(c.length:Int)/\Has h0 (iz p x d room c) a) (λi _=>(c.length-i).toNat) ⟨by omega,by omega,o⟩ ?_;rintro i a ⟨W,X,o⟩;by_cases E:i<(c.length:Int)
 ·rw [if_pos (decide_eq_true (by omega))];have s:i.toNat<c.length:=by omega
  have b:=List.getElem?_eq_getElem s;generalize c[i.toNat]=l at b;have f:=List.mem_of_getElem? b;obtain ⟨R,_,O,put⟩:=o.nX b;have C:((i.toNat:Nat):Int)=i:=by omega
  have t:=o.ptr n s (K:=λy=>y=some (d.getD i.toNat a0)) rfl;rw [C] at t;obtain ⟨D,y,m,rfl⟩:=t;refine ⟨D,_,m,?_⟩;refine zsm (II O (h.2 l f).2 (h.2 l f).1 λr N v=> ?_);have J:c.set i.toNat l=c:=zm b;have P:=put _ _ v.left;rw [J] at P;obtain ⟨B,F,_⟩:=v.right.as_;obtain ⟨g,u,L⟩:=(qP.rd F).waiters;have V:g.length=l.waiters.length:=by grind
  have T:=u.1;have S:=(h.2 l f).1;refine aA.intro (λ(j:Int) a=>a=N/\0<=j/\j<=(g.length:Int)) (λj _=>(g.length-j).toNat) ⟨rfl,by omega,by omega⟩ ?_;rintro j _ ⟨rfl,M,Y⟩;by_cases q:j<(g.length:Int)
  ·rw [if_pos (decide_eq_true (by omega))];refine Rs.get (sh:=aH) u (λ_=>rfl) (by omega) M q λ(y:bB) m=> ?_;have H:y.dB≠w:=by
    have:Cg y∈l.waiters:=by rw [<-L];exact List.mem_map_of_mem (List.mem_of_getElem? m)
    exact G l f _ this
   rw [if_neg (show ¬(y.dB==w)=true by simp [H]),wrap64 (by omega) (by omega)];grind
  ·rw [if_neg (λe=>q (by have:=of_decide_eq_true e;omega)),wrap64 (by omega) (by omega)];grind
 ·rw [if_neg (λe=>E (by grind))];exact I a (o.kR A n)
theorem abV {i:Nat} {l:bH} {w v:Int} {Q:Int->Hp->Prop} (o:Has h0 (eR p room c af) k) (h:c.length<=1000000/\∀l∈c,l.waiters.length<=100/\l.values.length<=100) (g:∀l∈c,∀z∈l.waiters,z.proc≠w) (e:c[i]? =some l) (j:room<=(l.values.length:Int))
  (m:∀b,Has h0 (eR p room (c.set i (il w v l)) af) b->Q 0 b):ZI prog (some p) (i:Int) w v Q k:=by
 unfold ZI;refine VQ (C2 o ⟨by omega,by grind⟩ ?_);rw [if_neg (by decide)];refine Tw (abU o h g λt o=> ?_);rw [if_neg (by decide)];obtain ⟨x,a,s,ld,n,_,r,put⟩:=o.vB e;refine aY (ld (n ?_));have f:=List.mem_of_getElem? e;exact Va (abO r (h.2 l f).1 j (g l f) λb q=>m b (put _ _ q))
theorem ady {Q:Sl->Hp->Prop} (o:Has h0 (eR p room c af) k) (H:c.length<=1000/\∀l∈c,l.waiters.length<=100) (G:∀s f,Has h0 ((eR p room (c.map uu) af).star (eu 2 eW s (c.flatMap (·.waiters)))) f->Q s f):zuj prog (some p) Q k:=by
 obtain ⟨x,d,w,W,o⟩:=o.oe;unfold zuj;have hs:=o.right.left.iR;refine aY ((Has.left o).ld (shf:=an) x.ag rfl ?_);have nil:Has k (eu 2 eW (⟨none,0,0⟩:Sl) ([]:List mL)) k:=Has.jO (Hp.le_refl _);have E:∀t,((c.take t).flatMap (·.waiters)).length<=t*100:=by
  have:∀m:List bH,(∀l∈m,l.waiters.length<=100)->(m.flatMap (·.waiters)).length<=m.length*100:=λm=>by
   induction m with
   | nil=>intro _;simp
   | cons a m J=>intro h;have:=J λl b=>h l (List.mem_cons_of_mem _ b);have:=h a (List.mem_cons_self ..);simp only [List.flatMap_cons,List.length_append,List.length_cons];omega
  grind
 refine dx.intro (λ(s:Sl) (i:Int) f=>0<=i/\i<=(c.length:Int)/\Has h0 ((iz p x d room ((c.take i.toNat).map uu++c.drop i.toNat)).star (eu 2 eW s ((c.take i.toNat).flatMap (·.waiters)))) f) (λ_ i _=>(c.length-i).toNat)
  ⟨by omega,by omega,by simpa using o.beside nil⟩ ?_
 rintro s i f ⟨i0,i1,o⟩;by_cases D:i<(c.length:Int)
 ·rw [if_pos (decide_eq_true (by omega))];have F:i.toNat<c.length:=by omega
  have b:=List.getElem?_eq_getElem F;generalize c[i.toNat]=l at b;have z:d.length=((c.take i.toNat).map uu++c.drop i.toNat).length:=by grind
  obtain ⟨C,_,g,_,n⟩:=o.fst;obtain ⟨X,_,N,put⟩:=g.nX (C3 b);have q:=g.ptr z (i:=i.toNat) (by omega) (K:=λy=>y=some (d.getD i.toNat a0)) rfl;have j:((i.toNat:Nat):Int)=i:=by omega
  rw [j] at q;obtain ⟨B,y,I,rfl⟩:=q;refine ⟨B,_,I,?_⟩;refine VF (adp N λr L O=> ?_);have u:Has h0 (((iz p x d room ((c.take (i.toNat+1)).map uu++c.drop (i.toNat+1))).star (eu 2 eW s ((c.take i.toNat).flatMap (·.waiters)))).star (eu 2 eW r l.waiters)) L:=
   O.carry λf M=>by have op:=put _ _ M;rw [zc b] at op;exact n _ _ op
  have a8:l.waiters.length<=100:=H.2 l (List.mem_of_getElem? b);have Y:=E i.toNat;have v:(⟨s.base,s.len,s.cap⟩:Sl)=s:=rfl;rw [v];obtain ⟨Z,_,P,_,U⟩:=u.fst;obtain ⟨h7,_,R,_,V⟩:=P.snd;refine R.app (u.right.jb (λ_=>rfl)) (λ_=>rfl) (λ_=>rfl) rfl ⟨by omega,by omega⟩ λs' k3 S=> ?_;have T:=U _ _ (V _ _ S);rw [wrap64 (by omega) (by omega)];refine ⟨⟨by omega,by omega,?_⟩,by omega⟩;rw [show (i+1).toNat=i.toNat+1 by omega];have A:(c.take (i.toNat+1)).flatMap (·.waiters)=(c.take i.toNat).flatMap (·.waiters)++l.waiters:=by rw [List.take_add_one,b];simp
  rw [A];exact T.left
 ·rw [if_neg (λe=>D (by grind))];refine G _ f ?_;have j:i.toNat=c.length:=by omega
  rw [j,List.take_length,List.drop_length,List.append_nil] at o;obtain ⟨C,_,g,_,n⟩:=o.fst;exact n _ _ (g.kR w (by grind))
end
abbrev u6 (l:Sl) (a:List bH):eh:=jY (cm.ok (sh:=aX) (sz:=4) tc) l a
section
variable {h0 k:Hp} {p:Addr} {room af:Int} {b:List bH} {x:dK} {c:List Addr}
theorem Zs {Q:Sl->Int->Hp->Prop} (o:Has h0 (eR p room b af) k) (B:b.length<=1000/\∀l∈b,l.waiters.length<=100/\l.values.length<=100) (A:∀s a,Has h0 ((eR p room b af).star (u6 s b)) a->Q s af a):YP prog (some p) Q k:=by
 obtain ⟨x,c,j,m,o⟩:=o.oe;unfold YP;have P:=o.right.left.iR;refine aY ((Has.left o).ld (shf:=an) x.ag rfl ?_);have nil:Has k (u6 (⟨none,0,0⟩:Sl) ([]:List bH)) k:=Has.n7 (okQ:=tc) (Hp.le_refl _);refine dx.intro (λ(s:Sl) (i:Int) a=>0<=i/\i<=(b.length:Int)/\Has h0 ((iz p x c room b).star (u6 s (b.take i.toNat))) a) (λ_ i _=>(b.length-i).toNat) ⟨by omega,by omega,by simpa using o.beside nil⟩ ?_;rintro s i a ⟨R,S,o⟩;by_cases z:i<(b.length:Int)
 ·rw [if_pos (decide_eq_true (by omega))];have n:i.toNat<b.length:=by omega
  have d:=List.getElem?_eq_getElem n;generalize b[i.toNat]=l at d;have t:=B.2 l (List.mem_of_getElem? d);obtain ⟨w,_,f,_,h⟩:=o.fst;obtain ⟨N,_,F,put⟩:=f.nX d;have q:=f.ptr m n (K:=λy=>y=some (c.getD i.toNat a0)) rfl;have g:((i.toNat:Nat):Int)=i:=by omega
  rw [g] at q;obtain ⟨v,y,C,rfl⟩:=q;refine ⟨v,_,C,?_⟩;refine zsm (II F t.2 t.1 λr D G=> ?_);have J:Has h0 (((iz p x c room b).star (u6 s (b.take i.toNat))).star (jY tc r l)) D:=G.carry λa E=>by have op:=put _ _ E;rw [zm d] at op;exact h _ _ op
  obtain ⟨O,_,H,_,L⟩:=J.assoc.snd;have u:(⟨s.base,s.len,s.cap⟩:Sl)=s:=rfl;rw [u];refine H.row rfl (λ_=>rfl) (λ_=>rfl) rfl ⟨by rw [List.length_take];omega,by rw [List.length_take];omega⟩ λV T I=> ?_;have U:=L _ _ I;rw [wrap64 (by omega) (by omega)];refine ⟨⟨by omega,by omega,?_⟩,by omega⟩;have M:b.take (i.toNat+1)=b.take i.toNat++ [l]:=by rw [List.take_add_one,d];rfl
  grind
 ·rw [if_neg (λe=>z (by grind))];refine aY ((Has.left (Has.left o)).ld (shf:=ab .i64) x.af rfl ?_);rw [j];refine A _ a ?_;have g:i.toNat=b.length:=by omega
  rw [g,List.take_length] at o;obtain ⟨w,_,f,_,h⟩:=o.fst;exact h _ _ (f.kR j m)
theorem Xf {q:Addr} {l:bH} (e:c.length=b.length) (o:Has h0 ((wu c room b).star (dW q room l)) k):Has h0 (wu (c++ [q]) room (b++ [l])) k:=by
 unfold wu;rw [List.length_append];show Has h0 ((eh.first (λi=>dW ((c++ [q]).getD i a0) room ((b++ [l]).getD i mC)) b.length).star (dW ((c++ [q]).getD b.length a0) room ((b++ [l]).getD b.length mC))) k;have a:(c++ [q]).getD b.length a0=q:=by simp [List.getD,<-e]
 have d:(b++ [l]).getD b.length mC=l:=by simp [List.getD]
 rw [a,d];refine cast (congrArg (λA=>Has h0 (A.star (dW q room l)) k) (tT λi f=> ?_)) o;grind
theorem adz {s:Sl} {v:List bA} {Q:Option Addr->Int->Hp->Prop} (z:1<=room/\room<=64) (X:1<=b.length/\b.length<=9) (T:0<=af/\af<b.length) (r:Rs k aX 4 s v) (a:cZ (gI k) v b) (hv:∀l∈b,OJ room l)
  (E:∀p d,k<=d->Has k (eR p room b af) d->Q (some p) 0 d):EC prog room s af Q k:=by
 unfold EC;have W:=r.1;have Y:=a.len;refine aJ (aJ (aJ ?_));rw [show (decide ((s.len:Int)<1) || decide ((s.len:Int)>9) || decide (room<1) || decide (room>64))=false by simp;omega,if_neg (by decide)];refine aJ ?_;rw [show (decide (af<0) || decide (af>=(s.len:Int)))=false by simp;omega,if_neg (by decide)];refine oY (sh:=Ow) ⟨⟨none,0,0⟩,af⟩ rfl λp f U H=> ?_;have CO:Has k (iz p ⟨⟨none,0,0⟩,af⟩ [] room []) f:=H.beside ((Has.jO (Hp.le_refl f)).beside (Has.fact trivial (Hp.le_refl f)));refine aA.intro (λ(i:Int) d=>0<=i/\i<=(b.length:Int)/\∃(sl:Sl) (c:List Addr),c.length=i.toNat/\Has k (iz p ⟨sl,af⟩ c room (b.take i.toNat)) d) (λi _=>(b.length-i).toNat) ⟨by omega,by omega,_,[],rfl,CO⟩ ?_;rintro i d ⟨G,Z,sl,c,hp,o⟩;by_cases A:i<(b.length:Int)
 ·rw [if_pos (decide_eq_true (by omega))];refine Rs.get (sh:=aX) (Rw.mono o.le r) (λ_=>rfl) (by omega) G (by omega) λ(y:bA) F=> ?_;obtain ⟨l,t,D⟩:=a.get F;refine PO (adw z (D.mono o.le) (hv l (List.mem_of_getElem? t)) λq k2 V I=> ?_);rw [if_neg (by decide)];have o:=(o.beside I);refine aY ((Has.left (Has.left o)).ld (shf:=an) sl rfl ?_);obtain ⟨B,_,g,_,j⟩:=o.fst;obtain ⟨C,_,h,m⟩:=g.f2;refine h.push (e:=q) rfl (λ_=>rfl) (λ_=>rfl) rfl ⟨by omega,by omega⟩ λu k3 J=> ?_;have o:=j _ _ (m _ _ J);obtain ⟨B,_,g,_,j⟩:=o.fst;obtain ⟨C,_,h,m⟩:=g.f1;refine aY (h.st (⟨u,af⟩:dK) (show (1:Nat)<=2 by decide) rfl λk4 K=> ?_);have o:=j _ _ (m _ _ K);rw [wrap64 (by omega) (by omega)];have w:b.take (i.toNat+1)=b.take i.toNat++ [l]:=by rw [List.take_add_one,t];rfl
  refine ⟨⟨by omega,by omega,u,c++ [q],by simp;omega,?_⟩,by omega⟩;rw [show (i+1).toNat=i.toNat+1 by omega,w];have N:=o.assoc;obtain ⟨R,_,L,_,O⟩:=N.snd;obtain ⟨S,_,M,_,P⟩:=L.assoc.snd;exact O _ _ (P _ _ (Xf (by grind) M))
 ·rw [if_neg (λe=>A (by grind))];have n:i.toNat=b.length:=by omega
  rw [n,List.take_length] at o;rw [n] at hp;exact E p d o.le (o.kR rfl hp)
end
abbrev eL :aT->List Value:=λx=>bu (fG.enc x)
def tH :aT:=⟨0,⟨none,0,0⟩⟩
def ui (b:List aT) (a:List (List Int)):eh:=eh.first (λi=>eu 1 fZ (b.getD i tH).queue (a.getD i [])) a.length
def dI (p:Addr) (sl:Sl) (a:List aT) (b:List (List Int)):eh:=(dR Gm p ⟨sl⟩).star ((eu 2 eL sl a).star (ui a b))
def nk (p:Addr) (os:List Int) (qs:List (List Int)):eh:=
 .some_ λsl:Sl=>.some_ λa:List aT=>(dI p sl a qs).star (.fact (a.map (·.owner)=os/\a.length=qs.length))
section
variable {h0 k:Hp} {p:Addr} {os:List Int} {qs:List (List Int)} {sl:Sl} {xs:List aT}
theorem Has.mU (o:Has h0 (nk p os qs) k):∃sl xs,xs.map (·.owner)=os/\xs.length=qs.length/\Has h0 (dI p sl xs qs) k:=by obtain ⟨sl,o⟩:=Has.ex.1 o;obtain ⟨xs,o⟩:=Has.ex.1 o;obtain ⟨o,a,b⟩:=o.j8;grind
theorem Has.ji (o:Has h0 (dI p sl xs qs) k) (a:xs.map (·.owner)=os) (b:xs.length=qs.length):Has h0 (nk p os qs) k:=Has.ex.2 ⟨sl,Has.ex.2 ⟨xs,o.fV ⟨a,b⟩⟩⟩
theorem Has.sK {i:Nat} {x:aT} {q:List Int} (o:Has h0 (ui xs qs) k) (f:xs[i]? =some x) (d:qs[i]? =some q):∃h1,h0<=h1/\Has h1 (eu 1 fZ x.queue q) k/\∀c b a,Has h1 (eu 1 fZ c.queue b) a->Has h0 (ui (xs.set i c) (qs.set i b)) a:=by
 have h:i<qs.length:=(List.getElem?_eq_some_iff.1 d).1;have l:i<xs.length:=(List.getElem?_eq_some_iff.1 f).1;obtain ⟨h1,a1,g,_,put⟩:=Has.one h o;rw [nD f,nD d] at g;refine ⟨h1,a1,g,λc b a n=> ?_⟩;have:=put _ _ n;unfold ui;rw [List.length_set];refine cast (congrArg (λA=>Has h0 A a) (tT λj m=> ?_)) this;by_cases e:j=i
 ·subst e;rw [kg,nD (List.getElem?_set_self l),nD (List.getElem?_set_self m)]
 ·rw [kp e];grind
theorem Has.uS (o:Has h0 (dI p sl xs qs) k) {K:Sl->Prop} (a:K sl):aQ none an k (p.add 0) K:=(Has.left o).ld (shf:=an) sl rfl a
theorem Has.CB (o:Has h0 (dI p sl xs qs) k):Rs k fG 2 sl xs:=o.right.left.jb (λ_=>rfl)
theorem Has.qy {i:Nat} {x:aT} (o:Has h0 (dI p sl xs qs) k) (c:xs[i]? =some x) {K:Int->Prop} (b:K x.owner):br sl.base sl.len (i:Int)/\aQ none (ab .i64) k ((sat sl.base 2 (i:Int)).add 0) K:=
 Rw.vv (sh:=ab .i64) (o.right.left.jb (λ_=>rfl)) (λ_=>rfl) (by decide) (λx=>x.owner) (j:=0) (λ_=>rfl) (by omega) (by grind) λy a=>by rw [Int.toNat_natCast,c] at a;cases a;exact b
theorem Has.rm {i:Nat} {x:aT} (o:Has h0 (dI p sl xs qs) k) (c:xs[i]? =some x) {K:Sl->Prop} (b:K x.queue):br sl.base sl.len (i:Int)/\aQ none an k ((sat sl.base 2 (i:Int)).add 1) K:=
 Rw.vv (sh:=an) (o.right.left.jb (λ_=>rfl)) (λ_=>rfl) (by decide) (λx=>x.queue) (j:=1) (λ_=>rfl) (by omega) (by grind) λy a=>by rw [Int.toNat_natCast,c] at a;cases a;exact b
theorem Zu {i:Nat} {x x':aT} (a:xs[i]? =some x) (e:x'.queue=x.queue):ui (xs.set i x') qs=ui xs qs:=by unfold ui;grind
theorem Has.ou {i:Nat} {x:aT} {v:Int} {K:Hp->Prop} (o:Has h0 (dI p sl xs qs) k) (b:xs[i]? =some x) (c:∀a,Has h0 (dI p sl (xs.set i ⟨v,x.queue⟩) qs) a->K a):da k ((sat sl.base 2 (i:Int)).add 0) [.int .i64 v] K:=by obtain ⟨f,_,e,put⟩:=o.f2;refine e.CN (λ_=>rfl) b (x':=⟨v,x.queue⟩) (show (1:Nat)<=2 by decide) rfl λa d=>c a ?_;have:=put _ _ d;unfold dI;rw [Zu (x':=⟨v,x.queue⟩) b rfl];exact this
theorem Has.sL {i:Nat} {x:aT} {s:Sl} {q b:List Int} {K:Hp->Prop} {h1:Hp} (g:Has h0 ((dR Gm p ⟨sl⟩).star ((eu 2 eL sl xs).star (ui (xs.set i ⟨x.owner,s⟩) (qs.set i b)))) k) (d:xs[i]? =some x)
  (c:∀a,Has h0 (dI p sl (xs.set i ⟨x.owner,s⟩) (qs.set i b)) a->K a):da k ((sat sl.base 2 (i:Int)).add 1) [s.v] K:=by
 obtain ⟨h,_,f,put⟩:=g.f2;refine f.CN (λ_=>rfl) d (x':=⟨x.owner,s⟩) (show (2:Nat)<=2 by decide) rfl λa e=>c a (put _ _ e)
theorem IN {n w:Int} {Q:Int->Hp->Prop} (o:Has h0 (nk p os qs) k) (c:0<=n/\n<qs.length) (f:0<=w) (d:Q 0 k):WC prog (some p) n w Q k:=by obtain ⟨sl,xs,a,b,o⟩:=o.mU;unfold WC;have e:=o.right.left.iR;refine aY ((Has.left o).Cz (shf:=an) sl rfl ?_);refine aJ ?_;grind
theorem IQ {w:Int} {Q:Int->Bool->Hp->Prop} (o:Has h0 (dI p sl xs qs) k) (l:xs.length=qs.length) (d:qs.length<=1000/\∀q∈qs,q.length<=100) (e:∀q∈qs,w∉q) (r:Q 0 false k):Ww prog (some p) w Q k:=by
 unfold Ww;have s:=o.right.left.iR;refine aY (o.uS ?_);refine aA.intro (λ(i:Int) h=>h=k/\0<=i/\i<=(qs.length:Int)) (λi _=>(qs.length-i).toNat) ⟨rfl,by omega,by omega⟩ ?_;rintro i _ ⟨rfl,g,t⟩;by_cases n:i<(qs.length:Int)
 ·rw [if_pos (decide_eq_true (by omega))];refine o.CB.get (λ_=>rfl) (by omega) g (by omega) λ(y:aT) f=> ?_;have c:i.toNat<qs.length:=by omega
  have a:=List.getElem?_eq_getElem c;generalize qs[i.toNat]=q at a;have b:=List.mem_of_getElem? a;obtain ⟨m,_,j,_⟩:=o.right.right.sK f a;refine zju (Ld (j.jb (λ_=>rfl)) (by have:=d.2 q b;omega) ?_);dsimp only;rw [if_neg (by simpa using e q b),wrap64 (by omega) (by omega)];exact ⟨⟨rfl,by omega,by omega⟩,by omega⟩
 grind
theorem Zw {n:Nat} {w a:Int} {Q:Bool->Int->Hp->Prop} {q:List Int} (o:Has h0 (nk p os qs) k) (h:qs.length<=1000/\∀q∈qs,q.length<=100) (y:∀q∈qs,w∉q) (B:0<=w) (z:os[n]? =some a) (f:qs[n]? =some q)
  (h1:(a= -1\/a=w)->∀b,Has h0 (nk p (os.set n w) qs) b->Q true 0 b) (r:¬(a= -1\/a=w)->∀b,Has h0 (nk p os (qs.set n (q++ [w]))) b->Q false 0 b):X3 prog (some p) (n:Int) w Q k:=by
 unfold X3;have O:n<qs.length:=(List.getElem?_eq_some_iff.1 f).1;refine zqd (IN o ⟨by omega,by omega⟩ B ?_);rw [if_neg (by decide)];obtain ⟨sl,xs,l,m,o⟩:=o.mU;refine zqc (IQ o m h y ?_);rw [if_neg (by decide)];obtain ⟨x,d,C⟩:∃x,xs[n]? =some x/\x.owner=a:=by grind
 have t:=(o.qy d (K:=λ_=>True) trivial).1;refine aY (o.uS ⟨t,?_⟩);refine ⟨λ_ b=>∃v,((a= -1/\v=w)\/(a≠ -1/\v=a))/\Has h0 (dI p sl (xs.set n ⟨v,x.queue⟩) qs) b,?_,?_⟩
 ·refine aY (o.qy d ?_).2;rw [C];by_cases e:a= -1
  ·rw [if_pos (by simp [e])];refine aY (o.ou d λb S=> ?_);grind
  ·rw [if_neg (by simp [e])];refine ⟨a,.inr ⟨e,rfl⟩,?_⟩;have:(⟨a,x.queue⟩:aT)=x:=by cases x;grind
   rw [this,zm d];exact o
 ·rintro _ E ⟨v,hv,o⟩;have c:(xs.set n ⟨v,x.queue⟩)[n]? =some ⟨v,x.queue⟩:=List.getElem?_set_self (List.getElem?_eq_some_iff.1 d).1;have u:(xs.set n ⟨v,x.queue⟩).length=qs.length:=by grind
  have i:(xs.set n ⟨v,x.queue⟩).map (·.owner)=os.set n v:=by rw [List.map_set,l]
  refine aY (o.qy c ?_).2;dsimp only;by_cases e:v=w
  ·rw [if_neg (show ¬(v !=w)=true by simp [e])];refine aY (o.qy c ?_).2;rw [show (v==w)=true by simp [e]];refine h1 (by omega) E (o.ji ?_ u);rw [i,e]
  ·rw [if_pos (show (v !=w)=true by simp [e])];refine aY (o.rm c ?_).2;obtain ⟨s,_,G,L⟩:=o.f3;obtain ⟨N,_,H,M⟩:=G.sK c f;have P:=h.2 q (List.mem_of_getElem? f);refine H.push (e:=w) rfl (λ_=>rfl) (λ_=>rfl) rfl ⟨by omega,by omega⟩ λg R I=> ?_;have J:=L _ _ (M ⟨v,g⟩ _ _ I);refine aY (Has.sL (x:=⟨v,x.queue⟩) (q:=q) (h1:=s) J c λF j=> ?_);have D:((xs.set n ⟨v,x.queue⟩).set n ⟨v,g⟩)[n]? =some ⟨v,g⟩:=List.getElem?_set_self (List.getElem?_eq_some_iff.1 c).1;refine aY (j.qy D ?_).2;rw [show (v==w)=false by simp [e]];refine r (by omega) F (j.ji ?_ (by grind));rw [List.map_set,i];have A:v=a:=by omega
   subst A;rw [List.set_set,zm z]
end
def hold (w:Int):List Int->Nat->List Int
 | [],_=> []
 | o::r,i=>if o=w then (i:Int)::hold w r (i+1) else hold w r (i+1)
theorem uC {w:Int}:∀ {os:List Int} {i:Nat} {n:Int},n∈hold w os i->∃j:Nat,n=((i+j:Nat):Int)/\os[j]? =some w
 | [],_,_,h=>by cases h
 | o::r,i,n,h=>by
  unfold hold at h;split at h
  ·rename_i e;rcases List.mem_cons.1 h with h | h
   ·grind
   ·obtain ⟨j,b,a⟩:=uC h;exact ⟨j+1,by omega,by simpa using a⟩
  ·obtain ⟨j,b,a⟩:=uC h;exact ⟨j+1,by omega,by simpa using a⟩
theorem EM {w:Int}:∀ {os:List Int} {i:Nat},(hold w os i).Nodup
 | [],_=>.nil
 | o::r,i=>by
  unfold hold;split
  ·refine List.nodup_cons.2 ⟨λh=> ?_,EM⟩;obtain ⟨j,a,_⟩:=uC h;omega
  ·exact EM
theorem C4 {w:Int}:∀ {os:List Int} {i:Nat},(hold w os i).length<=os.length
 | [],_=>by simp [hold]
 | o::r,i=>by unfold hold;have:=C4 (w:=w) (os:=r) (i:=i+1);grind
theorem IT {w:Int}:∀ {os:List Int} {i t:Nat} {o:Int},os[t]? =some o->hold w (os.take (t+1)) i=hold w (os.take t) i++(if o=w then [((i+t:Nat):Int)] else [])
 | [],_,_,_,h=>by cases h
 | a::r,i,0,o,h=>by
  have h:a=o:=by simpa using h
  subst h;simp [hold]
 | a::r,i,t+1,o,h=>by have b:=IT (w:=w) (i:=i+1) (t:=t) (o:=o) (os:=r) (by simpa using h);rw [List.take_succ_cons,List.take_succ_cons];unfold hold;grind
def lP (z:List Int×List (List Int)×List Int) (n:Int):List Int×List (List Int)×List Int:=
 match z.2.1.getD n.toNat [] with
 | []=>(z.1.set n.toNat (-1),z.2.1,z.2.2++ [-1])
 | a::r=>(z.1.set n.toNat a,z.2.1.set n.toNat r,z.2.2++ [a])
theorem IV {w:Int}:∀ {os:List Int} {qs:List (List Int)} {po:List Int} {pq:List (List Int)} {G:List Int},os.length=qs.length->po.length=pq.length->
  (hold w os po.length).foldl lP (po++os,pq++qs,G)=(po++(jc w os qs).1,pq++(jc w os qs).2.1,G++(jc w os qs).2.2)
 | [],[],po,pq,G,_,_=>by simp [hold,jc]
 | o::os,q::qs,po,pq,G,f,hp=>by
  have f:os.length=qs.length:=by simpa using f
  have step:∀(c:Int) (d:List Int) (b:List Int),(hold w os (po.length+1)).foldl lP (po++c::os,pq++d::qs,b)=(po++c::(jc w os qs).1,pq++d::(jc w os qs).2.1,b++(jc w os qs).2.2):=λc d b=>by have:=IV (w:=w) (po:=po++ [c]) (pq:=pq++ [d]) (G:=b) f (by simp [hp]);simpa using this
  by_cases e:o=w
  ·unfold hold jc;rw [if_pos e,if_pos e,List.foldl_cons];have i:(pq++q::qs).getD po.length []=q:=by rw [hp];simp [List.getD]
   have g:∀v:Int,(po++o::os).set po.length v=po++v::os:=λv=>by rw [List.set_append_right _ _ (Nat.le_refl _)];simp
   have j:∀v:List Int,(pq++q::qs).set po.length v=pq++v::qs:=λv=>by rw [hp,List.set_append_right _ _ (Nat.le_refl _)];simp
   have k:lP (po++o::os,pq++q::qs,G) (po.length:Int)=(match q with
     | []=>(po++ -1::os,pq++ []::qs,G++ [-1])
     | a::r=>(po++a::os,pq++r::qs,G++ [a])):=by
    unfold lP;dsimp only;rw [Int.toNat_natCast,i];cases q with
    | nil=>dsimp only;rw [g]
    | cons a r=>dsimp only;rw [g,j]
   grind
  ·unfold hold jc;grind
 | [],_::_,_,_,_,h,_=>by cases h
 | _::_,[],_,_,_,h,_=>by cases h
theorem Xh (z:List Int×List (List Int)×List Int) (n:Int):(lP z n).1.length=z.1.length/\(lP z n).2.1.length=z.2.1.length:=by unfold lP;split<;>simp
theorem Ko :∀(l:List Int) (z:List Int×List (List Int)×List Int),(l.foldl lP z).1.length=z.1.length/\(l.foldl lP z).2.1.length=z.2.1.length
 | [],_=>⟨rfl,rfl⟩
 | n::l,z=>by have a:=Ko l (lP z n);have b:=Xh z n;grind
theorem LL :∀(l:List Int) (z:List Int×List (List Int)×List Int) (j:Nat),(∀n∈l,n.toNat≠j)->(l.foldl lP z).1[j]? =z.1[j]?/\(l.foldl lP z).2.1[j]? =z.2.1[j]?
 | [],_,_,_=>⟨rfl,rfl⟩
 | n::l,z,j,h=>by
  have c:=LL l (lP z n) j λm b=>h m (List.mem_cons_of_mem _ b);have a:=h n (List.mem_cons_self ..);have d:(lP z n).1[j]? =z.1[j]?/\(lP z n).2.1[j]? =z.2.1[j]?:=by
   unfold lP;split
   ·exact ⟨List.getElem?_set_ne a,rfl⟩
   ·exact ⟨List.getElem?_set_ne a,List.getElem?_set_ne a⟩
  grind
section
variable {h0 k:Hp} {p:Addr} {os:List Int} {qs:List (List Int)} {sl:Sl} {xs:List aT}
theorem aeN {n:Nat} {w:Int} (a:xs.map (·.owner)=os) (b:os[n]? =some w):∃x,xs[n]? =some x/\x.owner=w:=by grind
theorem Ks {n:Nat} {w:Int} {q:List Int} {Q:Int->Int->Hp->Prop} (o:Has h0 (nk p os qs) k) (E:0<=w) (D:os[n]? =some w) (j:qs[n]? =some q)
  (h1:q=[]->∀g,Has h0 (nk p (os.set n (-1)) qs) g->Q (-1) 0 g) (A:∀a r,q=a::r->∀g,Has h0 (nk p (os.set n a) (qs.set n r)) g->Q a 0 g):X5 prog (some p) (n:Int) w Q k:=by
 unfold X5;have V:n<qs.length:=(List.getElem?_eq_some_iff.1 j).1;refine zqd (IN o ⟨by omega,by omega⟩ E ?_);rw [if_neg (by decide)];obtain ⟨sl,xs,h,R,o⟩:=o.mU;obtain ⟨x,b,G⟩:=aeN h D;have C:=(o.qy b (K:=λ_=>True) trivial).1;have l:=(List.getElem?_eq_some_iff.1 b).1;refine aY (o.uS ⟨C,?_⟩);refine aY (o.qy b ?_).2;rw [if_neg (show ¬(x.owner !=w)=true by simp [G])];refine aY (o.rm b ?_).2;obtain ⟨S,_,I,W⟩:=o.f3;obtain ⟨T,_,u,X⟩:=I.sK b j;have f:=u.iR;cases q with
 | nil=>have f:x.queue.len=0:=f;rw [if_pos (by simp [f])];refine aY (o.ou (v:= -1) b λs e=> ?_);have d:(xs.set n (⟨-1,x.queue⟩:aT))[n]? =some ⟨-1,x.queue⟩:=List.getElem?_set_self l;refine aY (e.qy d ?_).2;exact h1 rfl s (e.ji (by rw [List.map_set,h]) (by grind))
 | cons a r=>
  have f:x.queue.len=r.length+1:=by simpa using f
  rw [if_neg (by simp;omega)];refine aY (o.rm b ?_).2;have P:Rs k (ab .i64) 1 x.queue (a::r):=u.jb (λ_=>rfl);refine P.get (λ_=>rfl) (by omega) (by omega) (by simp) λ(y:Int) m=> ?_;have m:y=a:=by grind
  subst m;refine aY (o.ou (v:=y) b λs e=> ?_);have d:(xs.set n (⟨y,x.queue⟩:aT))[n]? =some ⟨y,x.queue⟩:=List.getElem?_set_self l;refine aY (e.rm d ?_).2;refine aY (e.rm d ?_).2;refine aY (e.rm d ?_).2;obtain ⟨B,_,J,N⟩:=e.f3;obtain ⟨U,_,z,O⟩:=J.sK d j;have i:=z.vR;have i:x.queue.len<=x.queue.cap:=i;refine ⟨by dsimp only;omega,aJ ?_⟩;dsimp only;rw [Int.toNat_natCast];have L:=z.qq (λ_=>rfl) (c:=x.queue.len) (Nat.le_refl _) i;have M:=N _ _ (O ⟨y,⟨bh x.queue.base 1 1 x.queue.len,x.queue.len-1,x.queue.len-1⟩⟩ _ _ L);refine aY (Has.sL (x:=⟨y,x.queue⟩) (q:=y::r) (h1:=B) M d λH t=> ?_);have F:((xs.set n (⟨y,x.queue⟩:aT)).set n ⟨y,⟨bh x.queue.base 1 1 x.queue.len,x.queue.len-1,x.queue.len-1⟩⟩)[n]? =some ⟨y,⟨bh x.queue.base 1 1 x.queue.len,x.queue.len-1,x.queue.len-1⟩⟩:=List.getElem?_set_self (by grind);refine aY (t.qy F ?_).2;exact A y r rfl H (t.ji (by rw [List.map_set,List.map_set,h,List.set_set]) (by grind))
theorem IW {w:Int} {Q:Sl->Hp->Prop} (o:Has h0 (nk p os qs) k) (v:qs.length<=1000) (A:0<=w) (t:∀s a,Has h0 ((nk p os qs).star (eu 1 fZ s (hold w os 0))) a->Q s a):Wt prog (some p) w Q k:=by
 unfold Wt;obtain ⟨sl,xs,j,l,o⟩:=o.mU;have z:=o.right.left.iR;have x:os.length=qs.length:=by grind
 refine aY (o.uS ?_);have nil:Has k (eu 1 fZ (⟨none,0,0⟩:Sl) ([]:List Int)) k:=Has.jO (Hp.le_refl _);refine dx.intro (λ(s:Sl) (i:Int) a=>0<=i/\i<=(qs.length:Int)/\Has h0 ((dI p sl xs qs).star (eu 1 fZ s (hold w (os.take i.toNat) 0))) a) (λ_ i _=>(qs.length-i).toNat) ⟨by omega,by omega,by simpa [hold] using o.beside nil⟩ ?_;rintro s i a ⟨u,C,o⟩;by_cases g:i<(qs.length:Int)
 ·rw [if_pos (decide_eq_true (by omega))];refine ⟨λf c=>i<(qs.length:Int)/\Has h0 ((dI p sl xs qs).star (eu 1 fZ f (hold w (os.take (i.toNat+1)) 0))) c,?_,?_⟩
  ·refine (Has.left o).CB.get (λ_=>rfl) (by omega) u (by omega) λ(y:aT) B=>aJ ?_;have r:os[i.toNat]? =some y.owner:=by grind
   have b:=IT (w:=w) (i:=0) r;rw [show (w !=(-1:Int))=true by simp;omega,Bool.and_true];by_cases e:y.owner=w
   ·rw [if_pos (by simp [e])];rw [if_pos e] at b;obtain ⟨n,_,d,_,h⟩:=o.snd;have q:=C4 (w:=w) (os:=os.take i.toNat) (i:=0);rw [List.length_take] at q;refine d.push (e:=i) rfl (λ_=>rfl) (λ_=>rfl) rfl ⟨by omega,by omega⟩ λf c D=> ?_;grind
   ·rw [if_neg (by simp [e])];rw [if_neg e,List.append_nil] at b;exact ⟨g,by rw [b];exact o⟩
  ·rintro f c ⟨_,o⟩;rw [wrap64 (by omega) (by omega)];grind
 ·rw [if_neg (λe=>g (by grind))];refine t _ a ?_;have m:i.toNat=os.length:=by omega
  rw [m,List.take_length] at o;obtain ⟨n,_,d,_,h⟩:=o.fst;exact h _ _ (d.ji j l)
end
abbrev eG :cY->List Value:=λg=> [.int .i64 g.Cl,.int .i64 g.dB]
abbrev xq (l:Sl) (a:List (List Int)):eh:=jY (cm.ok (sh:=an) (sz:=1) lV) l a
section
variable {h0 k:Hp} {p:Addr} {os:List Int} {qs:List (List Int)} {sl:Sl} {xs:List aT}
def fz (w:Int) (q:List Int):List Int:=iD (λz=>decide (z=w)) q
theorem abW {w:Int} {Q:Sl->Hp->Prop} (o:Has h0 (nk p os qs) k) (hl:qs.length<=1000/\∀q∈qs,q.length<=100) (d6:os.length=qs.length) (hw:0<=w)
  (hq:∀s b gs,gs.map cY.dB=(jc w os (qs.map (fz w))).2.2->Has h0 ((nk p (jc w os (qs.map (fz w))).1 (jc w os (qs.map (fz w))).2.1).star (eu 2 eG s gs)) b->Q s b):Y1 prog (some p) w Q k:=by
 unfold Y1;obtain ⟨sl,xs,d,u,o⟩:=o.mU;have hs:=o.right.left.iR;refine aY (o.uS ?_);refine aA.intro (λ(i:Int) b=>0<=i/\i<=(qs.length:Int)/\∃xs,xs.map (·.owner)=os/\xs.length=qs.length/\Has h0 (dI p sl xs ((qs.take i.toNat).map (fz w)++qs.drop i.toNat)) b) (λi _=>(qs.length-i).toNat) ⟨by omega,by omega,xs,d,u,by simpa using o⟩ ?_;rintro i b ⟨i0,i1,xs,d,u,o⟩;by_cases O:i<(qs.length:Int)
 ·rw [if_pos (decide_eq_true (by omega))];have hi:i.toNat<qs.length:=by omega
  have F:=List.getElem?_eq_getElem hi;generalize qs[i.toNat]=q at F;have Y:=C3 (f:=fz w) F;have b5:i.toNat<xs.length:=by omega
  have H:=List.getElem?_eq_getElem b5;generalize xs[i.toNat]=x at H;have D:((i.toNat:Nat):Int)=i:=by omega
  have d7:=hl.2 q (List.mem_of_getElem? F);refine ⟨λ_ c=>i<(qs.length:Int)/\∃xs,xs.map (·.owner)=os/\xs.length=qs.length/\Has h0 (dI p sl xs ((qs.take (i.toNat+1)).map (fz w)++qs.drop (i.toNat+1))) c,?_,?_⟩
  ·refine aY (o.uS ?_);have X:=o.rm H (K:=λy=>y=x.queue) rfl;rw [D] at X;obtain ⟨N,y,hy,rfl⟩:=X;refine ⟨N,_,hy,?_⟩;obtain ⟨P,_,o4,c9⟩:=o.f3;obtain ⟨E,_,C,J⟩:=o4.sK H Y;refine zmu (Iy (C.jb (λ_=>rfl)) (by omega) ?_);have U:=Dk (λz:Int=>decide (z=w)) q;by_cases hp:pE w q>=0
   ·rw [if_pos (decide_eq_true hp)];have b7:pE w q<q.length:=LC hp;refine aY (o.uS ?_);refine aY (o.uS ?_);refine ⟨N,_,hy,?_⟩;obtain ⟨n,B⟩:∃n:Nat,pE w q=n:=⟨(pE w q).toNat,by omega⟩;have I:prog.underlying 23=some (.slice 3):=ae.aM 23 pG rfl;have b3:∀(M:Sl->Hp->Prop),(∀g b,Has E (eu 1 fZ g (q.take n++q.drop (n+1))) b->M g b)->T2 prog x.queue (n:Int) ((n+1:Nat):Int) M b:=λM b0=>by
     unfold T2;exact Has.Hn (bytes:=8) (z:=.int .i64 0) I (λhK=>Fm ae (e:=sO) rfl hK) (λ_=>rfl) (λ_=>rfl) rfl (λm=>by induction m with
      | zero=>rfl
      | succ m ih=>exact ih) C (by omega) (by omega) ⟨by omega,by omega⟩ b0
    rw [B,wrap64 (by omega) (by omega)];refine zvo (b3 _ λg c R=> ?_);have l:=c9 _ _ (J ⟨x.owner,g⟩ _ _ R);refine ⟨⟨l.left.fq (n:=1) rfl,trivial⟩,N,?_⟩;have c6:q.take n++q.drop (n+1)=fz w q:=by have b8:iY (λz:Int=>decide (z=w)) q=n:=B;show _=iD (λz=>decide (z=w)) q;rw [U,b8,if_pos (by omega),Int.toNat_natCast]
    rw [c6,zc F] at l;have key:da c ((sat sl.base 2 ((i.toNat:Nat):Int)).add 1) [g.v] λk4=>i<(qs.length:Int)/\∃xs,xs.map (·.owner)=os/\xs.length=qs.length/\Has h0 (dI p sl xs ((qs.take (i.toNat+1)).map (fz w)++qs.drop (i.toNat+1))) k4:=by obtain ⟨h8,_,S,a8⟩:=l.f2;refine S.CN (λ_=>rfl) H (x':=⟨x.owner,g⟩) (show (2:Nat)<=2 by decide) rfl λk4 o9=> ?_;refine ⟨O,xs.set i.toNat ⟨x.owner,g⟩,?_,by rw [List.length_set];exact u,a8 _ _ o9⟩;rw [List.map_set,d];refine zm ?_;rw [<-d,List.getElem?_map,H];rfl
    grind
   ·rw [if_neg (λh=>hp (of_decide_eq_true h))];refine ⟨O,xs,d,u,?_⟩;have c5:fz w q=q:=by show iD (λz=>decide (z=w)) q=q;rw [U,if_neg (show ¬0<=iY (λz:Int=>decide (z=w)) q from hp)]
    have:=zc (f:=fz w) F;rw [c5,zm Y] at this;grind
  ·rintro _ c ⟨_,xs,d,u,o⟩;rw [wrap64 (by omega) (by omega)];refine ⟨⟨by omega,by omega,xs,d,u,?_⟩,by omega⟩;rw [show (i+1).toNat=i.toNat+1 by omega];exact o
 ·rw [if_neg (λe=>O (by grind))];have D:i.toNat=qs.length:=by omega
  rw [D,List.take_length,List.drop_length,List.append_nil] at o;have o:Has h0 (nk p os (qs.map (fz w))) b:=o.ji d (by grind);refine zqb (IW o (by grind) hw λs k1 o=> ?_);have d5:=o.right.iR;have d2:=C4 (w:=w) (os:=os) (i:=0);have rs:∀c,Has h0 ((nk p os (qs.map (fz w))).star (eu 1 fZ s (hold w os 0))) c->Rw c 1 fZ s (hold w os 0):=λc o=>o.right.jb (λ_=>rfl);have nil:Has k1 (eu 2 eG (⟨none,0,0⟩:Sl) ([]:List cY)) k1:=Has.jO (Hp.le_refl _);have V:=IV (w:=w) (os:=os) (qs:=qs.map (fz w)) (po:=[]) (pq:=[]) (G:=[]) (by grind) rfl;simp only [List.nil_append,List.length_nil] at V;refine dx.intro (λ(t:Sl) (i:Int) b=>0<=i/\i<=((hold w os 0).length:Int)/\∃gs:List cY,gs.map cY.dB=(((hold w os 0).take i.toNat).foldl lP (os,qs.map (fz w),[])).2.2/\gs.length=i.toNat/\
   Has h0 (((nk p (((hold w os 0).take i.toNat).foldl lP (os,qs.map (fz w),[])).1 (((hold w os 0).take i.toNat).foldl lP (os,qs.map (fz w),[])).2.1).star (eu 1 fZ s (hold w os 0))).star (eu 2 eG t gs)) b) (λ_ i _=>((hold w os 0).length-i).toNat)
   ⟨by omega,by omega,[],by simp,rfl,by simpa using o.beside nil⟩ ?_
  rintro t i b ⟨i0,i1,gs,L,b4,o⟩;by_cases P:i<((hold w os 0).length:Int)
  ·rw [if_pos (decide_eq_true (by omega))];have hr:Rs b (ab .i64) 1 s (hold w os 0):=o.left.right.jb (λ_=>rfl);refine hr.get (λ_=>rfl) (by omega) i0 P λ(n:Int) B=> ?_;obtain ⟨j,hj,c4⟩:=uC (List.mem_of_getElem? B);have b6:n=(j:Int):=by omega
   subst b6;generalize I:((hold w os 0).take i.toNat).foldl lP (os,qs.map (fz w),[])=z at o L;have c3:∀m∈(hold w os 0).take i.toNat,m.toNat≠j:=λm hm e=>by
    obtain ⟨a,A⟩:=List.getElem?_of_mem hm;rw [List.getElem?_take] at A;split at A
    ·rename_i b7;obtain ⟨j2,d3,_⟩:=uC (List.mem_of_getElem? A);have em:m=(j:Int):=by omega
     rw [em] at A;have b9:=EM (w:=w) (os:=os) (i:=0);obtain ⟨b1,b2⟩:=List.getElem?_eq_some_iff.1 A;obtain ⟨c1,c2⟩:=List.getElem?_eq_some_iff.1 B;exact List.pairwise_iff_getElem.1 b9 a i.toNat b1 c1 (by omega) (b2.trans c2.symm)
    ·cases A
   have T:=LL ((hold w os 0).take i.toNat) (os,qs.map (fz w),[]) j c3;rw [I] at T;have c7:=Ko ((hold w os 0).take i.toNat) (os,qs.map (fz w),[]);rw [I] at c7;have d4:j<qs.length:=by grind
   obtain ⟨q,Z⟩:∃q,z.2.1[j]? =some q:=⟨_,List.getElem?_eq_getElem (by grind)⟩;have c8:z.1[j]? =some w:=T.1.trans c4;obtain ⟨E,_,C,_,J⟩:=o.fst;obtain ⟨h6,_,R,_,d0⟩:=C.fst;have c0:((hold w os 0).take (i.toNat+1)).foldl lP (os,qs.map (fz w),[])=lP z (j:Int):=by rw [List.take_add_one,B,List.foldl_append,I];rfl
   have W:z.2.1.getD j []=q:=nD Z;have d1:∀(v:Int) c,(lP z (j:Int)).2.2=z.2.2++ [v]->Has h6 (nk p (lP z (j:Int)).1 (lP z (j:Int)).2.1) c->
     bP [.int .i64 (j:Int),.int .i64 v] (λa E=>gF 2 16 [(.int .i64 (0:Int)),(.int .i64 (0:Int))] ⟨t.base,t.len,t.cap⟩ ⟨(some a),1,1⟩ (λr3 a9=>
      (λ(t:Sl) (i:Int) b=>0<=i/\i<=((hold w os 0).length:Int)/\∃gs:List cY,gs.map cY.dB=(((hold w os 0).take i.toNat).foldl lP (os,qs.map (fz w),[])).2.2/\gs.length=i.toNat/\
       Has h0 (((nk p (((hold w os 0).take i.toNat).foldl lP (os,qs.map (fz w),[])).1 (((hold w os 0).take i.toNat).foldl lP (os,qs.map (fz w),[])).2.1).star (eu 1 fZ s (hold w os 0))).star (eu 2 eG t gs)) b) r3 (yw (i+1)) a9/\((hold w os 0).length-yw (i+1)).toNat<((hold w os 0).length-i).toNat) E) c:=by
    intro v c hv l;have oo:=J _ _ (d0 _ _ l);obtain ⟨h8,_,S,_,a8⟩:=oo.snd;refine S.push (e:=⟨(j:Int),v⟩) rfl (λ_=>rfl) (λ_=>rfl) rfl ⟨by omega,by omega⟩ λs2 k3 o9=> ?_;rw [wrap64 (by omega) (by omega)];refine ⟨⟨by omega,by omega,gs++ [⟨(j:Int),v⟩],?_,?_,?_⟩,by omega⟩
    ·rw [show (i+1).toNat=i.toNat+1 by omega,c0,hv,List.map_append,L];rfl
    ·rw [List.length_append,b4];simp;omega
    grind
   refine zrq (Ks R hw c8 Z (λeq c l=> ?_) λa r eq c l=> ?_)
   ·have hg:lP z (j:Int)=(z.1.set j (-1),z.2.1,z.2.2++ [-1]):=by unfold lP;rw [Int.toNat_natCast,W,eq]
    grind
   ·have hg:lP z (j:Int)=(z.1.set j a,z.2.1.set j r,z.2.2++ [a]):=by unfold lP;rw [Int.toNat_natCast,W,eq]
    grind
  ·rw [if_neg (λe=>P (by grind))];have D:i.toNat=(hold w os 0).length:=by omega
   rw [D,List.take_length,V] at o L;refine hq _ b gs L ?_;obtain ⟨E,_,C,_,J⟩:=o.fst;exact J _ _ C.left
end
section
variable {h0 k:Hp} {p:Addr} {os:List Int} {qs:List (List Int)} {sl:Sl} {xs:List aT}
theorem Has.O8 {c:Type} {sh:Shape} {sz:Nat} {S:sh.T->c->Prop} {l:Sl} {b:List c} {v:sh.T} {q:c} {d zero:List Value} {bytes:Nat} {K:Sl->Hp->Prop} (o:Has h0 (jY (cm.ok (sh:=sh) (sz:=sz) (gg.ok S)) l b) k) (g:S v q)
  (i:d=bu (sh.enc v)) (j:∀x,(bu (sh.enc x)).length=sz) (n:∀x,jE (bu (sh.enc x))=true) (r:zero.length=sz) (hb:b.length+1<=140737488355328/\(b.length+1)*bytes<=140737488355328)
  (m:∀f e,Has h0 (jY (cm.ok (sh:=sh) (sz:=sz) (gg.ok S)) f (b++ [q])) e->K f e):bP d (λa s=>gF sz bytes zero l ⟨some a,1,1⟩ K s) k:=
 Has.row (okQ:=gg.ok S) (o.beside (Has.sJ (Hp.le_refl k) ⟨rfl,g⟩ .nil λ_ h=>by cases h)) i j n r hb m
theorem Xj {Q:Sl->Sl->Hp->Prop} (o:Has h0 (nk p os qs) k) (t:qs.length<=1000/\∀q∈qs,q.length<=100) (u:os.length=qs.length)
  (z:∀s a b,Has h0 ((nk p os qs).star ((um s os).star (xq a qs))) b->Q s a b):Wo prog (some p) Q k:=by
 unfold Wo;obtain ⟨sl,xs,j,l,o⟩:=o.mU;have hs:=o.right.left.iR;refine aY (o.uS ?_);have F:Has k (um (⟨none,0,0⟩:Sl) ([]:List Int)) k:=Has.n7 (okQ:=gg.ok Eq) (Hp.le_refl _);have G:Has k (xq (⟨none,0,0⟩:Sl) ([]:List (List Int))) k:=Has.n7 (okQ:=lV) (Hp.le_refl _);refine mM.intro (λ(s a:Sl) (i:Int) b=>0<=i/\i<=(qs.length:Int)/\Has h0 ((dI p sl xs qs).star ((um s (os.take i.toNat)).star (xq a (qs.take i.toNat)))) b) (λ_ _ i _=>(qs.length-i).toNat)
  ⟨by omega,by omega,by simpa using o.beside (F.beside G)⟩ ?_
 rintro s a i b ⟨B,i1,o⟩;by_cases n:i<(qs.length:Int)
 ·rw [if_pos (decide_eq_true (by omega))];refine (Has.left o).CB.get (λ_=>rfl) (by omega) B (by omega) λ(y:aT) A=> ?_;have r:i.toNat<qs.length:=by omega
  have c:=List.getElem?_eq_getElem r;generalize qs[i.toNat]=q at c;have a9:=t.2 q (List.mem_of_getElem? c);have w:os[i.toNat]? =some y.owner:=by grind
  have g:(⟨s.base,s.len,s.cap⟩:Sl)=s:=rfl;have h:(⟨a.base,a.len,a.cap⟩:Sl)=a:=rfl;rw [g,h];obtain ⟨Y,_,J,T⟩:=o.f2;refine J.O8 (S:=Eq) (v:=y.owner) (q:=y.owner) rfl rfl (λ_=>rfl) (λ_=>rfl) rfl ⟨by rw [List.length_take];omega,by rw [List.length_take];omega⟩ λs1 C K=> ?_;have o:=T _ _ K;refine Gg ?_;unfold B0;obtain ⟨Z,_,L,_⟩:=(Has.left o).right.right.sK A c;refine rQ (ae.aM 23 pG rfl) (L.jb (λ_=>rfl)) (by decide) (λ_=>rfl) (λ_=>rfl) rfl ⟨by omega,by omega⟩ λW D a8 E=> ?_;have d:Has C (um W q) D:=E.jQ (f:=λx=>x) (λ_=>rfl) λ_=>rfl;have P:=(o.beside d).assoc;obtain ⟨h7,_,M,_,U⟩:=P.snd;obtain ⟨h8,_,N,_,V⟩:=M.assoc.snd;refine Has.row (sh:=an) (okQ:=lV) N rfl (λ_=>rfl) (λ_=>rfl) rfl ⟨by rw [List.length_take];omega,by rw [List.length_take];omega⟩ λs2 k3 O=> ?_;have H:=U _ _ (V _ _ O);rw [wrap64 (by omega) (by omega)];refine ⟨⟨by omega,by omega,?_⟩,by omega⟩;have t1:os.take (i.toNat+1)=os.take i.toNat++ [y.owner]:=by rw [List.take_add_one,w];rfl
  have t2:qs.take (i.toNat+1)=qs.take i.toNat++ [q]:=by rw [List.take_add_one,c];rfl
  rw [show (i+1).toNat=i.toNat+1 by omega,t1,t2];exact H
 ·rw [if_neg (λe=>n (by grind))];refine z _ _ b ?_;have m:i.toNat=qs.length:=by omega
  rw [m,List.take_length,<-u,List.take_length] at o;obtain ⟨X,_,I,_,R⟩:=o.fst;exact R _ _ (I.ji j l)
structure ME (os:List Int) (qs:List (List Int)):Prop where
 len:os.length=qs.length/\os.length<=8
 own:∀o∈os, -1<=o
 iZ:∀(i:Nat) o q,os[i]? =some o->qs[i]? =some q->q.length<=100/\(o= -1->q=[])/\(∀z∈q,0<=z/\z≠o)/\q.Nodup
 once:∀(i j:Nat) q q',qs[i]? =some q->qs[j]? =some q'->i<j->∀z∈q',z∉q
theorem adA {x:aT} {q:List Int} (c:xs.length=qs.length) (o:Has h0 ((ui xs qs).star (eu 1 fZ x.queue q)) k):Has h0 (ui (xs++ [x]) (qs++ [q])) k:=by
 unfold ui;rw [List.length_append];show Has h0 ((eh.first (λi=>eu 1 fZ ((xs++ [x]).getD i tH).queue ((qs++ [q]).getD i [])) qs.length).star (eu 1 fZ ((xs++ [x]).getD qs.length tH).queue ((qs++ [q]).getD qs.length []))) k;have a:(xs++ [x]).getD qs.length tH=x:=by simp [List.getD,<-c]
 have b:(qs++ [q]).getD qs.length []=q:=by simp [List.getD]
 rw [a,b];refine cast (congrArg (λA=>Has h0 (A.star (eu 1 fZ x.queue q)) k) (tT λi d=> ?_)) o;grind
theorem dI.q7 {b:Sl} {K:Hp->Prop} (o:Has h0 ((dR Gm p ⟨sl⟩).star ((eu 2 eL b xs).star (ui xs qs))) k) (c:∀a,Has h0 (dI p b xs qs) a->K a):da k (p.add 0) [b.v] K:=by obtain ⟨f,_,e,put⟩:=o.f1;exact e.st (⟨b⟩:gZ) (show (1:Nat)<=1 by decide) rfl λa d=>c a (put _ _ d)
theorem abX {N sq:Sl} {B:List Sl} {Q:Option Addr->Int->Hp->Prop} (v:ME os qs) (Y:Is k N os) (M:Rs k an 1 sq B) (a:cZ (Is k) B qs) (hq:∀p c,k<=c->Has k (nk p os qs) c->Q (some p) 0 c):Ed prog N sq Q k:=by
 unfold Ed;have d3:=Y.1;have d4:=M.1;have d6:=a.len;have a9:=v.len;refine aJ ?_;rw [show (decide ((N.len:Int)>8) || decide ((sq.len:Int)>8))=false by simp;omega,if_neg (by decide),if_neg (by simp;omega)];refine oY (sh:=Gm) ⟨⟨none,0,0⟩⟩ rfl λp I d2 o1=> ?_;have CO:Has k (dI p ⟨none,0,0⟩ [] []) I:=o1.beside ((Has.jO (Hp.le_refl I)).beside (Has.fact trivial (Hp.le_refl I)));refine aA.intro (λ(i:Int) c=>0<=i/\i<=(os.length:Int)/\∃(sl:Sl) (xs:List aT),xs.map (·.owner)=os.take i.toNat/\Has k (dI p sl xs (qs.take i.toNat)) c) (λi _=>(os.length-i).toNat) ⟨by omega,by omega,_,[],by simp,by simpa using CO⟩ ?_;rintro i c ⟨H,i1,sl,xs,l,o⟩;by_cases P:i<(os.length:Int)
 ·rw [if_pos (decide_eq_true (by omega))];have F:xs.length=i.toNat:=by have:=congrArg List.length l;grind
  refine Rs.get (sh:=ab .i64) (Rw.mono o.le Y) (λ_=>rfl) (by omega) H P λ(w:Int) D=> ?_;have d5:=v.own w (List.mem_of_getElem? D);have c8:Rs c an 1 sq B:=Rw.mono o.le M;have hi:i.toNat<qs.length:=by omega
  have f:=List.getElem?_eq_getElem hi;generalize qs[i.toNat]=q at f;obtain ⟨y,T,G⟩:=a.get' f;obtain ⟨v1,v2,v3,v4⟩:=v.iZ i.toNat w q D f;refine c8.qZ (⟨none,0,0⟩:Sl) (λ_=>rfl) (by omega) (λ_=>⟨H,by omega⟩) λ(y0:Sl) b6=> ?_;have g:((w==(-1:Int))&&decide ((y0.len:Int)>0))=false:=by
   by_cases e:w= -1
   ·have:=b6 (by simp [e]);rw [T] at this;cases this;have b0:=G.1;grind
   ·simp [e]
  refine aJ (aJ ?_);rw [g,show decide (w<(-1:Int))=false by simp;omega,if_neg (by decide)];refine aY (o.uS ?_);obtain ⟨h4,_,o4,c5⟩:=o.f2;refine o4.push (e:=⟨w,⟨none,0,0⟩⟩) rfl (λ_=>rfl) (λ_=>rfl) rfl ⟨by omega,by omega⟩ λA J o5=> ?_;have o6:=c5 _ _ o5;have nil:Has J (eu 1 fZ (⟨w,⟨none,0,0⟩⟩:aT).queue []) J:=Has.jO (Hp.le_refl _);have o7:Has k ((dR Gm p ⟨sl⟩).star ((eu 2 eL A (xs++ [⟨w,⟨none,0,0⟩⟩])).star (ui (xs++ [⟨w,⟨none,0,0⟩⟩]) (qs.take i.toNat++ [[]])))) J:=by have oo:=(o6.beside nil).assoc;obtain ⟨h8,_,u,_,c6⟩:=oo.snd;obtain ⟨h9,_,d,_,c7⟩:=u.assoc.snd;exact c6 _ _ (c7 _ _ (adA (by grind) d))
  refine aY (dI.q7 o7 λk3 u=> ?_);have c9:Rs k3 an 1 sq B:=Rw.mono u.le M;refine c9.get (λ_=>rfl) (by omega) H (by omega) λ(h:Sl) U=> ?_;rw [T] at U;cases U;have b0:=G.1;have r:(qs.take i.toNat).length=i.toNat:=by grind
  refine aA.intro (λ(j:Int) c=>0<=j/\j<=(q.length:Int)/\∃(s:Sl),Has k (dI p A (xs++ [⟨w,s⟩]) (qs.take i.toNat++ [q.take j.toNat])) c) (λj _=>(q.length-j).toNat) ⟨by omega,by omega,_,by simpa using u⟩ ?_;rintro j k4 ⟨j0,j1,s,d⟩;by_cases R:j<(q.length:Int)
  ·rw [if_pos (decide_eq_true (by omega))];have b5:Is k4 y q:=Rw.mono d.le G;refine b5.get (λ_=>rfl) (by omega) j0 R λ(z:Int) g=> ?_;have W:=List.mem_of_getElem? g;have d7:=v3 z W;have b3:(xs++ [(⟨w,s⟩:aT)]).length=(qs.take i.toNat++ [q.take j.toNat]).length:=by simp [r,F]
   refine zqc (IQ d b3 ⟨by simp [r];omega,λL hq'=> ?_⟩ (λL hq'=> ?_) ?_)
   ·rcases List.mem_append.1 hq' with hq' | hq'
    ·obtain ⟨b,hb⟩:=List.getElem?_of_mem (List.mem_of_mem_take hq');have d1:=(List.getElem?_eq_some_iff.1 hb).1;exact (v.iZ b _ L (List.getElem?_eq_getElem (show b<os.length by omega)) hb).1
    grind
   ·rcases List.mem_append.1 hq' with hq' | hq'
    ·obtain ⟨b,hb⟩:=List.getElem?_of_mem hq';rw [List.getElem?_take] at hb;split at hb
     ·rename_i C;exact v.once b i.toNat L q hb f C z W
     ·cases hb
    ·rw [List.mem_singleton.1 hq'];intro hm;obtain ⟨b,hb⟩:=List.getElem?_of_mem hm;rw [List.getElem?_take] at hb;split at hb
     ·rename_i C;obtain ⟨b1,b2⟩:=List.getElem?_eq_some_iff.1 hb;obtain ⟨c1,c2⟩:=List.getElem?_eq_some_iff.1 g;exact List.pairwise_iff_getElem.1 v4 b j.toNat b1 c1 C (b2.trans c2.symm)
     ·cases hb
   ·refine aJ (aJ ?_);rw [show (false || decide (z<0) || z==w)=false by simp;omega,if_neg (by decide)];have E:(xs++ [(⟨w,s⟩:aT)])[i.toNat]? =some ⟨w,s⟩:=by rw [<-F];simp
    have b4:(qs.take i.toNat++ [q.take j.toNat])[i.toNat]? =some (q.take j.toNat):=by rw [List.getElem?_append_right (by omega),r];simp
    have m:((i.toNat:Nat):Int)=i:=by omega
    refine aY (d.uS ?_);refine aY (d.uS ?_);have S:=d.rm E (K:=λy=>y=s) rfl;rw [m] at S;obtain ⟨O,Z,V,rfl⟩:=S;refine ⟨O,_,V,?_⟩;obtain ⟨a8,_,b7,c3⟩:=d.f3;obtain ⟨d0,_,b8,c4⟩:=b7.sK E b4;refine iA (xs:=[z]) (sz:=1) (enc:=fZ) rfl (λ_=>rfl) λa2 k5 t n5=> ?_;refine ⟨⟨qk t (d.left.fq (n:=1) rfl),qk t (d.left.fq (n:=1) rfl),qk t V,trivial⟩,?_⟩;refine (b8.grow t).app (n5.jb (λ_=>rfl)) (λ_=>rfl) (λ_=>rfl) rfl ⟨by simp [List.length_take];omega,by simp [List.length_take];omega⟩ λs2 k6 b9=> ?_;have X:=c3 _ _ (c4 ⟨w,s2⟩ _ _ b9);refine ⟨⟨X.left.fq (n:=1) rfl,trivial⟩,O,?_⟩;have key:=Has.sL (x:=⟨w,Z⟩) (q:=q.take j.toNat) (h1:=a8) X E λk7 c0=>(show (λh c=>(0<=h/\h<=(q.length:Int)/\∃(s:Sl),Has k (dI p A (xs++ [⟨w,s⟩]) (qs.take i.toNat++ [q.take h.toNat])) c)/\((q.length:Int)-h).toNat<((q.length:Int)-j).toNat) (yw (j+1)) k7 from by
     rw [wrap64 (by omega) (by omega)];refine ⟨⟨by omega,by omega,s2,?_⟩,by omega⟩;have t1:(xs++ [(⟨w,Z⟩:aT)]).set i.toNat ⟨w,s2⟩=xs++ [⟨w,s2⟩]:=by rw [List.set_append_right _ _ (by omega),<-F];simp
     have t2:(qs.take i.toNat++ [q.take j.toNat]).set i.toNat (q.take j.toNat++ [z])=qs.take i.toNat++ [q.take (j+1).toNat]:=by rw [List.set_append_right _ _ (by omega),r,show (j+1).toNat=j.toNat+1 by omega,List.take_add_one,g];simp
     rw [<-t1,<-t2];exact c0)
    grind
  ·rw [if_neg (λe=>R (by grind))];rw [wrap64 (by omega) (by omega)];have ej:j.toNat=q.length:=by omega
   rw [ej,List.take_length] at d;refine ⟨⟨by omega,by omega,A,xs++ [⟨w,s⟩],?_,?_⟩,by omega⟩
   ·rw [List.map_append,l,show (i+1).toNat=i.toNat+1 by omega,List.take_add_one,D];rfl
   ·rw [show (i+1).toNat=i.toNat+1 by omega,List.take_add_one,f];exact d
 ·rw [if_neg (λe=>P (by grind))];have m:i.toNat=os.length:=by omega
  rw [m,List.take_length] at l;rw [m,a9.1,List.take_length] at o;exact hq p c o.le (o.ji l (by grind))
end
abbrev eE :ay->List Value:=λx=>bu (aZ.enc x)
def lx (a b:ay):Prop:=a.due<b.due\/a.due=b.due/\a.dP<b.dP
theorem adB (a:ay):¬lx a a:=by unfold lx;omega
theorem MF {a b c:ay} (h:lx a b) (k:lx b c):lx a c:=by unfold lx at*;omega
theorem adC {a b:ay} (h:¬lx a b) (c:a≠b):lx b a:=by
 unfold lx at*;by_cases d:a.due=b.due
 ·by_cases e:a.dP=b.dP
  ·exact absurd (by cases a;cases b;grind) c
  ·omega
 ·omega
def pz (x y:Int):Int:=if x<y then -1 else if x>y then 1 else 0
theorem abY {x y:Int} {Q:Int->Hp->Prop} {h:Hp} (a:Q (pz x y) h):WG prog x y Q h:=by
 unfold WG;refine zsn ?_;unfold Y9;refine zsn ?_;unfold Y9;dsimp only;rw [if_neg (by simp),if_neg (by simp)];unfold pz at a;by_cases b:x<y
 ·rw [if_pos (by simpa using b)];rw [if_pos b] at a;exact a
 ·rw [if_neg (by simpa using b)];rw [if_neg b] at a;by_cases c:x>y
  ·rw [if_pos (by simpa using c)];rw [if_pos c] at a;exact a
  ·rw [if_neg (by simpa using c)];rw [if_neg c] at a;exact a
theorem Zz {x y:Int} {Q:Int->Hp->Prop} {h:Hp} (a:Q (pz x y) h):Y5 prog x y Q h:=by
 unfold Y5;refine zwc ?_;unfold zun;refine zwc ?_;unfold zun;dsimp only;rw [if_neg (by simp),if_neg (by simp)];unfold pz at a;by_cases b:x<y
 ·rw [if_pos (by simpa using b)];rw [if_pos b] at a;exact a
 ·rw [if_neg (by simpa using b)];rw [if_neg b] at a;by_cases c:x>y
  ·rw [if_pos (by simpa using c)];rw [if_pos c] at a;exact a
  ·rw [if_neg (by simpa using c)];rw [if_neg c] at a;exact a
theorem Pc {l:Sl} {u v:Int} {Q:Int->Hp->Prop} {h:Hp} (r:Rs h (ab .i64) 1 l [u,v]) (d:Q (if u≠0 then u else v) h):Dx prog l Q h:=by
 unfold Dx;have a:=r.1;simp at a;refine aA.intro (λi k=>k=h/\(i=0\/(i=1/\u=0)\/(i=2/\u=0/\v=0))) (λi _=>(2-i).toNat) ⟨rfl,.inl rfl⟩ ?_;rintro i k ⟨rfl,c⟩;have w:yw (i+1)=i+1:=wrap64 (by omega) (by omega);rw [w];by_cases b:i=2
 ·grind
 ·rw [if_pos (show decide (i<(l.len:Int))=true by simp;omega)];refine Rs.get r (λ_=>rfl) (by omega) (by omega) (by simp;omega) λ(x:Int) e=> ?_;grind
def xD (a b:ay):Int:=if pz a.due b.due≠0 then pz a.due b.due else pz a.dP b.dP
theorem tI {a b:ay}:xD a b<0↔lx a b:=by unfold xD pz lx;omega
theorem Kt {a b:ay} {Q:Int->Hp->Prop} {h:Hp} (e:∀c,h<=c->Q (xD a b) c):zzx prog a b Q h:=by unfold zzx;refine Rr (abY ⟨⟨trivial,trivial,trivial⟩,?_⟩);refine Tm (Zz ?_);refine zz (xs:=([pz a.due b.due,pz a.dP b.dP]:List Int)) (enc:=λx=>bu ((ab .i64).enc x)) (sz:=1) (Hp.le_refl h) rfl (λ_=>rfl) λa1 d f g=> ?_;exact abN (fh:=⟨some a1,2,2⟩) (Pc (g.rw λ_=>rfl) (e d f))
theorem Pf {i j:Int} (d:0<=i) (e:0<=j) (c:i+j<9223372036854775808):yw (iC .u64 (IntKind.wrap .u64 (yw (i+j))) 1)=(i+j) / 2:=by
 rw [wrap64 (by omega) c];have a:IntKind.wrap .u64 (i+j)=i+j:=by
  (try unfold yw);unfold IntKind.wrap
  simp only [IntKind.signed,IntKind.bits];grind
 rw [a];have b:iC .u64 (i+j) 1=(i+j) / 2:=by
  unfold iC;have:min (1:Int).toNat (IntKind.bits .u64)=1:=by decide
  grind
 rw [b,wrap64 (by omega) (by omega)]
theorem ZB {x:Sl} {c:List ay} {d:ay} {Q:Int->Bool->Hp->Prop} {h:Hp} (r:Rw h 2 eE x c) (F:c.length<=4398046511104) (K:c.Pairwise lx)
  (P:∀(i:Nat) b f,h<=f->i<=c.length->(∀e∈c.take i,lx e d)->(∀e∈c.drop i,¬lx e d)->Q (i:Int) b f):
  PW prog x d ⟨K4, #[], #[]⟩ Q h:=by
 unfold PW;have T:=r.1;refine dx.intro (λi j k=>h<=k/\0<=i/\i<=j/\j<=(c.length:Int)/\(∀e∈c.take i.toNat,lx e d)/\(∀e∈c.drop j.toNat,¬lx e d)) (λi j _=>(j-i).toNat) ⟨Hp.le_refl h,by omega,by omega,by omega,λe v=>by simp at v,λe v=>by simp [T] at v⟩ ?_;rintro i j k ⟨o,E,W,M,G,D⟩;have B:=r.mono o;split
 ·rename_i e;have e:i<j:=by simpa using e
  rw [Pf E (by omega) (by omega)];have H:i<=(i+j) / 2:=by omega
  have O:(i+j) / 2<j:=by omega
  generalize (i+j) / 2=m at H O;refine iJ.intro (λs t U=>h<=U/\0<=s/\s<=t/\t<=(c.length:Int)/\(∀e∈c.take s.toNat,lx e d)/\(∀e∈c.drop t.toNat,¬lx e d)/\t - s<j-i) ?_ ?_
  ·refine ⟨by omega,?_⟩;refine Rs.get (sh:=aZ) B (λ_=>rfl) (by omega) (by omega) (by omega) λ(l:ay) A=> ?_;refine ⟨K4, #[], #[],rfl,rfl,H4 (a:=l) (b:=d) (Kt λf u=> ?_)⟩;obtain ⟨I,J⟩:=List.getElem?_eq_some_iff.1 A;by_cases p:xD l d<0
   ·rw [if_pos (by simpa using p),wrap64 (by omega) (by omega)];have n:=tI.1 p;refine ⟨Hp.le_trans o u,by omega,by omega,M,λy hy=> ?_,D,by omega⟩;have:(m+1).toNat=m.toNat+1:=by omega
    rw [this,List.take_add_one,A] at hy;rcases List.mem_append.1 hy with hy | hy
    ·obtain ⟨q,g⟩:=List.mem_iff_getElem?.1 hy;rw [List.getElem?_take] at g;split at g
     ·rename_i S;obtain ⟨w,z⟩:=List.getElem?_eq_some_iff.1 g;have:=List.pairwise_iff_getElem.1 K q m.toNat w I S;rw [z,J] at this;exact MF this n
     ·cases g
    ·have:y=l:=by simpa using hy
     rw [this];exact n
   ·rw [if_neg (by simpa using p)];have n:¬lx l d:=λh=>p (tI.2 h);refine ⟨Hp.le_trans o u,E,H,by omega,G,λy hy=> ?_,by omega⟩;obtain ⟨q,g⟩:=List.mem_iff_getElem?.1 hy;rw [List.getElem?_drop] at g;obtain ⟨w,z⟩:=List.getElem?_eq_some_iff.1 g;by_cases R:q=0
    ·subst R;rw [Nat.add_zero,A] at g;cases g;exact n
    ·have:=List.pairwise_iff_getElem.1 K m.toNat (m.toNat+q) I w (by omega);rw [z,J] at this;exact λhy=>n (MF this hy)
  grind
 ·rename_i e;have e:¬i<j:=by simpa using e
  have N:j=i:=by omega
  subst N;have X:(j.toNat:Int)=j:=by omega
  have C:∀b f,k<=f->Q j b f:=λb f F=>by have:=P j.toNat b f (Hp.le_trans o F) (by omega) G D;grind
  cases L:decide (j<(x.len:Int)) with
  | false=>refine Rs.qZ (sh:=aZ) B (⟨0,0⟩:ay) (λ_=>rfl) (by omega) (λe=>by cases e) λ(l:ay) _=> ?_;exact ⟨λe=>(by cases e),λ_=>⟨0,aJ (C _ k (Hp.le_refl k))⟩⟩
  | true=>
   have V:j<(x.len:Int):=by simpa using L
   refine Rs.qZ (sh:=aZ) B (⟨0,0⟩:ay) (λ_=>rfl) (by omega) (λ_=>by omega) λ(l:ay) _=> ?_;refine OV ⟨K4, #[], #[],rfl,rfl,H4 (a:=l) (b:=d) (Kt λf u=>aJ (C _ f u))⟩
theorem NB {P:Program} (d:Nat) (a b:Array Value):∀(L:List (Field×IntKind×Int×Int)) (w:World),
  (∀q∈L,q.1.name≠ "_" ∧P.underlying q.1.type=some (.int q.2.1)∧a[q.1.offset]? =some (.int q.2.1 q.2.2.1)∧b[q.1.offset]? =some (.int q.2.1 q.2.2.2))→
  (Op.eqFields (d+1) a b (L.map (·.1))).run P w=.ok (L.all λq=>q.2.2.1==q.2.2.2) w
 | [],w,_=>by simp [Op.eqFields]
 | q::L,w,h=>by
  obtain ⟨e,c,f,g⟩:=h q (List.mem_cons_self ..);have k:=NB d a b L w λl j=>h l (List.mem_cons_of_mem _ j);have i:(isAgg q.1.type).run P w=.ok false w:=by simp [isAgg,run_underlying c]
  simp only [List.map_cons,Op.eqFields,Sem.run_bind,if_pos e,part,i,Result.andThen_ok,Bool.false_eq_true,if_false,f,g,Sem.run_pure,run_equalIn_int w d q.1.type q.2.1 q.2.1 q.2.2.1 q.2.2.2 c];cases hb:(q.2.2.1==q.2.2.2) with
  | false=>simp [hb]
  | true=>simp [hb,k]
theorem IX {P:Program} {t:Nat} {x y:Operand} {h:Hp} {a b:Array Value} (L:List (Field×IntKind×Int×Int)) (e:P.underlying t=some (.struct (L.map (·.1)).toArray)) (i:P.eqGuardType P.depth t=false) (hp:P.stoodInHeld t=false)
  (g:∀q∈L,q.1.name≠ "_" ∧P.underlying q.1.type=some (.int q.2.1)∧a[q.1.offset]? =some (.int q.2.1 q.2.2.1)∧b[q.1.offset]? =some (.int q.2.1 q.2.2.2)):
  ia P (cT .eql t x y (.agg a) (.agg b)) h (.bool (L.all λq=>q.2.2.1==q.2.2.2)):=by
 refine Eo λw=> ?_;have d:P.fieldsOf t=(L.map (·.1)).toArray:=by unfold Program.fieldsOf;rw [e]
 have j:P.underlying t=some (.struct (P.fieldsOf t)):=by rw [d];exact e
 have c:=run_equalIn_struct (P:=P) w 9999 t a b j hp;rw [d] at c;have f:=NB (P:=P) 9998 a b L w g;unfold cT;simp only [Sem.run_bind,run_eqGuard_agg w .eql t x y a b i,Result.andThen_ok,run_eql_struct];rw [show (10000:Nat)=9999+1 from rfl,c];simp only [f,Result.andThen_ok]
def Wh (h:Hp) (p:Addr) (a:List ay) (F:List Nat):Prop:=
 ∃(b m:Nat) (sl:Sl) (G:List Nat) (c:List (Int×ay)),p=⟨b,0,none⟩/\F=b::m::G/\gE h b [sl.v,.map (some m)]/\dJ h 2 eE sl a G/\gQ h m .i64 aZ.enc c/\b∉G/\b≠m/\m∉G/\
  (c.map (·.1)).Nodup/\(∀id e,iw id c=some e↔e∈a/\e.dP=id)/\a.Pairwise lx
theorem gQ.same {V:Type} {h a:Hp} {m:Nat} {k:IntKind} {ev:V->Value} {b:List (Int×V)} (f:gQ h m k ev b) (e:a m=h m):gQ a m k ev b:=by obtain ⟨g,ck,c,d⟩:=f;exact ⟨g,ck,by rw [e];exact c,d⟩
theorem gQ.known {V:Type} {h:Hp} {m:Nat} {k:IntKind} {ev:V->Value} {c:List (Int×V)} (b:gQ h m k ev c):h m≠none:=by obtain ⟨e,ck,a,d⟩:=b;rw [a];simp
theorem gQ.mv {V:Type} {h b:Hp} {m:Nat} {k:IntKind} {ev:V->Value} {c:List (Int×V)} {F d:List Nat} (g:gQ h m k ev c) (a:Mv F h d b) (i:m∉F):gQ b m k ev c:=by obtain ⟨j,ck,e,f⟩:=g;exact ⟨j,ck,a.cW m _ e i,f⟩
theorem gE.same {h c:Hp} {b:Nat} {a:List Value} (k:gE h b a) (e:c b=h b):gE c b a:=by obtain ⟨t,d⟩:=k;exact ⟨t,by rw [e];exact d⟩
theorem Wh.same {h e:Hp} {p:Addr} {d:List ay} {F:List Nat} (w:Wh h p d F) (a:∀b∈F,e b=h b):Wh e p d F:=by obtain ⟨b,m,sl,G,o,f,g,i,j,k,l⟩:=w;subst g;exact ⟨b,m,sl,G,o,f,rfl,i.same (a b (by simp)),j.same (λc n=>a c (by simp [n])),k.same (a m (by simp)),l⟩
theorem Wh.known {h:Hp} {p:Addr} {a:List ay} {F:List Nat} (w:Wh h p a F):∀b∈F,h b≠none:=by
 obtain ⟨b,m,sl,G,k,i,d,e,f,g,j⟩:=w;subst d;intro c hc;simp only [List.mem_cons] at hc;rcases hc with rfl | rfl | hc
 ·exact e.known
 ·exact g.known
 ·exact f.known c hc
theorem Wh.sorted {h:Hp} {p:Addr} {a:List ay} {F:List Nat} (w:Wh h p a F):a.Pairwise lx:=by obtain ⟨b,m,sl,G,q,d,f,g,i,j,k,l,n,o,e,c⟩:=w;exact c
theorem Wh.ids {h:Hp} {p:Addr} {a:List ay} {F:List Nat} (w:Wh h p a F) {x y:ay} (d:x∈a) (f:y∈a) (e:x.dP=y.dP):x=y:=by obtain ⟨b,m,sl,G,v,j,l,n,o,q,r,s,t,u,c,k⟩:=w;have g:=(c x.dP x).2 ⟨d,rfl⟩;have i:=(c x.dP y).2 ⟨f,e.symm⟩;grind
theorem ns {h:Hp} {b:Nat} {a:List Value} (k:gE h b a) {sh:Shape} (x:sh.T) {j:Nat} (c:(a.drop j).take (bu (sh.enc x)).length=bu (sh.enc x)) {K:sh.T->Prop} (d:K x):aQ none sh h ((⟨b,0,none⟩:Addr).add j) K:=by refine ⟨x,?_,d⟩;show bG h ((⟨b,0,none⟩:Addr).add j) _;rw [kH,Nat.zero_add];exact k.nY c
theorem adD {h:Hp} {b:Nat} {a:List Value} (k:gE h b a) {sh:Shape} (x:sh.T) {j:Nat} {c:Bool} (f:(a.drop j).take (bu (sh.enc x)).length=bu (sh.enc x)) {K:sh.T->Prop} (g:K x):aQ (some c) sh h ((⟨b,0,none⟩:Addr).add j) K:=by obtain ⟨y,d,e⟩:=ns k (sh:=sh) x f (K:=λy=>y=x) rfl;exact ⟨y,λ_=>d,e▸g⟩
theorem abZ {Q:Option Addr->Hp->Prop} {h:Hp} (k:∀p F a,h<=a->(∀b∈F,h b=none)->Wh a p [] F->Q (some p) a):OH prog Q h:=by
 unfold OH;intro m f;have g:=nu (o:=.map #[] 0) f;intro b t hb;have i:=nu (o:=.cells (([.slice none 0 0,.map (some m)]:List Value).toArray) t (0,0)) hb;have j:b≠m:=λe=>by rw [e,oX] at hb;cases hb
 refine k ⟨b,0,none⟩ [b,m] _ (Hp.le_trans g i) (λc d=> ?_) ⟨b,m,⟨none,0,0⟩,[],[],rfl,rfl,⟨t,oX⟩,⟨rfl,Nat.le_refl _,.inl ⟨rfl,rfl,rfl⟩⟩,⟨[],0,i _ _ oX,rfl⟩,by simp,j,by simp,by simp,λid e=>by simp [iw],List.Pairwise.nil⟩;simp only [List.mem_cons,List.not_mem_nil,or_false] at d;rcases d with rfl | rfl
 ·exact tV g hb
 ·exact f
theorem ab0 {p:Addr} {a:List ay} {F:List Nat} {id:Int} {Q:Int->Bool->Hp->Prop} {h:Hp} (w:Wh h p a F) (d:(∀e∈a,e.dP≠id)->Q 0 false h) (k:∀e∈a,e.dP=id->Q e.due true h):
  N6 prog (some p) id Q h:=by
 obtain ⟨b,m,sl,G,t,rfl,rfl,g,n,i,o,q,r,s,f,l⟩:=w;unfold N6;refine aY (ns g (sh:=gU) (some m) rfl ?_);refine za (sh:=aZ) (z:=⟨0,0⟩) i rfl (λj=>d λe c hid=> ?_) λe c=> ?_
 ·have:=(f id e).2 ⟨c,hid⟩;rw [j] at this;cases this
 grind
theorem ab1 {a b:List ay} (c:a.Pairwise lx) (h:b.Sublist a):b.Pairwise lx:=c.sublist h
theorem Dy {a:List ay} (b:a.Pairwise lx):a.Nodup:=b.imp λh e=>by subst e;exact adB _ h
set_option maxHeartbeats 1000000 in
theorem EN {p:Addr} {a:List ay} {F:List Nat} {id:Int} {Q:Bool->Hp->Prop} {h:Hp} (w:Wh h p a F) (hl:a.length<=4398046511104) (X:(∀e∈a,e.dP≠id)->Q false h)
  (u:∀(i:Nat) e d,a[i]? =some e->e.dP=id->Mv F h F d->Wh d p (a.take i++a.drop (i+1)) F->Q true d):N2 prog (some p) id Q h:=by
 obtain ⟨b,m,sl,G,E,rfl,rfl,y,B,N,O,R,S,T,L,M⟩:=w;unfold N2;refine aY (ns y (sh:=gU) (some m) rfl ?_);refine za (sh:=aZ) (z:=⟨0,0⟩) N rfl (λhn=> ?_) λe C=> ?_
 ·rw [if_pos (by rfl)];refine X λe C hid=> ?_;have:=(L id e).2 ⟨C,hid⟩;grind
 rw [if_neg (by simp)];obtain ⟨b8,hid⟩:=(L id e).1 C;refine aY (ns y (sh:=an) sl rfl ?_);have b7:=B.1;have rs:Rw h 2 eE sl a:=B.rw λ_=>rfl;refine aA.intro (λi k=>k=h/\0<=i/\i<=(a.length:Int)/\e∉a.take i.toNat) (λi _=>(a.length-i).toNat) ⟨rfl,by omega,by omega,by simp⟩ ?_;rintro i k ⟨rfl,a9,b5,c0⟩;split
 ·rename_i r;have r:i<(sl.len:Int):=by simpa using r
  refine Rs.get (sh:=aZ) rs (λ_=>rfl) (by omega) a9 (by omega) λ(x:ay) A=> ?_;refine ⟨_,IX [(⟨ "due",2,0,false, "", "firebreak/wheel",0⟩,.i64,x.due,e.due),(⟨ "id",3,1,false, "", "firebreak/wheel",8⟩,.i64,x.dP,e.dP)] (ae.aM 216 rL rfl) (by kernel_rfl) (by kernel_rfl) (λq U=> ?_),?_⟩
  ·simp only [List.mem_cons,List.not_mem_nil,or_false] at U;rcases U with rfl | rfl
   ·exact ⟨by simp,ae.aM 2 qF rfl,rfl,rfl⟩
   ·exact ⟨by simp,ae.aM 3 sO rfl,rfl,rfl⟩
  ·dsimp only;by_cases V:x=e
   ·subst V;rw [if_pos (by simp)];refine aY (ns y (sh:=an) sl rfl ?_);have b6:i.toNat<a.length:=(List.getElem?_eq_some_iff.1 A).1;have b0:((i.toNat:Nat):Int)=i:=by omega
    have b1:((i.toNat+1:Nat):Int)=i+1:=by omega
    rw [wrap64 (by omega) (by omega)];have a8:∀(s:Sl->Hp->Prop),(∀l d,dJ d 2 eE l (a.take i.toNat++a.drop (i.toNat+1)) G->Mv G k G d->s l d)->zej prog sl i (i+1) s k:=by
     intro s Y;have:=aey (P:=prog) (h:=k) (sz:=2) (enc:=eE) (bytes:=16) (tS:=218) (tE:=216) (z:=.agg #[.int .i64 0,.int .i64 0]) (i:=i.toNat) (j:=i.toNat+1) (Q:=s) (ae.aM 218 tO rfl)
      (λhk=>Fm ae (t:=216) (e:=rL) rfl hk)
      (λ_=>rfl) (λ_=>rfl) rfl (λn=>by
       induction n with
       | zero=>rfl
       | succ n ih=>exact ih) B (by omega) (by omega) (by omega) Y
     rw [b0,b1] at this;exact this
    refine zis (a8 _ λl d o' H=> ?_);have k3:gE d b [sl.v,.map (some m)]:=y.mv H O;refine aY ?_;refine rP (b:=b) (off:=0) k3 (by simp) λf I k2=> ?_;have o2:dJ f 2 eE l (a.take i.toNat++a.drop (i.toNat+1)) G:=o'.mv I (λc g=>by grind);have W:gE f b [l.v,.map (some m)]:=by simpa using k2
    refine aY (ns W (sh:=gU) (some m) rfl ?_);have b3:gQ f m .i64 aZ.enc E:=(N.mv H S).mv I (by grind);refine Zj b3 λo ho b4=> ?_;have D:Mv [m] f [m] (f.set m o):=Mv.set;refine u i.toNat x _ A hid ?_ ⟨b,m,l,G,mT id E,rfl,rfl,W.mv D (by simp;exact R),o2.mv D (λc g=>by grind),b4,O,R,S,WY id T,?_,?_⟩
    ·have J:Mv (b::m::G) k (b::m::G) d:=H.sub (λc g=>by simp [g]) λc g=>.inr (.inl g);have K:Mv (b::m::G) d (b::m::G) f:=I.sub (λc g=>by grind) λc g=>.inr (.inl g);have q3:Mv (b::m::G) f (b::m::G) (f.set m o):=D.sub (λc g=>by grind) λc g=>.inr (.inl g);exact J.trans (K.trans q3)
    ·intro b2 e';rw [Kc b2 id E T];have b9:=Dy M;have c1:a=a.take i.toNat++x::a.drop (i.toNat+1):=by
      have Z:a.drop i.toNat=x::a.drop (i.toNat+1):=by obtain ⟨J,K⟩:=List.getElem?_eq_some_iff.1 A;rw [List.drop_eq_getElem_cons J,K]
      rw [<-Z,List.take_append_drop]
     grind
    ·refine ab1 M ?_;have:(a.take i.toNat++a.drop (i.toNat+1)).Sublist (a.take i.toNat++a.drop i.toNat):=by grind
     rw [List.take_append_drop] at this;exact this
   ·rw [if_neg (by
     simp;intro u f;exact V (by cases x;cases e;simp at u f;simp [u,f])),wrap64 (by omega) (by omega)]
    refine ⟨⟨rfl,by omega,by omega,?_⟩,by omega⟩;have:(i+1).toNat=i.toNat+1:=by omega
    rw [this,List.take_add_one,A];grind
 ·rename_i r;have r:¬i<(sl.len:Int):=by simpa using r
  have:i.toNat=a.length:=by omega
  grind
theorem Xl {l:List ay} {e:ay} {i:Nat} (c:l.Pairwise lx) (d:∀x∈l.take i,lx x e) (b:∀x∈l.drop i,lx e x):(l.take i++e::l.drop i).Pairwise lx:=by have a:=c;rw [<-List.take_append_drop i l] at a;obtain ⟨a1,a2,a3⟩:=List.pairwise_append.1 a;refine List.pairwise_append.2 ⟨a1,List.pairwise_cons.2 ⟨b,a2⟩,λx f y g=> ?_⟩;grind
set_option maxHeartbeats 1000000 in
theorem ab2 {p:Addr} {g:List ay} {F:List Nat} {id due:Int} {Q:Int->Hp->Prop} {h:Hp} (w:Wh h p g F) (hl:g.length<=4398046511104) (h0:id<0\/due<0->Q 1 h)
  (h1:0<=id->0<=due->∀L B u,Mv F h B u->Wh u p L B->(∀x,x∈L↔x=⟨due,id⟩\/(x∈g/\x.dP≠id))->L.length<=g.length+1->Q 0 u):N7 prog (some p) id due Q h:=by
 unfold N7;refine aJ ?_;by_cases d2:id<0\/due<0
 ·grind
 rw [if_neg (by simp;omega)];have hid:0<=id:=by omega
 have b6:0<=due:=by omega
 have core:∀(f:List ay) (k:Hp),Mv F h F k->Wh k p f F->(∀x,x∈f↔(x∈g/\x.dP≠id))->f.length<=g.length->
   ah none (some p) λp0=>aQ none an k (Addr.add p0 0) λx=>
   bF prog NJ [x.v,(.agg #[(.int .i64 due),(.int .i64 id)]),(.func (.func 195) #[] #[])] (ab .i64) aR (λr1 r2 M=>
    ah none (some p) λp1=>aQ none an M (Addr.add p1 0) λx1=>
    bP [(.int .i64 due),(.int .i64 id)] (λa l=>
    (((bG l (Addr.add p1 0) [x1.v])/\True)/\aa prog QD [x1.v,(.int .i64 r1),(.slice (some a) 1 1)] an (λr3 D=>
    ah none (some p) λp2=>da D (Addr.add p2 0) [r3.v] (λr=>
    ah none (some p) λp3=>aQ none gU r (Addr.add p3 1) λx2=>
    sV (.int .i64) x2 (.int .i64 id) (.agg #[(.int .i64 due),(.int .i64 id)]) (λh6=>Q 0 h6) r)) l)) M) k:=by
  intro f k mk wk b8 c9;obtain ⟨b,m,sl,G,T,rfl,rfl,H,O,k5,k6,k7,k8,k9,d4,b1⟩:=wk;refine aY (ns H (sh:=an) sl rfl ?_);have hE:(⟨due,id⟩:ay)∉f:=λhm=>((b8 _).1 hm).2 rfl;refine zdf (x:=sl) (target:=⟨due,id⟩) (cmp:=⟨K4, #[], #[]⟩) (ZB (O.rw λ_=>rfl) (by omega) b1 λi _ M U E c1 b9=> ?_);refine aY (ns (H.le U) (sh:=an) sl rfl ?_);refine CD (xs:=[(⟨due,id⟩:ay)]) (enc:=eE) (sz:=2) rfl (λ_=>rfl) λC l b5 l3 m3 o3=> ?_;have A:=Hp.le_trans U l3;refine ⟨⟨?_,trivial⟩,?_⟩
  ·obtain ⟨y,hy,c4⟩:=ns (H.le A) (sh:=an) sl (j:=0) rfl (K:=λy=>y=sl) rfl;subst c4;exact hy
  have hG:∀c∈G,c≠C:=λc d e=>by have:=O.known c d;rw [e] at this;exact this (tV U b5)
  have o4:dJ l 2 eE sl f G:=by refine O.mv (Mv.of_le [] A) λc _=>by simp
  have S:∃Y,gE l C Y:=by obtain ⟨_,_,d5⟩:=o3;grind
  obtain ⟨Y,S⟩:=S;have c0:∀(J:Sl->Hp->Prop),(∀z u B,dJ u 2 eE z (f.take i++⟨due,id⟩::f.drop i) B->Mv G l B u->J z u)->zei prog sl (i:Int) ⟨some ⟨C,0,none⟩,1,1⟩ J l:=by
   intro J hQ;obtain ⟨ti,e1,_⟩:=ae.info 216 rL rfl;exact aew (P:=prog) (h:=l) (sz:=2) (enc:=eE) (bytes:=16) (tS:=218) (tR:=4) (tE:=216) (zero:=[.int .i64 0,.int .i64 0]) (R:=λy K h=>bV prog zgt [y.v,.int .i64 1] K h) (i:=i) (Q:=J)
    (ae.aM 218 tO rfl) e1 (λ_=>rfl) (by omega) (λ_=>rfl) rfl (λn=>by
     induction n with
     | zero=>rfl
     | succ n ih=>exact ih) o4 (o3.rw λ_=>rfl) rfl S (λd=>hG C d rfl) E (by omega) hQ
  refine zir (s:=sl) (i:=(i:Int)) (v:=⟨some ⟨C,0,none⟩,1,1⟩) (c0 _ λz D t o5 I=> ?_);have c6:gE D b [sl.v,.map (some m)]:=(H.le A).mv I k6;have b4:b∉t:=λd=>by
   rcases I.from_ b d with q | q
   ·exact k6 q
   ·exact (H.le A).known q
  have b3:gQ l m .i64 aZ.enc T:=k5.mv (Mv.of_le [] A) (by simp);have c2:m∉t:=λd=>by
   rcases I.from_ m d with q | q
   ·exact k8 q
   ·exact b3.known q
  refine aY ?_;refine rP (b:=b) (off:=0) c6 (by simp) λr V c5=> ?_;have b2:gE r b [z.v,.map (some m)]:=by simpa using c5
  refine aY (ns b2 (sh:=gU) (some m) rfl ?_);have c7:gQ r m .i64 aZ.enc T:=(b3.mv I k8).mv V (by grind);have o6:dJ r 2 eE z (f.take i++⟨due,id⟩::f.drop i) t:=o5.mv V (λc d=>by grind);refine Ix (v:=(⟨due,id⟩:ay)) c7 λo ho c8=> ?_;have N:Mv [m] r [m] (r.set m o):=Mv.set;have d1:∀x,x∈f.take i++(⟨due,id⟩:ay)::f.drop i↔x=⟨due,id⟩\/x∈f:=by
   intro x;constructor
   ·grind
   ·rintro (rfl | hx)
    ·simp
    ·rw [<-List.take_append_drop i f] at hx;grind
  refine h1 hid b6 _ (b::m::t) _ ?_ ⟨b,m,z,t,kQ id ⟨due,id⟩ T,rfl,rfl,b2.mv N (by simp;exact k7),o6.mv N (λc d=>by grind),c8,b4,k7,c2,Ng id _ k9,?_,?_⟩ ?_ ?_
  ·have W:Mv (b::m::G) h (b::m::G) l:=mk.trans (Mv.of_le _ A);have X:Mv (b::m::G) l (b::m::t) D:=I.sub (λc d=>by simp [d]) λc d=>by grind
   have q3:Mv (b::m::t) D (b::m::t) r:=V.sub (λc d=>by grind) λc d=>.inr (.inl d);have q4:Mv (b::m::t) r (b::m::t) (r.set m o):=N.sub (λc d=>by grind) λc d=>.inr (.inl d);exact W.trans (X.trans (q3.trans q4))
  ·intro d3 Z;rw [y9];grind
  ·refine Xl b1 c1 λx hx=>adC (b9 x hx) λe=> ?_;grind
  ·grind
  ·simp;omega
 refine IP (EN w hl (λhn=> ?_) λi e u E b7 m' w'=> ?_)
 ·exact core g h (Mv.refl _ _) w (λx=>⟨λhx=>⟨hx,hn x hx⟩,λhx=>hx.1⟩) (Nat.le_refl _)
 ·have d0:=(List.getElem?_eq_some_iff.1 E).1;refine core _ u m' w' (λx=> ?_) (by simp;omega);have hd:g.drop i=e::g.drop (i+1):=by obtain ⟨W,X⟩:=List.getElem?_eq_some_iff.1 E;rw [List.drop_eq_getElem_cons W,X]
  have c3:g=g.take i++e::g.drop (i+1):=by rw [<-hd,List.take_append_drop]
  have a8:=Dy w.sorted;rw [c3] at a8;have a9:=List.nodup_append.1 a8;constructor
  ·intro hx;have b0:x∈g:=by
    rcases List.mem_append.1 hx with hx | hx
    ·exact List.mem_of_mem_take hx
    ·exact List.mem_of_mem_drop hx
   refine ⟨b0,λZ=> ?_⟩;have:x=e:=w.ids b0 (List.mem_of_getElem? E) (Z.trans b7.symm);subst this;rcases List.mem_append.1 hx with hx | hx
   ·exact a9.2.2 x hx x (List.mem_cons_self ..) rfl
   ·exact (List.nodup_cons.1 a9.2.1).1 hx
  grind
abbrev GY :Int->List Value:=λx=>bu ((ab .i64).enc x)
set_option maxHeartbeats 1000000 in
theorem ab3 {p:Addr} {f:List ay} {F:List Nat} {n:Int} {Q:Sl->Hp->Prop} {h:Hp} (w:Wh h p f F) (hl:f.length<=4398046511104)
  (O:∀out h' done rest G F',f=done++rest->(∀x∈done,x.due<=n)->(∀x r,rest=x::r->n<x.due)->dJ h' 1 GY out (done.map (·.dP)) G->Wh h' p rest F'->(∀c∈G,c∉F')->Mv F h (F'++G) h'->Q out h'):
  N8 prog (some p) n Q h:=by
 unfold N8;refine aA.intro (λout k=>∃done rest G F',f=done++rest/\(∀x∈done,x.due<=n)/\dJ k 1 GY out (done.map (·.dP)) G/\Wh k p rest F'/\(∀c∈G,c∉F')/\Mv F h (F'++G) k) (λout _=>f.length-out.len)
  ⟨[],f,[],F,rfl,by simp,⟨rfl,Nat.le_refl _,.inl ⟨rfl,rfl,rfl⟩⟩,w,by simp,by simpa using Mv.refl F h⟩ ?_
 rintro out k ⟨done,rest,G,F',hsp,hdn,ho,wk,hdis,hm⟩;have b2:=ho.1;have s:=wk;obtain ⟨b,m,sl,a,b8,rfl,rfl,z,I,h5,h6⟩:=wk;have M:=I.1;refine aY (ns z (sh:=an) sl rfl ?_);have rs:Rw k 2 eE sl rest:=I.rw λ_=>rfl;refine ⟨_,λ_=>rfl,?_⟩;refine adD z (sh:=an) sl rfl ?_;refine rs.OZ (λ_=>rfl) (by omega) (sh:=ab .i64) (λx=>x.due) (j:=0) (λ_=>rfl) (0:Int) (λhc=>by simp at hc;omega) λ(y:Int) hy=> ?_;refine aJ ?_;cases rest with
 | nil=>
  have T:sl.len=0:=by simpa using M
  rw [if_neg (by simp [T])];exact O out k done [] G _ hsp hdn (λx r e=>by cases e) ho s hdis hm
 | cons e r=>
  simp at M;have N:decide ((sl.len:Int)>0)=true:=by simp;omega
  obtain ⟨x,hx,b4⟩:=hy N;have Y:e=x:=by simpa using hx
  subst Y;subst b4;rw [N,Bool.true_and];by_cases B:e.due<=n
  ·rw [if_pos (by simpa using B)];refine aY (ns z (sh:=an) sl rfl ?_);refine rs.vv (λ_=>rfl) (by omega) (sh:=ab .i64) (λx=>x.dP) (j:=1) (λ_=>rfl) (by omega) (by simp<;>omega) λx' b3=> ?_;have:e=x':=by simpa using b3
   subst this;have b7:done.length+(r.length+1)=f.length:=by rw [hsp];simp
   refine CD (xs:=[e.dP]) (enc:=GY) (sz:=1) rfl (λ_=>rfl) λS g U C m1 o1=> ?_;have b6:∀c∈G,c≠S:=λc hc t=>ho.known c hc (by rw [t];exact U);have b1:dJ g 1 GY out (done.map (·.dP)) G:=ho.mv (Mv.of_le [] C) (by simp);have E:Wh g ⟨b,0,none⟩ (e::r) (b::m::a):=by
    refine s.same λc hc=> ?_;cases l:k c with
    | none=>exact absurd l (s.known c hc)
    | some o=>exact C c o l
   refine xt b1 (o1.rw λ_=>rfl) (λ_=>rfl) (λ_=>rfl) rfl (by simp;omega) λl' v d R D=> ?_;have H:Wh v ⟨b,0,none⟩ (e::r) (b::m::a):=by
    refine E.same λc hc=> ?_;cases l:g c with
    | none=>exact absurd l (E.known c hc)
    | some o=>exact D.cW c o l λV=>hdis c V hc
   have K:∀c∈d,c∉b::m::a:=λc hc J=>by
    rcases D.from_ c hc with q | q
    ·exact hdis c q J
    ·exact E.known c J q
   refine IP (EN H (by simp;omega) (λhn=>absurd rfl (hn e (List.mem_cons_self ..))) λi u A L X P w3=> ?_);have W:u=e:=H.ids (List.mem_of_getElem? L) (List.mem_cons_self ..) X;subst W;have Z:i=0:=by have b0:=Dy H.sorted;obtain ⟨a9,a8⟩:=List.getElem?_eq_some_iff.1 L;have:=(List.getElem_inj (i:=i) (j:=0) (h₀:=a9) (h₁:=by simp) b0).1 (by rw [a8];rfl);exact this
   subst Z;have b5:Wh A ⟨b,0,none⟩ r (b::m::a):=by simpa using w3
   have o3:dJ A 1 GY l' (done.map (·.dP)++ [u.dP]) d:=R.mv P K;refine ⟨⟨done++ [u],r,d,b::m::a,by rw [hsp];simp,λx hx=> ?_,by simpa using o3,b5,K,?_⟩,?_⟩
   ·rcases List.mem_append.1 hx with hx | hx
    ·exact hdn x hx
    ·rw [List.mem_singleton.1 hx];exact B
   ·have q1:Mv (b::m::a++G) k (b::m::a++G) g:=Mv.of_le _ C;have q2:Mv (b::m::a++G) g (b::m::a++d) v:=D.sub (λc hc=>List.mem_append_right _ hc) λc hc=>by
     rcases List.mem_append.1 hc with hc | hc
     ·exact .inr (.inl (List.mem_append_left _ hc))
     ·exact .inl hc
    have q3:Mv (b::m::a++d) v (b::m::a++d) A:=P.wide d;exact hm.trans (q1.trans (q2.trans q3))
   ·have:=R.1;simp at this b2;omega
  ·rw [if_neg (by simpa using B)];refine O out k done (e::r) G _ hsp hdn (λx r' t=> ?_) ho s hdis hm;cases t;omega
def Ga (p:Addr) (d:List ay):eh where
 R k F:=∃B,Wh k p d B/\∀b,F b↔b∈B
 same:=λ⟨B,h,e⟩ f=>⟨B,h.same λc a=>f c ((e c).2 a),e⟩
 known:=λ⟨B,h,e⟩ c a=>h.known c ((e c).1 a)
structure WT (es:List ay) (tm:Nat->Int) (n:Nat):Prop where
 low:∀i,0<=tm i
 zO:∀x∈es,0<=x.dP/\x.dP<n/\0<x.due/\tm x.dP.toNat=x.due
 has:∀i:Nat,0<tm i->(⟨tm i,(i:Int)⟩:ay)∈es
def te (p:Addr) (a:Nat->Int) (n:Nat):eh:=.some_ λes:List ay=>(Ga p es).star (.fact (WT es a n))
section
variable {h0 k:Hp} {p:Addr} {es:List ay} {g:Nat->Int} {n:Nat}
theorem Has.both {A B:eh} {F1 F2:Nat->Prop} (f:h0<=k) (a:A.R k F1) (b:B.R k F2) (d:∀c,F1 c->¬F2 c) (f1:∀c,F1 c->h0 c=none) (f2:∀c,F2 c->h0 c=none):Has h0 (A.star B) k:=
 ⟨f,λc=>F1 c\/F2 c,⟨F1,F2,λ_=>Iff.rfl,d,a,b⟩,λc e=>e.elim (f1 c) (f2 c)⟩
theorem slR {i:Type} {sz:Nat} {enc:i->List Value} {l:Sl} {f:List i} {F:List Nat} (o:dJ k sz enc l f F):(eu sz enc l f).R k λb=>b∈F:=by
 obtain ⟨a,d,q⟩:=o;rcases q with ⟨e,m,rfl⟩ | ⟨b,j,e,rfl,hb,s,r⟩
 ·exact ⟨a,d,.inl ⟨e,m,λ_ h=>by cases h⟩⟩
 ·exact ⟨a,d,.inr ⟨b,0,j,e,λc=>List.mem_singleton,hb,by omega,by simpa using r⟩⟩
theorem Has.NI (o:Has h0 (Ga p es) k):∃B,Wh k p es B/\∀b∈B,h0 b=none:=by obtain ⟨l,F,⟨B,w,e⟩,f⟩:=o;grind
theorem Has.CI {B a:List Nat} {c:Hp} {d:List ay} (f:h0<=k) (h:∀b∈B,h0 b=none) (m:Mv B k a c) (w:Wh c p d a):Has h0 (Ga p d) c:=by
 refine ⟨λb o e=>m.cW b o (f b o e) λhb=> ?_,λb=>b∈a,⟨a,w,λb=>Iff.rfl⟩,λb hb=> ?_⟩
 ·grind
 ·rcases m.from_ b hb with h1 | h1
  ·exact h b h1
  ·cases e:h0 b with
   | none=>rfl
   | some o=>rw [f b o e] at h1;cases h1
theorem Has.qH (o:Has h0 (te p g n) k):∃es,WT es g n/\Has h0 (Ga p es) k:=by obtain ⟨es,o⟩:=Has.ex.1 o;obtain ⟨a,b⟩:=o.j8;grind
theorem Has.nx {k:Hp} (t:WT es g n) (o:Has h0 (Ga p es) k):Has h0 (te p g n) k:=Has.ex.2 ⟨es,o.fV t⟩
theorem E8 {B:List Nat} (t:WT es g n) (w:Wh k p es B):es.length<=n:=by
 have h:(es.map λx=>x.dP.toNat).Nodup:=by
  have m:=w.sorted;have hid:=λx d y f=> @Wh.ids _ _ _ _ w x y d f;clear w;have hp:=t.zO;have j:es.Pairwise λa b=>a.dP≠b.dP:=by refine m.imp_of_mem λ{a b} c hb i e=> ?_;have:=hid a c b hb e;subst this;unfold lx at i;omega
  refine List.pairwise_map.2 (j.imp_of_mem λ{a b} c hb l e=>l ?_);have:=hp a c;have:=hp b hb;omega
 have:=OA n (es.map λx=>x.dP.toNat) h λx d=>by obtain ⟨y,f,rfl⟩:=List.mem_map.1 d;have:=t.zO y f;omega
 grind
theorem ab4 {n:Nat} {Q:Option Addr->Hp->Prop} (d:∀p a,k<=a->Has k (te p (λ_=>0) n) a->Q (some p) a):OH prog Q k:=by refine abZ λp F a l c w=>d p a l (Has.nx (es:=[]) ⟨λ_=>Int.le_refl _,by simp,λi h=>absurd h (by decide)⟩ ⟨l,λb=>b∈F,⟨F,w,λb=>Iff.rfl⟩,c⟩)
theorem Ku {i:Nat} {Q:Int->Bool->Hp->Prop} (o:Has h0 (te p g n) k) (f:∀b,Q (g i) b k):N6 prog (some p) (i:Int) Q k:=by
 obtain ⟨es,t,o⟩:=o.qH;obtain ⟨B,w,d⟩:=o.NI;refine ab0 w (λc=> ?_) λe a hid=> ?_
 ·have:g i=0:=by
   have:=t.low i;by_cases h:0<g i
   ·exact absurd rfl (c _ (t.has i h))
   ·omega
  grind
 ·have:=(t.zO e a).2.2.2;grind
theorem EO {i:Nat} {Q:Bool->Hp->Prop} (o:Has h0 (te p g n) k) (G:n<=1000000) (s:∀b c,Has h0 (te p (cN g i 0) n) c->Q b c):N2 prog (some p) (i:Int) Q k:=by
 obtain ⟨es,t,o⟩:=o.qH;obtain ⟨B,w,z⟩:=o.NI;have F:=E8 t w;refine EN w (by omega) (λA=> ?_) λj e c f hid m E=> ?_
 ·refine s false k (Has.nx ?_ o);have y:g i=0:=by
   have:=t.low i;by_cases h:0<g i
   ·exact absurd rfl (A _ (t.has i h))
   ·omega
  have:cN g i 0=g:=by rw [<-y];exact yR
  rw [this];exact t
 ·refine s true c (Has.nx ⟨λa=> ?_,λx C=> ?_,λa d=> ?_⟩ (Has.CI o.le z m E))
  ·by_cases h:a=i
   ·subst h;rw [kg];omega
   ·rw [kp h];exact t.low a
  ·have v:x∈es:=by grind
   obtain ⟨a1,a2,a3,a4⟩:=t.zO x v;refine ⟨a1,a2,a3,?_⟩;have r:=w.sorted;have q:=(List.getElem?_eq_some_iff.1 f);obtain ⟨q,l⟩:=q;have H:x.dP≠(i:Int):=by
    intro ex;have D:x=e:=w.ids v (List.mem_of_getElem? f) (by rw [ex,hid]);subst D;have u:es=es.take j++x::es.drop (j+1):=by rw [<-l,List.getElem_cons_drop,List.take_append_drop]
    rw [u,List.pairwise_append] at r;rcases List.mem_append.1 C with h | h
    ·have:=r.2.2 x h x (List.mem_cons_self ..);unfold lx at this;omega
    ·have:=(List.pairwise_cons.1 r.2.1).1 x h;unfold lx at this;omega
   rw [kp (by omega)];exact a4
  ·by_cases h:a=i
   ·subst h;rw [kg] at d;omega
   ·rw [kp h] at d ⊢;have:=t.has a d;obtain ⟨q,l⟩:=List.getElem?_eq_some_iff.1 f;have u:es=es.take j++e::es.drop (j+1):=by rw [<-l,List.getElem_cons_drop,List.take_append_drop]
    grind
theorem C5 {i:Nat} {due:Int} {Q:Int->Hp->Prop} (o:Has h0 (te p g n) k) (A:n<=1000000) (y:i<n) (f:0<due) (l:∀b,Has h0 (te p (cN g i due) n) b->Q 0 b):N7 prog (some p) (i:Int) due Q k:=by
 obtain ⟨es,t,o⟩:=o.qH;obtain ⟨B,w,j⟩:=o.NI;have z:=E8 t w;refine ab2 w (by omega) (λh=>by omega) λ_ _ u s b m r d _=> ?_;refine l b (Has.nx ⟨λa=> ?_,λx q=> ?_,λa c=> ?_⟩ (Has.CI o.le j m r))
 ·by_cases h:a=i
  ·subst h;rw [kg];omega
  ·rw [kp h];exact t.low a
 ·rcases (d x).1 q with rfl | ⟨e,v⟩
  ·refine ⟨by omega,by grind,f,?_⟩;show cN g i due ((i:Int)).toNat=due;rw [show ((i:Int)).toNat=i by omega];exact kg
  ·obtain ⟨a1,a2,a3,a4⟩:=t.zO x e;refine ⟨a1,a2,a3,?_⟩;rw [kp (by omega)];exact a4
 ·refine (d _).2 ?_;by_cases h:a=i
  ·subst h;left;rw [kg]
  ·right;rw [kp h] at c ⊢;exact ⟨t.has a c,by grind⟩
def od (g:Nat->Int) (a:Int):Nat->Int:=λi=>if 0<g i/\g i<=a then 0 else g i
theorem ab5 {c:Int} {Q:Sl->Hp->Prop} (o:Has h0 (te p g n) k) (N:n<=1000000)
  (H:∀s j (ids:List Int),(∀x∈ids,0<=x/\x<n)->ids.Nodup->(∀i:Nat,(i:Int)∈ids↔0<g i/\g i<=c)->Has h0 ((te p (od g c) n).star (eu 1 fZ s ids)) j->Q s j):N8 prog (some p) c Q k:=by
 obtain ⟨es,t,o⟩:=o.qH;obtain ⟨B,w,v⟩:=o.NI;have M:=E8 t w;refine ab3 w (by omega) λout j done rest G l hsp hd hr ho w' hdis m=> ?_;have u:=w.sorted;have E:=λx hx y f=> @Wh.ids _ _ _ _ w x y hx f;have O:es.Pairwise λa b=>a.dP≠b.dP:=by refine u.imp_of_mem λ{a b} d hb F e=> ?_;have:=E a d b hb e;subst this;unfold lx at F;omega
 have P:∀x∈rest,c<x.due:=by
  cases rest with
  | nil=>simp
  | cons y r=>
   have h1:=hr y r rfl;intro x hx;rcases List.mem_cons.1 hx with rfl | hx
   ·exact h1
   ·rw [hsp,List.pairwise_append] at u;have:=(List.pairwise_cons.1 u.2.1).1 x hx;unfold lx at this;omega
 have D:∀x∈es,(x∈done↔x.due<=c):=by grind
 have A:∀x∈done,x∈es:=λx hx=>by grind
 have I:∀x∈rest,x∈es:=λx hx=>by grind
 refine H out j (done.map (·.dP)) (λx hx=> ?_) ?_ (λi=>⟨λq=> ?_,λq=> ?_⟩) ?_
 ·obtain ⟨y,f,rfl⟩:=List.mem_map.1 hx;have:=t.zO y (A y f);omega
 ·grind
 ·obtain ⟨y,f,e⟩:=List.mem_map.1 q;obtain ⟨_,_,a3,a4⟩:=t.zO y (A y f);grind
 ·exact List.mem_map.2 ⟨_,(D _ (t.has i q.1)).2 q.2,rfl⟩
 ·have J:Has h0 (Ga p rest) j:=by refine Has.CI o.le v ⟨λb L e hb=>m.cW b L e hb,λb hb=>m.from_ b (List.mem_append_left _ hb)⟩ w'
  have K:WT rest (od g c) n:=by
   refine ⟨λa=> ?_,λx hx=> ?_,λa d=> ?_⟩
   ·unfold od;split
    ·omega
    ·exact t.low a
   ·obtain ⟨a1,a2,a3,a4⟩:=t.zO x (I x hx);refine ⟨a1,a2,a3,?_⟩;unfold od;grind
   ·unfold od at d ⊢;by_cases h:0<g a/\g a<=c
    ·omega
    ·rw [if_neg h] at d ⊢;have h1:=t.has a d;grind
  have z:∀b∈l++G,h0 b=none:=λb hb=>by
   rcases m.from_ b hb with h1 | h1
   ·exact v b h1
   ·cases e:h0 b with
    | none=>rfl
    | some x=>rw [o.le b x e] at h1;cases h1
  refine Has.both J.le (F1:=λb=>b∈l) (F2:=λb=>b∈G) ⟨rest,λb=>b∈l,λ_=>False,λb=>by simp,λb _ h=>h,⟨l,w',λb=>Iff.rfl⟩,K,λ_ h=>h⟩ (slR ho) (λb h1 C=>hdis b C h1) (λb hb=>z b (List.mem_append_left _ hb)) λb hb=>z b (List.mem_append_right _ hb)
end
abbrev f64 :FloatKind:=.f64
def tK (b c:Int):Int:=if c=0 then 0 else if c= -1 then yw ((0:Int)-b) else yw (Int.tdiv b c)
def uv (b:Bool):Int:=if b then 1 else 0
def xr (op b c:Int):Int:=
 if op=3 then yw (b+c)
 else if op=4 then yw (b-c)
 else if op=5 then yw (b*c)
 else if op=6 then tK b c
 else if op=7 then yw (b-yw (tK b c*c))
 else if op=8 then fj .and .i64 b c
 else if op=9 then fj .or .i64 b c
 else if op=10 then fj .xor .i64 b c
 else if op=11 then (if c<0 then b else xF .i64 b (IntKind.wrap .u64 c))
 else if op=12 then (if c<0 then b else iC .i64 b (IntKind.wrap .u64 c))
 else if op=13 then uv (decide (b<c))
 else if op=14 then uv (decide (b=c))
 else 0
def Hd :Int:=9221120237041090560
def isNaN (f:Nat):Bool:=f64.format.order f f !=some .eq
def pW (f:Nat):Int:=if isNaN f then Hd else yw (f:Int)
def vP :Option Nat->Int
 | some r=>pW r
 | none=>Hd
def ss (b:Int):Nat:=(IntKind.wrap .u64 b).toNat
def Fa (f:Nat):Int:=
 if isNaN f then 0
 else if f64.format.order f 4890909195324358656=some .gt\/f64.format.order f 4890909195324358656=some .eq then 9223372036854775807
 else if f64.format.order f 14114281232179134464=some .lt then -9223372036854775808
 else ((f64.decode f).toInt .zero).getD 0
def vw (op b c:Int):Int:=
 if op=15 then vP (f64.format.add (ss b) (ss c))
 else if op=16 then vP (f64.format.sub (ss b) (ss c))
 else if op=17 then vP (f64.format.mul (ss b) (ss c))
 else if op=18 then vP (f64.format.div (ss b) (ss c))
 else if op=19 then uv (f64.format.order (ss b) (ss c)==some .lt)
 else if op=20 then pW (f64.nearest b)
 else if op=21 then Fa (ss b)
 else 0
def gx (op b c:Int):Int:=if 3<=op/\op<=14 then xr op b c else vw op b c
section
variable {P:Program} {h:Hp}
theorem Ml {b c:Int} {Q:Int->Hp->Prop} (a:Q (tK b c) h):zwl prog b c Q h:=by
 unfold zwl;unfold tK at a;by_cases d:c=0
 ·rw [if_pos (by simp [d])];rw [if_pos d] at a;exact a
 ·rw [if_neg (by simp [d])];rw [if_neg d] at a;by_cases e:c= -1
  ·rw [if_pos (by simp [e])];rw [if_pos e] at a;exact a
  ·rw [if_neg (by simp [e])];rw [if_neg e] at a;exact ⟨d,a⟩
theorem Li (c:Int):(0:Int)<=IntKind.wrap .u64 c:=by
 (try unfold yw);unfold IntKind.wrap
 simp only [IntKind.signed,IntKind.bits];simp;omega
theorem MG {b:Bool} {Q:Int->Hp->Prop} (a:Q (uv b) h):Fv prog b Q h:=by unfold Fv;unfold uv at a;cases b<;>simpa using a
theorem ab6 {op b c:Int} {Q:Int->Int->Hp->Prop} (a:3<=op/\op<=14->Q (xr op b c) 0 h) (t:¬(3<=op/\op<=14)->Q 0 9 h):F7 prog op b c Q h:=by
 have case:∀n:Int,(op==n)=decide (op=n):=λn=>by by_cases e:op=n<;>simp [e]
 unfold F7;unfold xr at a;simp only [case];by_cases l:op=3
 ·subst l;simpa using a
 by_cases m:op=4
 ·subst m;simpa using a
 by_cases o:op=5
 ·subst o;simpa using a
 by_cases p:op=6
 ·subst p;simp only [decide_true,if_true];simp at a ⊢;exact zys (Ml a)
 by_cases q:op=7
 ·subst q;simp at a ⊢;exact zys (Ml a)
 by_cases r:op=8
 ·subst r;simpa using a
 by_cases s:op=9
 ·subst s;simpa using a
 by_cases f:op=10
 ·subst f;simpa using a
 by_cases g:op=11
 ·subst g;simp at a ⊢;refine PV ?_;unfold Nd;by_cases d:c<0
  ·rw [if_pos (by simpa using d)];rw [if_pos d] at a;exact a
  ·rw [if_neg (by simpa using d)];rw [if_neg d] at a;exact ⟨Li c,a⟩
 by_cases i:op=12
 ·subst i;simp at a ⊢;refine ac3 ?_;unfold L5;by_cases d:c<0
  ·rw [if_pos (by simpa using d)];rw [if_pos d] at a;exact a
  ·rw [if_neg (by simpa using d)];rw [if_neg d] at a;exact ⟨Li c,a⟩
 by_cases j:op=13
 ·subst j;simp at a ⊢;exact Lc (MG a)
 by_cases k:op=14
 ·subst k;have e:(b==c)=decide (b=c):=by by_cases e:b=c<;>simp [e]
  simp at a ⊢;rw [e];exact Lc (MG a)
 simp only [l,m,o,p,q,r,s,f,g,i,j,k,decide_false,if_false,Bool.false_eq_true];exact t (by omega)
theorem adE (x y t:Nat):isNaN ((Question.nanBits .f64 x y).cut t)=true:=by
 have key:∀s z:Nat,s<2->z<2^52-1->isNaN (s*2^63+0x7ff0000000000000+1+z)=true:=by
  intro s z e f;have c:(s*2^63+0x7ff0000000000000+1+z)%Ieee.double.signWeight=0x7ff0000000000000+1+z:=by show (s*2^63+0x7ff0000000000000+1+z)%9223372036854775808=_;omega
  have d:Ieee.double.read (s*2^63+0x7ff0000000000000+1+z)=.nan ((s*2^63+0x7ff0000000000000+1+z) / Ieee.double.signWeight%2==1) (1+z):=by unfold Ieee.Format.read;rw [c];have a:Ieee.double.binade=4503599627370496:=rfl;have b:Ieee.double.infRung=9218868437227405312:=rfl;dsimp only;rw [a,b,if_neg (by omega),if_neg (by omega),if_neg (by omega),show 0x7ff0000000000000+1+z-9218868437227405312=1+z by omega]
  unfold isNaN;show ((Ieee.double.read _).order (Ieee.double.read _) !=some .eq)=true;rw [d];rfl
 have:=key (t%2) ((t / 2)%(2^52-1)) (by omega) (Nat.mod_lt _ (by decide));exact this
end
section
variable {P:Program} {h:Hp}
theorem adF {P:Program} {s:Sem Value} {sh:Shape} {K:sh.T->Hp->Prop} {h:Hp} (b:du P s (λv a=>∃x,v=sh.enc x/\K x a) h):ku P s sh K h:=b
theorem yc {op : BinOp} {t : Nat} {x y : Operand} {a b : Nat} {r : Option Nat} {K : Nat -> Hp -> Prop} (d : cT op t x y (.float .f64 a) (.float .f64 b) = (match r with
      | some r=>Sem.pure (Value.float .f64 r)
      | none=>Sem.bind (choose (.nanBits .f64 a b)) λn=>Sem.pure (Value.float .f64 n)))
  (c:∀f,(∀v,r=some v->f=v)->(r=none->isNaN f=true)->K f h):ku P (cT op t x y (.float .f64 a) (.float .f64 b)) (jR .f64) K h:=by
 refine adF ?_;rw [d];cases r with
 | some r=>exact ⟨r,rfl,c r (λv e=>(Option.some.inj e)) λe=>by cases e⟩
 | none=>intro n;exact ⟨_,rfl,c _ (λv e=>by cases e) λ_=>adE a b n⟩
theorem adG {t : Nat} {x y : Operand} {a b : Nat} : cT .add t x y (.float .f64 a) (.float .f64 b) = (match f64.format.add a b with
      | some r=>Sem.pure (Value.float .f64 r)
      | none=>Sem.bind (choose (.nanBits .f64 a b)) λn=>Sem.pure (Value.float .f64 n)):=by
 cases e:f64.format.add a b<;>(show Op.floatArith .add .f64 a b=_;unfold Op.floatArith;simp only [pure,bind,Sem.bind,e])
theorem adH {t : Nat} {x y : Operand} {a b : Nat} : cT .sub t x y (.float .f64 a) (.float .f64 b) = (match f64.format.sub a b with
      | some r=>Sem.pure (Value.float .f64 r)
      | none=>Sem.bind (choose (.nanBits .f64 a b)) λn=>Sem.pure (Value.float .f64 n)):=by
 cases e:f64.format.sub a b<;>(show Op.floatArith .sub .f64 a b=_;unfold Op.floatArith;simp only [pure,bind,Sem.bind,e])
theorem adI {t : Nat} {x y : Operand} {a b : Nat} : cT .mul t x y (.float .f64 a) (.float .f64 b) = (match f64.format.mul a b with
      | some r=>Sem.pure (Value.float .f64 r)
      | none=>Sem.bind (choose (.nanBits .f64 a b)) λn=>Sem.pure (Value.float .f64 n)):=by
 cases e:f64.format.mul a b<;>(show Op.floatArith .mul .f64 a b=_;unfold Op.floatArith;simp only [pure,bind,Sem.bind,e])
theorem adJ {t : Nat} {x y : Operand} {a b : Nat} : cT .quo t x y (.float .f64 a) (.float .f64 b) = (match f64.format.div a b with
      | some r=>Sem.pure (Value.float .f64 r)
      | none=>Sem.bind (choose (.nanBits .f64 a b)) λn=>Sem.pure (Value.float .f64 n)):=by
 cases e:f64.format.div a b<;>(show Op.floatArith .quo .f64 a b=_;unfold Op.floatArith;simp only [pure,bind,Sem.bind,e])
theorem wA {s:Sem Value} {sh:Shape} {v:sh.T} {K:sh.T->Prop} (a:s=Sem.pure (sh.enc v)) (b:K v):gw none P s sh h K:=by refine ⟨v,Kg ?_,b⟩;rw [a];exact ⟨rfl,rfl⟩
theorem Kv {b:Int} {Q:Nat->Hp->Prop} (a:Q (ss b) h):Eg prog b Q h:=by unfold Eg;exact ⟨_,rfl,a⟩
theorem wV {f:Nat} {Q:Int->Hp->Prop} (a:Q (pW f) h):EK prog f Q h:=by
 unfold EK;refine wA (sh:=aR) (v:=isNaN f) rfl ?_;unfold pW at a;by_cases e:isNaN f=true
 ·rw [if_pos e];rw [if_pos e] at a;exact a
 ·rw [if_neg e];rw [if_neg e] at a;exact ⟨(f:Int),rfl,a⟩
theorem ab7 {s:Bool} {n d:Nat}:Ieee.Toward.zero.cut s n d*2^d<=n:=by
 unfold Ieee.Toward.cut;simp only [Bool.toNat_false,Nat.add_zero,Nat.shiftLeft_eq,Nat.one_mul];by_cases a:d<=n.log2+2
 ·rw [Nat.min_eq_left a];exact Nat.div_mul_le_self n (2^d)
 ·rw [Nat.min_eq_right (by omega)];have:n<2^(n.log2+2):=by
   by_cases b:n=0
   ·grind
   ·have:=Nat.lt_log2_self (n:=n);grind
  rw [Nat.div_eq_of_lt this,Nat.zero_mul];omega
theorem wW (m i:Nat):m<<<i=m*2^i:=Nat.shiftLeft_eq m i
theorem ab8 {s:Bool} {m:Nat} {i:Int} (a:Ieee.Datum.order (.number s m i) (.number false 4503599627370496 11)=some .lt) (b:Ieee.Datum.order (.number s m i) (.number true 4503599627370496 11)≠some .lt):
  ∃n,(Ieee.Datum.number s m i).toInt .zero=some n/\ -9223372036854775808<=n/\n<=9223372036854775807:=by
 refine ⟨_,rfl,?_⟩;have a:compare (Ieee.signed s m (i-min i 11).toNat) (Ieee.signed false 4503599627370496 (11-min i 11).toNat)=.lt:=Option.some.inj a;have b:compare (Ieee.signed s m (i-min i 11).toNat) (Ieee.signed true 4503599627370496 (11-min i 11).toNat)≠ .lt:=λe=>b (congrArg some e);rw [Int.compare_eq_lt] at a;rw [ne_eq,Int.compare_eq_lt] at b;have g:=ab7 (s:=s) (n:=m<<<i.toNat) (d:=(-i).toNat);generalize y:Ieee.Toward.zero.cut s (m<<<i.toNat) (-i).toNat=w at g;have o:Ieee.signed s w 0=if s then -(w:Int) else (w:Int):=by unfold Ieee.signed;simp
 show -9223372036854775808<=Ieee.signed s w 0/\Ieee.signed s w 0<=9223372036854775807;rw [o];have key:∃C B:Nat,0<C/\0<B/\w*B<=(m<<<(i-min i 11).toNat)*C/\(4503599627370496<<<(11-min i 11).toNat)*C=9223372036854775808*B:=by
  by_cases x:i<=11
  ·have j:min i 11=i:=by omega
   rw [j,Int.sub_self];by_cases u:0<=i
   ·refine ⟨2^i.toNat,1,Nat.two_pow_pos _,by decide,?_,?_⟩
    ·have k:(-i).toNat=0:=by omega
     rw [k,Nat.pow_zero,wW] at g;grind
    ·rw [wW,Nat.mul_assoc,<-Nat.pow_add,show (11-i).toNat+i.toNat=11 by omega]
   ·refine ⟨1,2^(-i).toNat,by decide,Nat.two_pow_pos _,?_,?_⟩
    ·grind
    ·rw [wW,Nat.mul_one,show (11-i).toNat=11+(-i).toNat by omega,Nat.pow_add,<-Nat.mul_assoc]
  ·have j:min i 11=11:=by omega
   rw [j];refine ⟨2^11,1,by decide,by decide,?_,by decide⟩;have k:(-i).toNat=0:=by omega
   rw [k,Nat.pow_zero,wW] at g;rw [wW,Nat.mul_assoc,<-Nat.pow_add,show (i-11).toNat+11=i.toNat by omega];exact g
 obtain ⟨C,B,q,p,z,v⟩:=key;generalize r:m<<<(i-min i 11).toNat=c at*;generalize l:4503599627370496<<<(11-min i 11).toNat=f at*;have s1:Ieee.signed s m (i-min i 11).toNat=if s then -(c:Int) else (c:Int):=by unfold Ieee.signed;rw [r]
 have s2:Ieee.signed false 4503599627370496 (11-min i 11).toNat=(f:Int):=by unfold Ieee.signed;rw [l];rfl
 have t:Ieee.signed true 4503599627370496 (11-min i 11).toNat= -(f:Int):=by unfold Ieee.signed;rw [l];rfl
 rw [s1,s2] at a;rw [s1,t] at b;cases s with
 | false=>
  simp only [Bool.false_eq_true,if_false] at a ⊢;have a:c<f:=by omega
  have:c*C<f*C:=Nat.mul_lt_mul_of_pos_right a q;have:w*B<9223372036854775808*B:=by omega
  have:=Nat.lt_of_mul_lt_mul_right this;omega
 | true=>
  simp only [if_true] at b ⊢;have b:c<=f:=by omega
  have:c*C<=f*C:=Nat.mul_le_mul_right C b;have:w*B<=9223372036854775808*B:=by omega
  have:=Nat.le_of_mul_le_mul_right this p;omega
theorem adK {b:Nat} {n:Int} (a:(f64.decode b).toInt .zero=some n) (c:IntKind.min .i64<=n/\n<=IntKind.max .i64):ia prog (convert 351 2 (.float .f64 b)) h (.int .i64 n):=by refine Eo λw=> ?_;have d:=aw (e:=tP) ae (t:=351) rfl w;have f:=aw (e:=qF) ae (t:=2) rfl w;simp only [convert,Sem.run_bind,d,f,Result.andThen_ok];show (Conv.floatToInt .f64 b .i64).run prog w=_;unfold Conv.floatToInt;rw [a];dsimp only;rw [if_pos c];rfl
theorem adL {b:Int}:ia prog (convert 2 351 (.int .i64 b)) h (.float .f64 (f64.nearest b)):=by refine Eo λw=> ?_;have a:=aw (e:=tP) ae (t:=351) rfl w;have c:=aw (e:=qF) ae (t:=2) rfl w;simp only [convert,Sem.run_bind,a,c,Result.andThen_ok];rfl
theorem adM :f64.format.read 4890909195324358656=.number false 4503599627370496 11:=by decide
theorem adN :f64.format.read 14114281232179134464=.number true 4503599627370496 11:=by decide
theorem Xn {f:Nat} (g:isNaN f=false) (e:¬(f64.format.order f 4890909195324358656=some .gt\/f64.format.order f 4890909195324358656=some .eq)) (j:f64.format.order f 14114281232179134464≠some .lt):
  ∃n,(f64.decode f).toInt .zero=some n/\IntKind.min .i64<=n/\n<=IntKind.max .i64:=by
 have k:f64.format.order f 4890909195324358656=(f64.format.read f).order (.number false 4503599627370496 11):=by show (f64.format.read f).order (f64.format.read _)=_;rw [adM]
 have l:f64.format.order f 14114281232179134464=(f64.format.read f).order (.number true 4503599627370496 11):=by show (f64.format.read f).order (f64.format.read _)=_;rw [adN]
 rw [k] at e;rw [l] at j;unfold isNaN at g;have g:(((f64.format.read f).order (f64.format.read f)) !=some .eq)=false:=g;show ∃n,(f64.format.read f).toInt .zero=some n/\_;generalize f64.format.read f=d at*;cases d with
 | nan a b=>simp [Ieee.Datum.order] at g
 | infinity a=>cases a<;>simp [Ieee.Datum.order] at e j
 | number a m i=>refine ab8 ?_ j;have e:¬(some (compare _ _)=_\/some (compare _ _)=_):=e;show some (compare _ _)=some .lt;generalize compare (Ieee.signed a m (i-min i 11).toNat) (Ieee.signed false 4503599627370496 (11-min i 11).toNat)=c at*;cases c<;>simp at e ⊢
theorem ZF {f:Nat} {Q:Int->Hp->Prop} (a:Q (Fa f) h):Eh prog f Q h:=by
 unfold Eh;refine wA (sh:=aR) (v:=isNaN f) rfl ?_;unfold Fa at a;by_cases e:isNaN f=true
 ·rw [if_pos e];rw [if_pos e] at a;exact a
 rw [if_neg e];rw [if_neg e] at a;refine wA (sh:=aR) (v:=f64.format.order f 4890909195324358656==some .gt || f64.format.order f 4890909195324358656==some .eq) rfl ?_;by_cases b:f64.format.order f 4890909195324358656=some .gt\/f64.format.order f 4890909195324358656=some .eq
 ·grind
 rw [if_neg (by simpa using b)];rw [if_neg b] at a;refine wA (sh:=aR) (v:=f64.format.order f 14114281232179134464==some .lt) rfl ?_;by_cases c:f64.format.order f 14114281232179134464=some .lt
 ·grind
 rw [if_neg (by simpa using c)];rw [if_neg c] at a;obtain ⟨n,d,g⟩:=Xn (by simpa using e) b c;rw [d] at a;exact ⟨n,adK d g,a⟩
theorem yC {o:Option Nat} {f:Nat} (a:∀v,o=some v->f=v) (b:o=none->isNaN f=true):pW f=vP o:=by
 cases o with
 | some v=>rw [a v rfl];rfl
 | none=>unfold pW;rw [if_pos (b rfl)];rfl
theorem aca {op b c:Int} {Q:Int->Int->Hp->Prop} (a:15<=op/\op<=21->Q (vw op b c) 0 h) (q:¬(15<=op/\op<=21)->Q 0 9 h):F8 prog op b c Q h:=by
 have case:∀n:Int,(op==n)=decide (op=n):=λn=>by by_cases e:op=n<;>simp [e]
 unfold F8;refine JE (Kv ?_);refine JE (Kv ?_);unfold vw at a;simp only [case];by_cases i:op=15
 ·subst i;refine yc adG λf d g=>Le (wV ?_);rw [yC d g];simpa using a
 by_cases j:op=16
 ·subst j;refine yc adH λf d g=>Le (wV ?_);rw [yC d g];simpa using a
 by_cases k:op=17
 ·subst k;refine yc adI λf d g=>Le (wV ?_);rw [yC d g];simpa using a
 by_cases l:op=18
 ·subst l;refine yc adJ λf d g=>Le (wV ?_);rw [yC d g];simpa using a
 by_cases m:op=19
 ·subst m;refine wA (sh:=aR) (v:=f64.format.order (ss b) (ss c)==some .lt) rfl ?_;simp [uv] at a ⊢;by_cases e:f64.format.order (ss b) (ss c)=some .lt
  ·rw [if_pos e];rw [if_pos e] at a;exact a
  ·rw [if_neg e];rw [if_neg e] at a;exact a
 by_cases o:op=20
 ·subst o;refine ⟨f64.nearest b,adL,Le (wV ?_)⟩;simpa using a
 by_cases p:op=21
 ·subst p;refine ac4 (ZF ?_);simpa using a
 grind
end
def gT (c:bm):List Int:=[c.bW,c.bX,c.bY,c.bZ,c.cc,c.cd,c.cf,c.cg]
def gM (c:bm):Core:=⟨c.PC,gT c⟩
def tf (w:fC):Want:=⟨w.Kind,w.To,w.dV⟩
def rowOf (c:bm):iK:=⟨c.bW,c.bX,c.bY,c.bZ,c.cc,c.cd,c.cf,c.cg⟩
def Hq (c:bm):Nat->Int->bm
 | 0,v=>{c with bW:=v}
 | 1,v=>{c with bX:=v}
 | 2,v=>{c with bY:=v}
 | 3,v=>{c with bZ:=v}
 | 4,v=>{c with cc:=v}
 | 5,v=>{c with cd:=v}
 | 6,v=>{c with cf:=v}
 | 7,v=>{c with cg:=v}
 | _,_=>c
section
variable {h0 k:Hp} {p:Addr} {c:bm}
theorem ZH {n:Nat} {v:Int} (a:n<8):gM (Hq c n v)=⟨c.PC,(gT c).set n v⟩:=by
 match n,a with
 | 0,_=>rfl
 | 1,_=>rfl
 | 2,_=>rfl
 | 3,_=>rfl
 | 4,_=>rfl
 | 5,_=>rfl
 | 6,_=>rfl
 | 7,_=>rfl
theorem oZ {i:Int} {K:Int->Prop} (h:0<=i/\i<8) (a:K (fU (gT c) i)):
  ((0:Int)<=i/\i<(8:Int))/\∃x:Int,((List.get?Internal [(.int .i64 (rowOf c).a0),(.int .i64 (rowOf c).a1),(.int .i64 (rowOf c).a2),(.int .i64 (rowOf c).a3),(.int .i64 (rowOf c).a4),(.int .i64 (rowOf c).a5),(.int .i64 (rowOf c).a6),(.int .i64 (rowOf c).a7)] (0+((Int.toNat i)*1)))=(some (Value.int .i64 x))/\K x):=by
 refine ⟨h,_,?_,a⟩;unfold fU;have:i.toNat<8:=by omega
 generalize i.toNat=n at*
 match n,this with
 | 0,_=>rfl
 | 1,_=>rfl
 | 2,_=>rfl
 | 3,_=>rfl
 | 4,_=>rfl
 | 5,_=>rfl
 | 6,_=>rfl
 | 7,_=>rfl
theorem rT {a v:Int} {Q:Hp->Prop} (o:Has h0 (dR fE p c) k) (f:∀e b,Has h0 (dR fE p e) b->gM e=⟨c.PC,kf (gT c) a v⟩->Q b):zwk prog (some p) a v Q k:=by
 unfold zwk;refine aJ ?_;by_cases h:0<=a/\a<8
 ·rw [if_pos (by simp [h.1,h.2])];refine aY ⟨h,?_⟩;rw [s6,Nat.mul_one];have d:a.toNat<8:=by omega
  refine o.st (Hq c a.toNat v) (by show 1+a.toNat+1<=9;omega) ?_ λb g=>f _ b g ?_
  ·generalize a.toNat=n at d
   match n,d with
   | 0,_=>rfl
   | 1,_=>rfl
   | 2,_=>rfl
   | 3,_=>rfl
   | 4,_=>rfl
   | 5,_=>rfl
   | 6,_=>rfl
   | 7,_=>rfl
  ·rw [ZH d];unfold kf;rw [if_pos h]
 ·rw [if_neg (by simp;omega)];refine f c k o ?_;unfold kf;rw [if_neg h];rfl
theorem DS {K:Addr->Hp->Prop} (b:∀p a,k<=a->Has k (dR fE p c) a->K p a):bP [(.int .i64 c.PC),(.int .i64 c.bW),(.int .i64 c.bX),(.int .i64 c.bY),(.int .i64 c.bZ),(.int .i64 c.cc),(.int .i64 c.cd),(.int .i64 c.cf),(.int .i64 c.cg)] K k:=oY (sh:=fE) c rfl b
theorem sP {Q:bm->Hp->Prop} (hp:0<=c.PC/\c.PC<4611686018427387904) (b:∀a,gM a=gr (gM c)->Q a k):ED prog c Q k:=by unfold ED;refine b _ ?_;unfold gM gr gT;dsimp only;rw [wrap64 (by omega) (by omega)]
variable {l:Sl} {xs:List bc}
theorem Fe {Q:bc->Bool->Hp->Prop} (r:lR k l xs) (a:∀x:bc,ie (xs.map bD) c.PC=some (bD x)->0<=c.PC->c.PC<(xs.length:Int)->Q x true k) (b:ie (xs.map bD) c.PC=none->Q ⟨0,0,0,0,0⟩ false k):F6 prog c l Q k:=by
 unfold F6;refine aJ ?_;have d:=r.1;unfold ie at a b;by_cases h:c.PC<0\/(xs.length:Int)<=c.PC
 ·grind
 ·rw [if_neg (by simp;omega)];refine Rs.get r (λ_=>rfl) (by omega) (by omega) (by omega) λx e=>a x ?_ (by omega) (by omega);grind
theorem adO {x:eT} {n m:Int} (h:(mI x n m).1=0):(0<=x.a/\x.a<8)/\(0<=x.b/\x.b<8)/\(0<=x.c/\x.c<8):=by
 have key:∀ {b:Bool} {v:Int},gu b v=0->0<=v/\v<8:=by
  intro b v h;unfold gu at h;by_cases d:b=false/\v≠0
  ·rw [if_pos d] at h;cases h
  ·rw [if_neg d] at h;by_cases hp:v<0\/8<=v
   ·rw [if_pos hp] at h;cases h
   ·omega
 obtain ⟨_,a,b,c,_⟩:=yp h;grind
theorem ZK {x:bc} {Q:fC->Bool->Bool->Hp->Prop} (q:0<=x.A/\x.A<8) (hb:0<=x.B/\x.B<8) (t:0<=x.C/\x.C<8) (b:lO (bD x) (gT c)=none->Q ⟨0,0,0⟩ false false k)
  (a:∀w st,lO (bD x) (gT c)=some (tf w,st)->Q w st true k):Ee prog x (rowOf c) Q k:=by
 have case:∀n:Int,(x.Op==n)=decide (x.Op=n):=λn=>by by_cases e:x.Op=n<;>simp [e]
 unfold Ee;unfold lO at b a;simp only [case,decide_eq_true_eq];have s:(bD x).op=x.Op:=rfl;rw [s] at b a;by_cases d:x.Op=0
 ·rw [if_pos d];rw [if_pos d] at a;exact a ⟨1,0,0⟩ true rfl
 rw [if_neg d];rw [if_neg d] at b a;by_cases f:x.Op=24
 ·rw [if_pos f];rw [if_pos f] at a;exact oZ hb (oZ t (a ⟨2,_,_⟩ true rfl))
 rw [if_neg f];rw [if_neg f] at b a;by_cases g:x.Op=25
 ·rw [if_pos g];rw [if_pos g] at a;exact a ⟨3,0,0⟩ true rfl
 rw [if_neg g];rw [if_neg g] at b a;by_cases h:x.Op=26
 ·rw [if_pos h];rw [if_pos h] at a;exact a ⟨4,0,0⟩ true rfl
 rw [if_neg h];rw [if_neg h] at b a;by_cases i:x.Op=27
 ·rw [if_pos i];rw [if_pos i] at a;exact oZ q (a ⟨5,0,_⟩ false rfl)
 rw [if_neg i];rw [if_neg i] at b a;by_cases j:x.Op=28
 ·rw [if_pos j];rw [if_pos j] at a;exact oZ q (a ⟨6,0,_⟩ true rfl)
 rw [if_neg j];rw [if_neg j] at b a;by_cases m:x.Op=29
 ·rw [if_pos m];rw [if_pos m] at a;exact a ⟨7,x.iV,0⟩ true rfl
 rw [if_neg m];rw [if_neg m] at b a;by_cases o:x.Op=30
 ·rw [if_pos o];rw [if_pos o] at a;exact a ⟨8,x.iV,0⟩ false rfl
 rw [if_neg o];rw [if_neg o] at b a;by_cases r:x.Op=31
 ·rw [if_pos r];rw [if_pos r] at a;exact oZ q (a ⟨9,0,_⟩ false rfl)
 grind
theorem acb {v:Int} {Q:bm->Hp->Prop} (r:lR k l xs) (hp:0<=c.PC/\c.PC<4611686018427387904) (j:∀b g,k<=g->gM b=kV (xs.map bD) (gM c) v->Q b g):EJ prog c l v Q k:=by
 unfold EJ;refine DS λp w u o=> ?_;unfold kV at j;refine cC.intro (λg=>∃b,Has k (dR fE p b) g/\gr (gM b)=(match ie (xs.map bD) (gM c).pc with
  | some n=>⟨(gM c).pc+1,kf (gM c).bJ n.a v⟩
  | none=>gr (gM c))) ?_ ?_
 ·refine o.uR (shf:=fE) c rfl ?_;refine Ei (Fe (r.mono u) (λx f _ _=> ?_) λf=> ?_)
  ·rw [if_pos rfl];refine B4 (rT o λb m h e=>⟨b,h,?_⟩);have f:ie (xs.map bD) (gM c).pc=some (bD x):=f;rw [f,e];rfl
  ·rw [if_neg (by decide)];have f:ie (xs.map bD) (gM c).pc=none:=f;refine ⟨c,o,?_⟩;rw [f]
 ·rintro m ⟨b,h,e⟩;refine h.uR (shf:=fE) b rfl ?_;have t:b.PC=c.PC:=by
   have d:(gr (gM b)).pc=b.PC+1:=rfl;rw [e] at d;cases i:ie (xs.map bD) (gM c).pc with
   | none=>rw [i] at d;have d:c.PC+1=b.PC+1:=d;omega
   | some n=>rw [i] at d;have d:c.PC+1=b.PC+1:=d;omega
  exact DZ (sP (by rw [t];exact hp) λq s=>j q m h.le (s.trans e))
theorem C6 {v from_:Int} {Q:bm->Hp->Prop} (r:lR k l xs) (hp:0<=c.PC/\c.PC<4611686018427387904) (m:∀d h,k<=h->gM d=gW (xs.map bD) (gM c) v from_->Q d h):EH prog c l v from_ Q k:=by
 unfold EH;refine DS λp E C o=> ?_;unfold gW at m;refine cC.intro (λh=>∃d,Has k (dR fE p d) h/\gr (gM d)=(match ie (xs.map bD) (gM c).pc with
  | some n=>⟨(gM c).pc+1,kf (kf (gM c).bJ n.a v) n.b from_⟩
  | none=>gr (gM c))) ?_ ?_
 ·refine o.uR (shf:=fE) c rfl ?_;refine Ei (Fe (r.mono C) (λx g _ _=> ?_) λg=> ?_)
  ·rw [if_pos rfl];refine B4 (rT o λd q i e=> ?_);refine B4 (rT i λt F D w=>⟨t,D,?_⟩);have g:ie (xs.map bD) (gM c).pc=some (bD x):=g;have y:d.PC=c.PC:=congrArg Core.pc e;have z:gT d=kf (gT c) x.A v:=congrArg Core.bJ e;rw [g,w,y,z];rfl
  ·rw [if_neg (by decide)];have g:ie (xs.map bD) (gM c).pc=none:=g;refine ⟨c,o,?_⟩;rw [g]
 ·rintro q ⟨d,i,e⟩;refine i.uR (shf:=fE) d rfl ?_;have B:d.PC=c.PC:=by
   have f:(gr (gM d)).pc=d.PC+1:=rfl;rw [e] at f;cases j:ie (xs.map bD) (gM c).pc with
   | none=>rw [j] at f;have f:c.PC+1=d.PC+1:=f;omega
   | some n=>rw [j] at f;have f:c.PC+1=d.PC+1:=f;omega
  exact DZ (sP (by rw [B];exact hp) λs u=>m s q i.le (u.trans e))
end
section
variable {h0 k:Hp} {p:Addr} {c:bm} {l:Sl} {xs:List bc}
theorem wN {a:bm} {r:List Int} (e:gM a=⟨c.PC,r⟩):gr (gM a)=⟨c.PC+1,r⟩:=by rw [e];rfl
theorem acd {tick self:Int} {Q:bm->fC->Hp->Prop} (r:lR k l xs) (Z:xs.length<1073741824)
  (b:∀d w u,k<=u->gM d=(gV gx (xs.map bD) (gM c) tick self).1->tf w=(gV gx (xs.map bD) (gM c) tick self).2->Q d w u):EE prog c l tick self Q k:=by
 unfold EE;refine DS λp k1 L o=> ?_;refine o.uR (shf:=fE) c rfl ?_;have Y:=r.1;unfold gV at b;refine Ei (Fe (r.mono L) (λx m i0 i1=> ?_) λm=> ?_)
 case _=>
  refine ⟨λ_=> ?_,λe=>(by cases e)⟩;refine Jd (Kk λX R=> ?_);have m:ie (xs.map bD) (gM c).pc=some (bD x):=m;rw [m] at b;dsimp only at b;have T:((xs.map bD).length:Int)=(l.len:Int):=by grind
  rw [T] at b;refine aJ ?_;have h:=o.grow R;by_cases q:(mI (bD x) (l.len:Int) 8).1≠0
  ·rw [if_pos q] at b;rw [if_pos (by simp [q])];refine h.uR (shf:=fE) c rfl ?_;exact b c ⟨1,0,0⟩ _ (Hp.le_trans L R) rfl rfl
  ·rw [if_neg q] at b;rw [if_neg (by simpa using q)];have q:(mI (bD x) (l.len:Int) 8).1=0:=by simpa using q
   obtain ⟨y,hb,t⟩:=adO q;have y:0<=x.A/\x.A<8:=y;have hb:0<=x.B/\x.B<8:=hb;have t:0<=x.C/\x.C<8:=t;have P:0<=c.PC/\c.PC<4611686018427387904:=by omega
   refine h.ld (shf:=xf) (rowOf c) (off:=1) rfl ?_;refine ac2 (ZK y hb t (λJ=> ?_) λw st K=> ?_)
   ·rw [if_neg (by decide)];refine h.ld (shf:=xf) (rowOf c) (off:=1) rfl ?_;have J:lO (bD x) (gM c).bJ=none:=J;rw [J] at b;dsimp only at b;unfold sQ at b;have S:(bD x).op=x.Op:=rfl;rw [S] at b;have case:∀n:Int,(x.Op==n)=decide (x.Op=n):=λn=>by grind
    simp only [case,decide_eq_true_eq];refine iJ.intro (λ_ _ u=>∃d,Has k (dR fE p d) u/\d.PC=c.PC/\∀g,gM g=gr (gM d)->Q g ⟨0,0,0⟩ u) ?_ ?_
    ·by_cases z:x.Op=1
     ·rw [if_pos z];rw [if_pos z] at b;refine B4 (rT h λd s f e=>⟨d,f,congrArg Core.pc e,λg i=>b g _ _ f.le (i.trans (wN e)) rfl⟩)
     rw [if_neg z];rw [if_neg z] at b;by_cases D:x.Op=2
     ·rw [if_pos D];rw [if_pos D] at b;refine oZ hb ?_;refine B4 (rT h λd s f e=>⟨d,f,congrArg Core.pc e,λg i=>b g _ _ f.le (i.trans (wN e)) rfl⟩)
     rw [if_neg D];rw [if_neg D] at b;by_cases E:x.Op=32
     ·rw [if_pos E];rw [if_pos E] at b;refine B4 (rT h λd s f e=>⟨d,f,congrArg Core.pc e,λg i=>b g _ _ f.le (i.trans (wN e)) rfl⟩)
     rw [if_neg E];rw [if_neg E] at b;by_cases F:x.Op=33
     ·rw [if_pos F];rw [if_pos F] at b;refine B4 (rT h λd s f e=>⟨d,f,congrArg Core.pc e,λg i=>b g _ _ f.le (i.trans (wN e)) rfl⟩)
     rw [if_neg F];rw [if_neg F] at b;by_cases G:x.Op=22
     ·rw [if_pos G];rw [if_pos G] at b;refine h.st {c with PC:=x.iV} (by show 0+1<=9;omega) rfl λs f=> ?_;refine f.uR (shf:=fE) {c with PC:=x.iV} rfl ?_;exact b _ _ _ f.le rfl rfl
     rw [if_neg G];rw [if_neg G] at b;by_cases H:x.Op=23
     ·rw [if_pos H];rw [if_pos H] at b;refine oZ y ?_;by_cases j:fU (gT c) x.A=0
      ·rw [if_pos (by simp [j])];have j:fU (gM c).bJ (bD x).a=0:=j;rw [if_pos j] at b;exact ⟨c,h,rfl,λg i=>b g _ _ h.le i rfl⟩
      ·rw [if_neg (by simp [j])];have j:¬fU (gM c).bJ (bD x).a=0:=j;rw [if_neg j] at b;refine h.st {c with PC:=x.iV} (by show 0+1<=9;omega) rfl λs f=> ?_;refine f.uR (shf:=fE) {c with PC:=x.iV} rfl ?_;exact b _ _ _ f.le rfl rfl
     rw [if_neg H];rw [if_neg H] at b;refine oZ hb (oZ t ?_);have I:gx x.Op (fU (gT c) x.B) (fU (gT c) x.C)=if 3<=x.Op/\x.Op<=14 then xr x.Op (fU (gT c) x.B) (fU (gT c) x.C) else vw x.Op (fU (gT c) x.B) (fU (gT c) x.C):=rfl
     have M:∀v,v=gx x.Op (fU (gT c) x.B) (fU (gT c) x.C)->bV prog wi [(.pointer (some p)),(.int .i64 x.A),(.int .i64 v)] (λO=>∃d,Has k (dR fE p d) O/\d.PC=c.PC/\∀g,gM g=gr (gM d)->Q g ⟨0,0,0⟩ O) X:=by intro v hv;subst hv;exact B4 (rT h λd s f e=>⟨d,f,congrArg Core.pc e,λg i=>b g _ _ f.le (i.trans (wN e)) rfl⟩)
     refine TI (ab6 (λN=> ?_) λN=> ?_)
     ·refine dp.direct ?_;grind
     ·refine dp.direct ?_;rw [if_pos (by decide)];refine oZ hb (oZ t ?_);rw [if_neg N] at I;refine TK (aca (λV=>M _ I.symm) λV=>M _ ?_);rw [I];unfold vw;omega
    ·rintro _ _ s ⟨d,f,U,W⟩;refine f.uR (shf:=fE) d rfl ?_;exact DZ (sP (by rw [U];exact P) λg i=>W g i)
   ·rw [if_pos rfl];have K:lO (bD x) (gM c).bJ=some (tf w,st):=K;rw [K] at b;dsimp only at b;cases st with
    | true=>rw [if_pos rfl];refine h.uR (shf:=fE) c rfl ?_;exact ⟨⟨trivial,trivial⟩,b c w _ h.le rfl rfl⟩
    | false=>rw [if_neg (by decide)];refine h.uR (shf:=fE) c rfl ?_;exact DZ (sP P λg i=>⟨⟨trivial,trivial⟩,⟨trivial,trivial⟩,b g w _ h.le i rfl⟩)
 case _=>refine ⟨λe=>(by cases e),λ_=>⟨0,?_⟩⟩;refine aJ ?_;rw [if_pos (by decide)];have m:ie (xs.map bD) (gM c).pc=none:=m;rw [m] at b;refine o.uR (shf:=fE) c rfl ?_;exact b c ⟨1,0,0⟩ _ L rfl rfl
end
structure MK where
 c:aW
 x:bd
 t:Addr
 sl:Addr
 pt:List Addr
 pr:List Addr
 own:Nat->Sl
 code:Nat->Sl
 ins:Nat->List bc
def GV (x:bd):az:=⟨x.db,x.dA,x.ir,x.jB,x.hH,x.ki,x.dm⟩
structure dC (h:Hp) (K:MK):Prop where
 gO:(gN K.c).1=0
 Cy:∀l∈K.c.labels,jq l
 cfg:dQ h (GV K.x) K.c
 t1:K.x.table=some K.t
 t2:sx h K.t K.c.labels
 s1:K.x.rD=some K.sl
 s2:∃(s:Sl) (n:Int),bG h K.sl [s.v,.int .i64 n]/\Is h s K.c.table
 NG:K.pt.length=nP K.c
 pt:Rs h aj 1 K.x.parts (K.pt.map some)
 NF:K.pr.length=nQ K.c
 pr:Rs h aj 1 K.x.procs (K.pr.map some)
 own:∀i,i<nP K.c->Is h (K.own i) ((eK K.c i).map λ(q:Nat)=>(q:Int))
 code:∀p,p<nQ K.c->lR h (K.code p) (K.ins p)/\(K.ins p).map bD=gG K.c p
 owned:∀p,p<nQ K.c->aB K.c p<nP K.c
abbrev GX :qI->List Value:=λe=> [.int .i64 e.tick,.int .i64 e.proc,.int .i64 e.value]
def mX (K:MK) (i:Nat) (x:bC) (lp a:Addr) (y:dt):Prop:=x.procs=K.own i/\x.af=y.af/\x.lost=y.lost/\x.forbidden=y.forbidden/\x.ai=some lp/\x.eD=some a
def pR (K:MK) (i:Nat) (x:bC) (lp b:Addr) (y:dt) (a:Nat->Int):eh:=
 (dR xd (K.pt.getD i a0) x).star ((eu 3 GX x.log y.log).star ((nk lp y.aC y.au).star (te b a (2*nQ K.c))))
def pQ (K:MK) (i:Nat) (y:dt) (b:Nat->Int):eh:=.some_ λx:bC=>.some_ λlp:Addr=>.some_ λa:Addr=>(pR K i x lp a y b).star (.fact (mX K i x lp a y))
def eZ (z:aU):bm:=⟨z.jf,z.fM,z.fN,z.fO,z.fP,z.fQ,z.fR,z.fS,z.fT⟩
def gk (K:MK) (p:Nat) (z:aU) (q:Addr) (y:ak):Prop:=z.dP=(p:Int)/\z.part=(aB K.c p:Int)/\z.code=K.code p/\z.state=y.state/\gM (eZ z)=y.core/\z.bN=y.bN/\z.post=some q
def tl (K:MK) (p:Nat) (z:aU) (q:Addr) (y:ak):eh:=(dR bE (K.pr.getD p a0) z).star (eR q K.c.lane y.ag y.af)
def pS (K:MK) (p:Nat) (y:ak):eh:=.some_ λz:aU=>.some_ λq:Addr=>(tl K p z q y).star (.fact (gk K p z q y))
def rH (x:bd) (t:Int):bd:=⟨x.db,x.dA,x.ir,x.jB,x.hH,x.ki,x.dm,x.table,x.rD,t,x.parts,x.procs⟩
def aK (K:MK) (pm:Addr) (s:MS) (a:Nat->Nat->Int):eh:=
 (dR Jp pm (rH K.x s.tick)).star ((eh.first (λi=>pQ K i (s.part i) (a i)) (nP K.c)).star (eh.first (λp=>pS K p (s.proc p)) (nQ K.c)))
section
variable {h0 h1 k:Hp} {K:MK} {pm:Addr} {s:MS} {d:Nat->Nat->Int}
theorem dC.mono (m:dC h0 K) (c:h0<=h1):dC h1 K where
 gO:=m.gO
 Cy:=m.Cy
 cfg:=m.cfg.mono c
 t1:=m.t1
 t2:=m.t2.mono c
 s1:=m.s1
 s2:=by obtain ⟨s,n,a,b⟩:=m.s2;exact ⟨s,n,qk c a,b.mono c⟩
 NG:=m.NG
 pt:=m.pt.mono c
 NF:=m.NF
 pr:=m.pr.mono c
 own:=λi e=>(m.own i e).mono c
 code:=λp hp=>⟨(m.code p hp).1.mono c,(m.code p hp).2⟩
 owned:=m.owned
theorem Has.zZ {p:Nat} (o:Has h0 (aK K pm s d) k) (hp:p<nQ K.c):∃h1 z q,h0<=h1/\gk K p z q (s.proc p)/\Has h1 (tl K p z q (s.proc p)) k/\
  ∀g a b,gk K p g q a->Has h1 (tl K p g q a) b->Has h0 (aK K pm (s.aO p a) d) b:=by
 obtain ⟨h1,a1,n,put⟩:=o.f3;obtain ⟨h,a2,f,_,t⟩:=n.one hp;obtain ⟨z,f⟩:=Has.ex.1 f;obtain ⟨q,f⟩:=Has.ex.1 f;obtain ⟨r,i⟩:=f.j8;refine ⟨h,z,q,Hp.le_trans a1 a2,i,r,λg a b l m=>put _ _ ?_⟩;have:=t _ _ (Has.ex.2 ⟨g,Has.ex.2 ⟨q,m.fV l⟩⟩:Has h (pS K p a) b);refine cast (congrArg (λA=>Has h1 A b) (tT λj u=> ?_)) this;by_cases e:j=p
 ·subst e;rw [kg];show _=pS K j (cN s.proc j a j);rw [kg];rfl
 ·rw [kp e];show _=pS K j (cN s.proc p a j);rw [kp e]
theorem Has.ru {i:Nat} (o:Has h0 (aK K pm s d) k) (n:i<nP K.c):∃h1 x lp b,h0<=h1/\mX K i x lp b (s.part i)/\Has h1 (pR K i x lp b (s.part i) (d i)) k/\
  ∀l f g h,mX K i l lp b f->Has h1 (pR K i l lp b f g) h->Has h0 (aK K pm (s.dz i f) (cN d i g)) h:=by
 obtain ⟨h1,a1,t,put⟩:=o.f2;obtain ⟨m,a2,a,_,v⟩:=t.one n;obtain ⟨x,a⟩:=Has.ex.1 a;obtain ⟨lp,a⟩:=Has.ex.1 a;obtain ⟨b,a⟩:=Has.ex.1 a;obtain ⟨u,p⟩:=a.j8;refine ⟨m,x,lp,b,Hp.le_trans a1 a2,p,u,λl f g h q r=>put _ _ ?_⟩;have:=v _ _ (Has.ex.2 ⟨l,Has.ex.2 ⟨lp,Has.ex.2 ⟨b,r.fV q⟩⟩⟩:Has m (pQ K i f g) h);refine cast (congrArg (λA=>Has h1 A h) (tT λj w=> ?_)) this;by_cases e:j=i
 ·subst e;rw [kg];show _=pQ K j (cN s.part j f j) (cN d j g j);rw [kg,kg];rfl
 ·rw [kp e];show _=pQ K j (cN s.part i f j) (cN d i g j);rw [kp e,kp e]
theorem Has.ft (o:Has h0 (aK K pm s d) k):Has h0 (dR Jp pm (rH K.x s.tick)) k:=Has.left o
theorem dC.vM (m:dC h0 K) (a:h0<=k) {p:Nat} (hp:p<nQ K.c) {Q:Option Addr->Prop} (b:Q (some (K.pr.getD p a0))):br K.x.procs.base K.x.procs.len (p:Int)/\aQ none aj k (sat K.x.procs.base 1 (p:Int)) Q:=by have e:=m.NF;refine Rs.get (m.pr.mono a) (λ_=>rfl) (by omega) (by omega) (by rw [List.length_map];omega) λ(y:Option Addr) f=> ?_;grind
theorem dC.partAt (m:dC h0 K) (a:h0<=k) {p:Nat} (hp:p<nP K.c) {Q:Option Addr->Prop} (b:Q (some (K.pt.getD p a0))):br K.x.parts.base K.x.parts.len (p:Int)/\aQ none aj k (sat K.x.parts.base 1 (p:Int)) Q:=by have e:=m.NG;refine Rs.get (m.pt.mono a) (λ_=>rfl) (by omega) (by omega) (by rw [List.length_map];omega) λ(y:Option Addr) f=> ?_;grind
theorem dC.oi (m:dC h0 K):K.x.procs.len=nQ K.c:=by have:=m.pr.1;rw [List.length_map,m.NF] at this;exact this
theorem dC.ry (m:dC h0 K):K.x.parts.len=nP K.c:=by have:=m.pt.1;rw [List.length_map,m.NG] at this;exact this
end
abbrev MK.p (K:MK) (p:Nat):Addr:=K.pr.getD p a0
abbrev MK.q (K:MK) (i:Nat):Addr:=K.pt.getD i a0
section
variable {h0 h1 k:Hp} {K:MK} {pm:Addr} {s:MS} {a:Nat->Nat->Int}
theorem Has.dN {p:Nat} (o:Has h0 (aK K pm s a) k) (hp:p<nQ K.c):∃h1 z q,h0<=h1/\gk K p z q (s.proc p)/\Has h1 (dR bE (K.p p) z) k/\
  ∀e b d,gk K p e q b->b.ag=(s.proc p).ag->b.af=(s.proc p).af->Has h1 (dR bE (K.p p) e) d->Has h0 (aK K pm (s.aO p b) a) d:=by
 obtain ⟨h1,z,q,i,g,m,put⟩:=o.zZ hp;obtain ⟨f,j,n,_,r⟩:=m.fst;refine ⟨f,z,q,Hp.le_trans i j,g,n,λe b d h t u l=>put e b d h ?_⟩;have:=r _ _ l;unfold tl;grind
theorem Has.oh {p:Nat} (o:Has h0 (aK K pm s a) k) (hp:p<nQ K.c):∃h1 z q,h0<=h1/\gk K p z q (s.proc p)/\Has h0 (dR bE (K.p p) z) k/\Has h1 (eR q K.c.lane (s.proc p).ag (s.proc p).af) k/\
  ∀e d b,Has h1 (eR q K.c.lane e d) b->Has h0 (aK K pm (s.aO p {s.proc p with ag:=e,af:=d}) a) b:=by
 obtain ⟨h1,z,q,g,f,h,put⟩:=o.zZ hp;obtain ⟨i,j,m,_,n⟩:=h.snd;exact ⟨i,z,q,Hp.le_trans g j,f,(Has.left h).mono g,m,λe d b l=>put z _ b f (n _ _ l)⟩
def vq (z:aU) (c:bm):aU:=⟨z.dP,z.part,z.code,z.state,c.PC,c.bW,c.bX,c.bY,c.bZ,c.cc,c.cd,c.cf,c.cg,z.bN,z.post⟩
def pa (z:aU) (n:Int):aU:=⟨z.dP,z.part,z.code,n,z.jf,z.fM,z.fN,z.fO,z.fP,z.fQ,z.fR,z.fS,z.fT,z.bN,z.post⟩
def uN (z:aU) (b:Bool):aU:=⟨z.dP,z.part,z.code,z.state,z.jf,z.fM,z.fN,z.fO,z.fP,z.fQ,z.fR,z.fS,z.fT,b,z.post⟩
theorem gk.core {p:Nat} {z:aU} {q:Addr} {y:ak} (b:gk K p z q y) (c:bm):gk K p (vq z c) q (y.put (gM c)):=⟨b.1,b.2.1,b.2.2.1,b.2.2.2.1,rfl,b.2.2.2.2.2⟩
theorem gk.state {p:Nat} {z:aU} {q:Addr} {y:ak} (b:gk K p z q y) (n:Int):gk K p (pa z n) q {y with state:=n}:=⟨b.1,b.2.1,b.2.2.1,rfl,b.2.2.2.2⟩
theorem gk.bN {p:Nat} {z:aU} {q:Addr} {y:ak} (c:gk K p z q y) (b:Bool):gk K p (uN z b) q {y with bN:=b}:=⟨c.1,c.2.1,c.2.2.1,c.2.2.2.1,c.2.2.2.2.1,rfl,c.2.2.2.2.2.2⟩
theorem FB {n:Int} {Q:Bool->Hp->Prop} (b:Q (decide (n≠5)&&decide (n≠6)) k):zuh prog n Q k:=by unfold zuh;refine aJ ?_;grind
theorem Kw {n:Int} {Q:Int->Hp->Prop} (b:kh n) (c:Q (more n) k):zwj prog n Q k:=by
 unfold zwj;unfold kh at b;rw [wrap64 (by omega) (by omega)];have:jh (n+1) 65535=more n:=by unfold jh more;split<;>split<;>omega
 grind
theorem C7 {p:Nat} {c:bm} {m:Option Addr} {Q:Hp->Prop} (o:Has h0 (aK K pm s a) k) (hp:p<nQ K.c) (d:∀b,Has h0 (aK K pm (s.aO p (vx (s.proc p) (gM c))) a) b->Q b):UT prog m (some (K.p p)) c Q k:=by unfold UT;obtain ⟨h1,z,q,l,e,f,put⟩:=o.dN hp;refine aY (f.st (pa z 0) (by show 3+1<=15;omega) rfl λi g=> ?_);refine ⟨⟨trivial,trivial⟩,aY (g.st (vq (pa z 0) c) (by show 4+9<=15;omega) rfl λj h=> ?_)⟩;exact d _ (put _ _ _ ((e.state 0).core c) rfl rfl h)
theorem dC.q9 (m:dC h0 K) (b:h0<=k) {p:Nat} (hp:p<nQ K.c) {z:aU} {q:Addr} {y:ak} (d:gk K p z q y):lR k z.code (K.ins p):=by rw [d.2.2.1];exact ((m.code p hp).1).mono b
theorem EL {p:Nat} {v:Int} {n:Option Addr} {Q:Hp->Prop} (m:dC h0 K) (o:Has h0 (aK K pm s a) k) (hp:p<nQ K.c) (u:0<=(s.proc p).pc/\(s.proc p).pc<4611686018427387904) (i:∀d,Has h0 (aK K pm (cx K.c s p v) a) d->Q d):
  Sz prog n (some (K.p p)) v Q k:=by
 unfold Sz;obtain ⟨h1,z,q,x,b,f,put⟩:=o.dN hp;refine aY (f.ld (shf:=fE) (eZ z) rfl ?_);refine aY (f.ld (shf:=an) z.code rfl ?_);have e:gM (eZ z)=(s.proc p).core:=b.2.2.2.2.1;have t:(eZ z).PC=(s.proc p).pc:=congrArg Core.pc e;refine PT (acb (m.q9 o.le hp b) (by omega) λr w l h=> ?_);refine SJ (C7 (o.grow l) hp λj g=>i j ?_);rw [h,e,(m.code p hp).2] at g;exact g
theorem C8 {p:Nat} {i:Option Addr} {Q:Hp->Prop} (o:Has h0 (aK K pm s a) k) (hp:p<nQ K.c) (b:∀g,Has h0 (aK K pm (s.aO p (eC (s.proc p))) a) g->Q g):UN prog i (some (K.p p)) Q k:=by
 unfold UN;obtain ⟨h1,z,q,m,d,f,put⟩:=o.dN hp;refine aY (f.ld (shf:=ab .i64) z.state rfl ?_);have e:z.state=(s.proc p).state:=d.2.2.2.1;unfold eC at b;by_cases h:(s.proc p).state=1
 ·rw [if_pos (show (z.state==1)=true by rw [e,h];rfl)];rw [if_pos h] at b;exact aY (f.st (pa z 0) (by show 3+1<=15;omega) rfl λl j=>b _ (put _ _ _ (d.state 0) rfl rfl j))
 ·rw [if_neg (show ¬(z.state==1)=true by grind)];rw [if_neg h] at b;exact b _ (put z (s.proc p) k d rfl rfl f)
theorem FC {lz:Int} {Q:Hp->Prop} (m:dC h0 K) (o:Has h0 (aK K pm s a) k) (t:0<=lz->lz<(nQ K.c:Int)/\0<=(s.proc lz.toNat).pc/\(s.proc lz.toNat).pc<4611686018427387904) (b:∀g,Has h0 (aK K pm (gY s lz) a) g->Q g):
  T1 prog (some pm) lz Q k:=by
 unfold T1;unfold gY at b;by_cases h:0<=lz
 ·rw [if_pos (by simpa using h)];rw [if_pos h] at b;obtain ⟨D,A⟩:=t h;have hp:lz.toNat<nQ K.c:=by omega
  have r:((lz.toNat:Nat):Int)=lz:=by omega
  have at_:=m.vM o.le hp (Q:=λy=>y=some (K.p lz.toNat)) rfl;rw [r] at at_;obtain ⟨f,y,d,rfl⟩:=at_;refine aY (o.ft.ld (shf:=an) K.x.procs rfl ⟨f,_,d,aY (o.ft.ld (shf:=an) K.x.procs rfl ⟨f,_,d,?_⟩)⟩);obtain ⟨h1,z,q,C,u,w,put⟩:=o.dN hp;have e:gM (eZ z)=(s.proc lz.toNat).core:=u.2.2.2.2.1;have l:(eZ z).PC=(s.proc lz.toNat).pc:=congrArg Core.pc e;refine aY (w.ld (shf:=fE) (eZ z) rfl ?_);refine DZ (sP (by rw [l];exact A) λB j=> ?_);refine ⟨⟨o.ft.fq (n:=1) rfl,d,trivial⟩,?_⟩;refine SJ (C7 o hp λv i=>b v ?_);rw [j,e] at i;exact i
 grind
end
def iE (c:aW) (i j:Nat):Bool:=fl c.labels (i:Int) (j:Int)
structure GP (n:Nat) (l:bH):Prop where
 values:l.values.length<=64
 waiters:l.waiters.length<=100
 taken:kh l.taken
 dropped:kh l.dropped
 nd:(l.waiters.map (·.proc)).Nodup
 lz:∀w∈l.waiters,0<=w.proc/\w.proc<(n:Int)
structure qS (c:aW) (x:ak):Prop where
 pc:0<=x.pc/\x.pc<=1000
 len:x.ag.length=nP c+1
 cur:0<=x.af/\x.af<x.ag.length
 eJ:∀l∈x.ag,GP (nQ c) l
structure GO (c:aW) (x:dt):Prop where
 cur:0<=x.af/\x.af<4611686018427387904
 kz:x.log.length<=4096
 lost:kh x.lost
 lT:kh x.forbidden
 ij:x.aC.length=x.au.length
 ja:(x.au.length:Int)=c.ai
 jW:x.au.length<=8/\∀q∈x.au,q.length<=100
 nd:∀q∈x.au,q.Nodup/\∀z∈q,0<=z/\z<(nQ c:Int)
structure j5 (c:aW) (s:MS):Prop where
 proc:∀p,p<nQ c->qS c (s.proc p)
 part:∀i,i<nP c->GO c (s.part i)
theorem yJ {x:ak} {i:Nat} {l:bH} {f:bH->bH} (h:x.ag[i]? =some l):bL x i f={x with ag:=x.ag.set i (f l)}:=by
 unfold bL;congr 1;refine List.ext_getElem? λj=> ?_;by_cases e:i=j
 ·subst e;rw [wH h,List.getElem?_set_self (List.getElem?_eq_some_iff.1 h).1]
 ·rw [FK e,List.getElem?_set_ne e]
section
variable {h0 h1 k:Hp} {K:MK} {pm:Addr} {s:MS} {d:Nat->Nat->Int}
theorem Has.tJ {i:Nat} (o:Has h0 (aK K pm s d) k) (t:i<nP K.c):∃h1 x lp f,h0<=h1/\mX K i x lp f (s.part i)/\Has h1 (dR xd (K.q i) x) k/\
  ∀b a e,mX K i b lp f a->b.log=x.log->a.log=(s.part i).log->a.aC=(s.part i).aC->a.au=(s.part i).au->Has h1 (dR xd (K.q i) b) e->Has h0 (aK K pm (s.dz i a) d) e:=by
 obtain ⟨h1,x,lp,f,w,u,A,put⟩:=o.ru t;obtain ⟨m,y,B,_,C⟩:=A.fst;refine ⟨m,x,lp,f,Hp.le_trans w y,u,B,λb a e v g h j l z=> ?_⟩;have n:=C _ _ z;have p:Has h1 (pR K i b lp f a (d i)) e:=by unfold pR;rw [g,h,j,l];exact n
 have r:=put b a (d i) e v p
 rwa [yR] at r
theorem j5.told (a:j5 K.c s) {p:Nat} (hp:p<nQ K.c):0<=(s.proc p).pc/\(s.proc p).pc<4611686018427387904:=by have:=(a.proc p hp).pc;omega
theorem dC.ptr (m:dC h0 K) (o:Has h0 (aK K pm s d) k) {p:Nat} (hp:p<nQ K.c):br K.x.procs.base K.x.procs.len (p:Int)/\bG k (sat K.x.procs.base 1 (p:Int)) [.pointer (some (K.p p))]:=by obtain ⟨a,y,b,rfl⟩:=m.vM o.le hp (Q:=λy=>y=some (K.p p)) rfl;exact ⟨a,b⟩
theorem dC.uw (m:dC h0 K) (o:Has h0 (aK K pm s d) k) {p:Nat} (hp:p<nP K.c):br K.x.parts.base K.x.parts.len (p:Int)/\bG k (sat K.x.parts.base 1 (p:Int)) [.pointer (some (K.q p))]:=by obtain ⟨a,y,b,rfl⟩:=m.partAt o.le hp (Q:=λy=>y=some (K.q p)) rfl;exact ⟨a,b⟩
theorem DT {q i:Nat} {v:Int} {z:aU} {a:Addr} {Q:Int->Hp->Prop} (o:Has h0 (aK K pm s d) k) (I:q<nQ K.c) (R:qS K.c (s.proc q)) (H:K.c.lane<=64) (T:i<=nP K.c) (J:gk K q z a (s.proc q)) (M:Has h1 (dR bE (K.p q) z) k)
  (u:fk K.c (s.proc q) i=true->Q 19 k) (w:∀e,fk K.c (s.proc q) i=false->Has h0 (aK K pm (s.aO q (bL (s.proc q) i (sH v))) d) e->Q 0 e):Oj prog (some a) (i:Int) v Q k:=by
 obtain ⟨S,f,x,V,L,P,O,put⟩:=o.oh I;have ea:x=a:=by
  obtain ⟨b,eb,hb,_⟩:=M.qD;obtain ⟨y,r,G,_⟩:=P.qD;rw [eb] at r;have A:b=y:=congrArg Addr.block r;subst A;obtain ⟨t,B⟩:=hb;obtain ⟨W,g⟩:=G;rw [B] at g;have C:(bu (bE.enc z)).toArray=(bu (bE.enc f)).toArray:=by injection g with g;injection g
  have D:bu (bE.enc z)=bu (bE.enc f):=by simpa using C
  have E:(bu (bE.enc z))[14]? =(bu (bE.enc f))[14]?:=by rw [D]
  have m:some (Value.pointer z.post)=some (Value.pointer f.post):=E;have n:z.post=f.post:=by injection m with m;injection m
  rw [J.2.2.2.2.2.2,L.2.2.2.2.2.2] at n;exact (Option.some.inj n).symm
 subst ea;have U:=R.len;have j:=List.getElem?_eq_getElem (show i<(s.proc q).ag.length by omega);generalize (s.proc q).ag[i]=l at j;have F:fk K.c (s.proc q) i=decide (K.c.lane<=(l.values.length:Int)):=by unfold fk;rw [j]
 rw [F] at u w;refine adx O j H (λh=>u (decide_eq_true h)) λe h N=>w e (decide_eq_false h) ?_;rw [yJ j];exact put _ _ e N
end
section
variable {h0 h1 k:Hp} {K:MK} {pm:Addr} {s:MS} {b:Nat->Nat->Int}
theorem IY {p:Nat}:s.aO p (s.proc p)=s:=by unfold MS.aO;rw [yR]
theorem Kx {x:ak}:(eC x).pc=x.pc:=rfl
theorem Da {x:ak} {i:Nat} {f:bH->bH}:(bL x i f).pc=x.pc:=rfl
theorem zW {p q:Nat} {y:ak} (e:y.pc=(s.proc q).pc):((s.aO q y).proc p).pc=(s.proc p).pc:=by
 by_cases h:p=q
 ·subst h;rw [gy,e]
 ·rw [iW h]
theorem Ky {q i:Nat} {Q:Hp->Prop} (o:Has h0 (aK K pm s b) k) (n:q<nQ K.c) (h:qS K.c (s.proc q)) (w:i<=nP K.c) {C:Prop} (m:∀d,Has h0 (aK K pm (s.aO q (bL (s.proc q) i jN)) b) d->Q d):
  ∃z a,gk K q z a (s.proc q)/\(∀ {f:Option Addr->Prop},f (some a)->aQ none aj k ((K.p q).add 14) f)/\Oa prog (some a) (i:Int) Q k:=by
 obtain ⟨v,z,a,y,g,u,t,put⟩:=o.oh n;refine ⟨z,a,g,λj=>u.ld (shf:=aj) z.post rfl (by rw [g.2.2.2.2.2.2];exact j),?_⟩;have x:=h.len;have e:=List.getElem?_eq_getElem (show i<(s.proc q).ag.length by omega);generalize (s.proc q).ag[i]=l at e;refine abT t e (h.eJ l (List.mem_of_getElem? e)).dropped λd r=>m d ?_;rw [yJ e];exact put _ _ d r
def DU (c:aW) (s:MS) (p q:Nat) (v:Int):MS:=
 if jX (s.proc q)=false then cx c s p 2
 else if fk c (s.proc q) (aB c p) then
  let s1:=s.aO q (bL (s.proc q) (aB c p) (il p v))
  s1.aO p {s1.proc p with state:=2}
 else cx c (s.aO q (eC (bL (s.proc q) (aB c p) (sH v)))) p 0
theorem Xp {p q:Nat} {v:Int} {Q:Hp->Prop} (m:dC h0 K) (B:cH K.c) (o:Has h0 (aK K pm s b) k) (n:j5 K.c s) (hp:p<nQ K.c) (g:q<nQ K.c) (T:∀l∈(s.proc q).ag,∀z∈l.waiters,z.proc≠(p:Int))
  (f:∀A,Has h0 (aK K pm (DU K.c s p q v) b) A->Q A):Tl prog (some pm) (some (K.p p)) (some (K.p q)) v Q k:=by
 unfold Tl;obtain ⟨h1,r,ap,l1,G,op,_⟩:=o.dN hp;obtain ⟨h2,a,C,l2,u,j,_⟩:=o.dN g;unfold DU at f;have U:aB K.c p<=nP K.c:=Nat.le_of_lt B.fD;refine aY (j.ld (shf:=ab .i64) a.state rfl ?_);refine X7 (FB ?_);have S:a.state=(s.proc q).state:=u.2.2.2.1;have R:(decide (a.state≠5)&&decide (a.state≠6))=jX (s.proc q):=by rw [S];rfl
 rw [R];by_cases d:jX (s.proc q)=false
 ·rw [if_pos (by rw [d];rfl)];rw [if_pos d] at f;exact C1 (EL m o hp (n.told hp) f)
 ·rw [if_neg (by cases e:jX (s.proc q)<;>simp [e] at d ⊢)];rw [if_neg d] at f;refine aY (j.ld (shf:=aj) a.post rfl ?_);refine aY (op.ld (shf:=ab .i64) r.part rfl ?_);have E:r.part=(aB K.c p:Int):=G.2.1;have eq:a.post=some C:=u.2.2.2.2.2.2;rw [E,eq];refine X6 (DT o g (n.proc q g) B.lane.2 U u j (λi=> ?_) λA i Z=> ?_)
  ·rw [if_pos (by decide)];rw [if_pos i] at f;refine aY (j.ld (shf:=aj) a.post rfl ?_);refine aY (op.ld (shf:=ab .i64) r.part rfl ?_);refine aY (op.ld (shf:=ab .i64) r.dP rfl ?_);have P:r.dP=(p:Int):=G.1;rw [E,eq,P];obtain ⟨h3,w,J,l3,V,o3,o2,put⟩:=o.oh g;have ea:J=C:=by
    have L:=o3.ld (shf:=aj) (off:=14) w.post rfl (K:=λy=>y=w.post) rfl;have M:=j.ld (shf:=aj) (off:=14) a.post rfl (K:=λy=>y=a.post) rfl;obtain ⟨y1,x,rfl⟩:=L;obtain ⟨y2,h,rfl⟩:=M;have x:=x 0 (.pointer w.post) rfl;have h:=h 0 (.pointer a.post) rfl;rw [x] at h;have D:w.post=a.post:=by injection h with h;injection h
    rw [u.2.2.2.2.2.2,V.2.2.2.2.2.2] at D;exact Option.some.inj D
   subst ea;have a9:=(n.proc q g).len;have t:=List.getElem?_eq_getElem (show aB K.c p<(s.proc q).ag.length by omega);generalize (s.proc q).ag[aB K.c p]=l at t;have O:fk K.c (s.proc q) (aB K.c p)=decide (K.c.lane<=(l.values.length:Int)):=by unfold fk;rw [t]
   have F:=λl d=>(n.proc q g).eJ l d;have b0:=B.parts;refine U8 (abV o2 ⟨by omega,λl d=>⟨(F l d).waiters,by have:=(F l d).values;omega⟩⟩ T t (by rw [O] at i;exact of_decide_eq_true i) λX o4=> ?_);have I:=put _ _ _ o4;have N:({s.proc q with ag:=(s.proc q).ag.set (aB K.c p) (il p v l),af:=(s.proc q).af}:ak)=bL (s.proc q) (aB K.c p) (il p v):=(yJ t).symm;rw [N] at I;obtain ⟨h4,z4,a4,l4,W,o6,a8⟩:=I.dN hp;refine aY (o6.st (pa z4 2) (by show 3+1<=15;omega) rfl λY o7=> ?_);exact f Y (a8 _ _ _ (W.state 2) rfl rfl o7)
  ·rw [if_neg (by decide)];rw [if_neg (by rw [i];decide)] at f;refine SH (C8 Z g λX H=> ?_);rw [gy,B8] at H;refine C1 (EL m H hp ?_ f);rw [zW (by rw [Kx,Da])];exact n.told hp
end
end Lf
