/-
  Part 6 of the texts that the claim leans on.
-/
import Derived.Laws.IdiomStrings
import Derived.Test.YtfcckhafmajceaaGreatDoorCards
import Derived.Test.YtfcckhafmajceaaGreatDoorTie
import Derived.Test.YtfcckhafmajceaaGreatDoorMgFltAll4
/-
  Floats as texts: what FormatFloat makes of a finite one.
-/
namespace Lf
open Go Go.Proofs

def strN (xs : List Nat) : ByteArray := ⟨(xs.map UInt8.ofNat).toArray⟩

theorem semIs_textN {P : Program} {src dst e : TypeId} {h : Hp} {l : Sl} {xs : List Nat} (hs : P.underlying src = some (.slice e)) (he : P.underlying e = some (.int .u8)) (hd : P.underlying dst = some .string) (r : Rw h 1 eN l xs) (hx : ∀ x ∈ xs, x < 256) : SemIs P (convert src dst l.v) h (.string (strN xs)) := fun w hw => by
  refine ⟨w, ?_, .refl hw⟩
  obtain ⟨h1, h3⟩ := r
  obtain ⟨-, h3⟩ := h3
  rw [Nat.mul_one] at h3
  have nilc : l.base = none → xs.length = 0 := fun hb => by
    rcases h3 with h3 | ⟨a, ha, _⟩
    · exact h3
    · rw [hb] at ha; cases ha
  unfold Sl.v strN
  have hlen : (xs.map UInt8.ofNat).length = xs.length := List.length_map ..
  cases hb : l.base with
  | none =>
    have : xs = [] := List.length_eq_zero_iff.1 (nilc hb)
    subst this
    rw [run_convert_bytes_string w src dst e none l.len l.cap hs he hd]
    rfl
  | some a =>
    rw [h1, ← hlen]
    refine run_convert_bytes_back w src dst e a l.cap (xs.map UInt8.ofNat) hs he hd fun j hj => ?_
    rcases h3 with h3 | ⟨a', ha, hl⟩
    · omega
    · rw [hb] at ha; cases ha
      have hj' : j < xs.length := by omega
      have e1 : ((xs.map UInt8.ofNat)[j]'hj).toNat = xs[j] := by
        rw [List.getElem_map, UInt8.toNat_ofNat']
        have := hx _ (List.getElem_mem hj')
        omega
      have : (xs.flatMap eN)[j]? = some (.int .u8 (((xs.map UInt8.ofNat)[j]'hj).toNat : Int)) := by
        rw [← eN_map, List.getElem?_map, List.getElem?_eq_getElem hj', e1]; rfl
      have hc := hl j _ this
      rw [← hcell_whole]
      exact hcell_mono (fun b o e => hw b o e) hc

/-- The digits of a number, as letters. -/
def digL : Nat → Nat → List Nat
  | 0, _ => []
  | n + 1, u => digL n (u / 10) ++ [48 + u % 10]

theorem digL_len : ∀ n u, (digL n u).length = n
  | 0, _ => rfl
  | n + 1, u => by rw [digL, List.length_append, digL_len n]; rfl

theorem digV_map : ∀ n u, digV n u = (digL n u).map fun (c : Nat) => Value.int .u8 (c : Int)
  | 0, _ => rfl
  | n + 1, u => by rw [digV, digL, List.map_append, digV_map n]; rfl

theorem digL_take : ∀ (k a u : Nat), (digL (a + k) u).take a = digL a (u / 10 ^ k)
  | 0, a, u => by rw [Nat.add_zero, Nat.pow_zero, Nat.div_one, List.take_of_length_le (by rw [digL_len]; exact Nat.le_refl _)]
  | k + 1, a, u => by
    rw [← Nat.add_assoc, digL, List.take_append_of_le_length (by rw [digL_len]; omega), digL_take k a (u / 10), Nat.div_div_eq_div_mul, Nat.pow_succ']

theorem digL_in : ∀ (n u : Nat), ∀ x ∈ digL n u, 48 ≤ x ∧ x < 58
  | 0, _, x, h => by simp [digL] at h
  | n + 1, u, x, h => by
    rw [digL, List.mem_append] at h
    rcases h with h | h
    · exact digL_in n _ x h
    · rw [List.mem_singleton.1 h]; omega

/-- A number's text: so many digits, an exponent. -/
def sciT (neg : Bool) (a v : Nat) (e : Int) : List Nat := match digL a v with
  | [] => []
  | c :: ds => sciL neg c ds e

theorem sciT_in {neg : Bool} {a v : Nat} {e : Int} (he : e.natAbs < 1000) : ∀ x ∈ sciT neg a v e, x < 256 := by
  unfold sciT
  have hd := digL_in a v
  generalize digL a v = l at *
  intro x hx
  cases l with
  | nil => simp at hx
  | cons c ds =>
    have h1 := hd c (List.mem_cons_self ..)
    have h2 : ∀ y ∈ ds, y < 58 := fun y hy => (hd y (List.mem_cons_of_mem _ hy)).2
    have h3 : ∀ y ∈ expL e.natAbs, y < 256 := by
      unfold expL
      intro y hy
      split at hy
      · simp at hy; omega
      · split at hy <;> simp at hy <;> omega
    have hx : x ∈ (if neg then [45] else []) ++ [c] ++ (if ds = [] then [] else 46 :: ds) ++ [101, if e < 0 then 45 else 43] ++ expL e.natAbs := hx
    rw [List.mem_append, List.mem_append, List.mem_append, List.mem_append] at hx
    rcases hx with (((hx | hx) | hx) | hx) | hx
    · cases neg <;> simp at hx; omega
    · simp at hx; omega
    · split at hx
      · cases hx
      · rcases List.mem_cons.1 hx with hx | hx
        · omega
        · have := h2 x hx; omega
    · simp at hx
      rcases hx with hx | hx
      · omega
      · split at hx <;> omega
    · exact h3 x hx

section
variable {h0 h : Hp}

theorem andi_mask {a : Nat} (k : Nat) (ha : a < 9223372036854775808) (hk : k ≤ 62) : bitsI .and .i64 (IntKind.wrap .i64 (a : Int)) ((2 ^ k - 1 : Nat) : Int) = ((a % 2 ^ k : Nat) : Int) := by
  have h2 : 2 ^ k ≤ 2 ^ 62 := Nat.pow_le_pow_right (by decide) hk
  have hp := Nat.two_pow_pos k
  have hm : a % 2 ^ k ≤ a := Nat.mod_le _ _
  rw [wrap64 (by omega) (by omega)]
  unfold bitsI
  dsimp only
  show IntKind.wrap .i64 (((BitVec.ofInt 64 (a : Int)) &&& (BitVec.ofInt 64 ((2 ^ k - 1 : Nat) : Int))).toNat : Int) = _
  rw [BitVec.toNat_and, ofInt64 (by omega), ofInt64 (by omega), Nat.and_two_pow_sub_one_eq_mod, wrap64 (by omega) (by omega)]

/-- A float's parts, shifted to the left. -/
def mS (r : Nat) : Nat := partsM r * 2 ^ (64 - bitsN (partsM r))
def eS (r : Nat) : Int := partsE r - ((64 - bitsN (partsM r) : Nat) : Int)

theorem parts_bits {r : Nat} (h1 : 0 < r) (h2 : r < 9218868437227405312) : 1 ≤ bitsN (partsM r) ∧ bitsN (partsM r) ≤ 53 ∧ (bitsN (partsM r) < 53 → partsE r = -1074) ∧ -1074 ≤ partsE r ∧ partsE r ≤ 971 ∧ partsM r ≠ 0 := by
  have hm : partsM r ≠ 0 := fun e => by rw [partsM_zero h2] at e; omega
  have b1 := bitsN_lt (partsM r)
  have b2 := bitsN_ge hm
  have hl : partsM r < 2 ^ 53 := by unfold partsM; split <;> omega
  have b3 := bitsN_le2 hl
  refine ⟨by unfold bitsN; rw [if_neg hm]; omega, b3, fun hb => ?_, partsE_ge' r, ?_, hm⟩
  · unfold partsE
    by_cases hr : r < 4503599627370496
    · rw [if_pos hr]
    · exfalso
      have : 4503599627370496 ≤ partsM r := by unfold partsM; rw [if_neg hr]; omega
      have : 2 ^ bitsN (partsM r) ≤ 2 ^ 52 := Nat.pow_le_pow_right (by decide) (by omega)
      omega
  · unfold partsE; split <;> omega
where
  partsE_ge' (r : Nat) : -1074 ≤ partsE r := by unfold partsE; split <;> omega

theorem mS_in {r : Nat} (h1 : 0 < r) (h2 : r < 9218868437227405312) : 9223372036854775808 ≤ mS r ∧ mS r + 2 ^ zP (eS r) ≤ 18446744073709551616 ∧ -1137 ≤ eS r ∧ eS r ≤ 974 ∧ zP (eS r) = 64 - bitsN (partsM r) := by
  obtain ⟨b1, b2, b3, b4, b5, hm⟩ := parts_bits h1 h2
  have l1 := bitsN_lt (partsM r)
  have l2 := bitsN_ge hm
  have hz : zP (eS r) = 64 - bitsN (partsM r) := by
    unfold zP eS
    split
    · omega
    · have := b3 (by omega); omega
  have e1 : 2 ^ (bitsN (partsM r) - 1) * 2 ^ (64 - bitsN (partsM r)) = 9223372036854775808 := by
    rw [← Nat.pow_add, show bitsN (partsM r) - 1 + (64 - bitsN (partsM r)) = 63 by omega]
  have e2 : 2 ^ bitsN (partsM r) * 2 ^ (64 - bitsN (partsM r)) = 18446744073709551616 := by
    rw [← Nat.pow_add, show bitsN (partsM r) + (64 - bitsN (partsM r)) = 64 by omega]
  refine ⟨?_, ?_, by unfold eS; omega, by unfold eS; omega, hz⟩
  · have := Nat.mul_le_mul_right (2 ^ (64 - bitsN (partsM r))) l2
    unfold mS
    omega
  · have := Nat.mul_le_mul_right (2 ^ (64 - bitsN (partsM r))) (show partsM r + 1 ≤ 2 ^ bitsN (partsM r) from l1)
    rw [hz]
    unfold mS
    rw [Nat.succ_mul] at this
    omega

/-- What a finite float's text is. -/
def Shown (r : Nat) (neg : Bool) (zs : List Nat) : Prop := ∃ n k v : Nat, (shortP (mS r) (eS r)).1 = v * 10 ^ k ∧ v % 10 ≠ 0 ∧ k < n ∧ n ≤ 20 ∧ 10 ^ (n - 1) ≤ (shortP (mS r) (eS r)).1 ∧ (shortP (mS r) (eS r)).1 < 10 ^ n ∧ zs = sciT neg (n - k) v ((n : Int) + (shortP (mS r) (eS r)).2 - 1)

theorem ftoa_ok {dst : Sl} {xs : List Nat} {w b0 : Nat} {Q : Sl → Hp → Prop} (hw : h0 ≤ h) (o : ON h0 h dst xs) (hbase : dst.base = some ⟨b0, 0, none⟩) (hx : xs.length < 1000) (hw64 : w < 18446744073709551616) (w0 : 0 < w % 9223372036854775808) (w1 : w % 9223372036854775808 < 9218868437227405312)
    (d0 : (shortP (mS (w % 9223372036854775808)) (eS (w % 9223372036854775808))).1 ≠ 0) (d1 : (shortP (mS (w % 9223372036854775808)) (eS (w % 9223372036854775808))).1 < 18446744073709551616)
    (t1 : Pow10 h0) (t2 : Small10 h0) (hk : ∀ r h' zs, h0 ≤ h' → Shown (w % 9223372036854775808) (negD w) zs → ON h0 h' r (xs ++ zs) → Q r h') : internal_strconv_ftoa64_w Tryz.prog dst w (101 : Int) (-1 : Int) Q h := by
  obtain ⟨b1, b2, b3, b4, b5, hm⟩ := parts_bits w0 w1
  obtain ⟨m0, m1, e0, e1, hz⟩ := mS_in w0 w1
  unfold internal_strconv_ftoa64_w
  refine JoinW4.direct ⟨(w : Int), rfl, ⟨by decide, by decide, by decide, by decide, by decide, ?_⟩⟩
  rw [show IntKind.wrap .i64 ((shlI .i64 (1 : Int) (11 : Int)) - (1 : Int)) = ((2 ^ 11 - 1 : Nat) : Int) by decide, show IntKind.wrap .u64 ((shlI .u64 (1 : Int) (52 : Int)) - (1 : Int)) = (4503599627370495 : Int) by decide, show shlI .u64 (1 : Int) (52 : Int) = ((1 * 2 ^ 52 : Nat) : Int) by decide,
    show IntKind.wrap .i64 ((11 : Int) + (52 : Int)) = ((63 : Nat) : Int) by decide, show (52 : Int) = ((52 : Nat) : Int) from rfl, shrN w (by decide), shrN w (by decide), andi_mask 11 (by omega) (by decide), and_frac hw64]
  have hE : w / 2 ^ 52 % 2 ^ 11 = w % 9223372036854775808 / 4503599627370496 := by omega
  have hF : w % 4503599627370496 = w % 9223372036854775808 % 4503599627370496 := by omega
  rw [hE, hF]
  have hneg : (((w / 2 ^ 63 : Nat) : Int) != (0 : Int)) = negD w := by
    unfold negD
    by_cases c : 9223372036854775808 ≤ w
    · rw [decide_eq_true c]; exact bne_iff_ne.2 (by omega)
    · rw [decide_eq_false c, Bool.eq_false_iff]
      intro hh
      exact bne_iff_ne.1 hh (by omega)
  rw [hneg]
  generalize w % 9223372036854775808 = r at *
  refine iteF (fun hh => by have := beq_iff_eq.1 hh; omega) ?_
  refine JoinW2.intro (fun e m k => k = h ∧ e = partsE r + 1075 ∧ m = ((partsM r : Nat) : Int)) ?_ ?_
  · by_cases hr : r < 4503599627370496
    · refine iteT (beq_iff_eq.2 (by omega)) ⟨rfl, ?_, ?_⟩
      · rw [show r / 4503599627370496 = 0 by omega]
        unfold partsE
        rw [if_pos hr]
        decide
      · unfold partsM
        rw [if_pos hr, Nat.mod_eq_of_lt hr]
    · refine iteF (fun hh => hr (by have := beq_iff_eq.1 hh; omega)) ⟨by decide, rfl, ?_, ?_⟩
      · unfold partsE
        rw [if_neg hr]
        omega
      · unfold partsM
        rw [if_neg hr, or_comm64, or_add (a := 1) (s := 52) (.inl ⟨rfl, by omega⟩) (by omega)]
        omega
  rintro _ _ h ⟨rfl, rfl, rfl⟩
  refine iteF (by decide) (letW (iteF (by decide) (iteF (fun hh => hm (by have := beq_iff_eq.1 hh; omega)) (iteT (by decide) ?_))))
  intro b ty hb
  generalize hbuf : [Value.int .u8 (0 : Int), _, _, _, _, _, _, _, _, _, _, _, _, _, _, _, _, _, _, _, _, _, _, _, _, _, _, _, _, _, _, _] = buf
  have hbl : buf.length = 32 := by rw [← hbuf]; rfl
  have hle := set_new (o := .cells buf.toArray ty (0, 0)) hb
  have kb : Blk (h.set b (.cells buf.toArray ty (0, 0))) b buf := ⟨ty, set_self⟩
  have hne : b ≠ b0 := fun e => by
    subst e
    obtain ⟨_, _, o3⟩ := o
    rcases o3 with ⟨o3, _⟩ | ⟨b', cs, t, o3, o4, _⟩
    · rw [hbase] at o3; cases o3
    · rw [hbase] at o3; cases o3; rw [hb] at o4; cases o4
  have own := o.mono hle
  have hw2 := Hp.le_trans hw hle
  have hb0 : h0 b = none := none_of_le hw hb
  clear hbuf
  generalize h.set b (.cells buf.toArray ty (0, 0)) = h1 at *
  have ml : partsM r < 18446744073709551616 := Nat.lt_of_lt_of_le (bitsN_lt _) (Nat.le_trans (Nat.pow_le_pow_right (by decide) b2) (by decide))
  have hL : IntKind.wrap .i64 ((64 : Int) - (bitsN (partsM r) : Int)) = ((64 - bitsN (partsM r) : Nat) : Int) := by rw [wrap64 (by omega) (by omega)]; omega
  refine math_bits_Len64_call (len64_ok ml ?_)
  rw [hL]
  have eM : shlI .u64 ((partsM r : Nat) : Int) ((64 - bitsN (partsM r) : Nat) : Int) = ((mS r : Nat) : Int) := shlN (by omega) (by have : 0 < 2 ^ zP (eS r) := Nat.two_pow_pos _; unfold mS at m1; omega)
  have eE : IntKind.wrap .i64 ((IntKind.wrap .i64 ((IntKind.wrap .i64 (partsE r + 1075 + (-1023 : Int))) - ((64 - bitsN (partsM r) : Nat) : Int))) - ((52 : Nat) : Int)) = eS r := by
    unfold eS
    rw [wrap64 (n := partsE r + 1075 + -1023) (by omega) (by omega), wrap64 (n := partsE r + 1075 + -1023 - _) (by omega) (by omega), wrap64 (by omega) (by omega)]
    omega
  rw [eM, eE]
  refine ⟨by omega, internal_strconv_shortFloat_float64_call (short_ok m0 m1 e0 e1 (ldIs_mono hw2 t1) fun h2 l2 => letW ?_)⟩
  have eb : sbase (some ⟨b, 0, none⟩) 1 0 32 = some ⟨b, 0, none⟩ := by unfold sbase; rw [if_neg (by decide)]; show some (Addr.add _ _) = _; rw [box_add]
  rw [eb]
  obtain ⟨p0, p1, -, -⟩ := p_in (m := mS r) e0 e1
  have hp2 : -400 ≤ (shortP (mS r) (eS r)).2 ∧ (shortP (mS r) (eS r)).2 ≤ 400 := by
    unfold shortP
    split
    · show -400 ≤ -(pP _ _ - 1) ∧ -(pP _ _ - 1) ≤ 400; omega
    · split
      · show -400 ≤ -(pP _ _) ∧ -(pP _ _) ≤ 400; omega
      · show -400 ≤ -(pP _ _) ∧ -(pP _ _) ≤ 400; omega
  have sh : ∀ {n k v : Nat}, (shortP (mS r) (eS r)).1 = v * 10 ^ k → v % 10 ≠ 0 → k < n → n ≤ 20 → 10 ^ (n - 1) ≤ (shortP (mS r) (eS r)).1 → (shortP (mS r) (eS r)).1 < 10 ^ n → Shown r (negD w) (sciT (negD w) (n - k) v ((n : Int) + (shortP (mS r) (eS r)).2 - 1)) := fun a1 a2 a3 a4 a5 a6 => ⟨_, _, _, a1, a2, a3, a4, a5, a6, rfl⟩
  generalize (shortP (mS r) (eS r)).1 = d at *
  generalize (shortP (mS r) (eS r)).2 = p at *
  have kb2 := kb.le l2
  have own2 := own.mono l2
  have hw3 := Hp.le_trans hw2 l2
  refine internal_strconv_numDigits_call (numDigits_ok d0 d1 (ldIs_mono hw3 t2) fun n n1 n20 dn dn1 => ?_)
  refine internal_strconv_setDigits_call (setDigits_ok (s := ⟨some ⟨b, 0, none⟩, 32, 32⟩) rfl hbl.symm rfl (by show 32 < _; decide) kb2 d0 d1 (by show n ≤ 32; omega) dn1 (by omega) (by omega) fun h3 k v mv kb3 hv hv10 hkn => ?_)
  refine JoinW1.intro (fun q k' => k' = h3 ∧ q = ((n - k - 1 : Nat) : Int)) (JoinW1.direct (iteT (by decide) (iteT (by decide) ⟨rfl, ?_⟩))) ?_
  · rw [wrap64 (by omega) (by omega)]
    unfold max2I
    split <;> omega
  rintro q h3' ⟨rfl, rfl⟩
  refine letW ?_
  -- the digits lie beside the text
  have hb03 : h3' b0 = h2 b0 ∨ True := .inr trivial
  have own3 : ON h0 h3' dst xs := by
    obtain ⟨o1, o2, o3⟩ := own2
    refine ⟨o1, o2, ?_⟩
    rcases o3 with o3 | ⟨b', cs, t, o3, o4, o5⟩
    · exact .inl o3
    · refine .inr ⟨b', cs, t, o3, ?_, o5⟩
      rw [hbase] at o3; cases o3
      exact mv.keep _ _ o4 (by simpa using Ne.symm hne)
  have hw4 : h0 ≤ h3' := fun c ob hc => mv.keep c ob (hw3 c ob hc) (by simp only [List.mem_singleton]; intro e; rw [e, hb0] at hc; cases hc)
  have hb0n : h0 b0 = none := by
    obtain ⟨_, _, o3⟩ := own3
    rcases o3 with ⟨o3, _⟩ | ⟨b', cs, t, o3, _, _, _, o4⟩
    · rw [hbase] at o3; cases o3
    · rw [hbase] at o3; cases o3; exact o4
  have own4 : ON (cutH h3' [b0]) h3' dst xs := by
    obtain ⟨o1, o2, o3⟩ := own3
    refine ⟨o1, o2, ?_⟩
    rcases o3 with o3 | ⟨b', cs, t, o3, o4, o5, o6, o7⟩
    · exact .inl o3
    · rw [hbase] at o3; cases o3
      exact .inr ⟨b0, cs, t, hbase, o4, o5, o6, cut_none (List.mem_singleton.2 rfl)⟩
  have hcut : h0 ≤ cutH h3' [b0] := le_cut hw4 (by simpa using hb0n)
  have kb4 : Blk (cutH h3' [b0]) b (digV n d ++ buf.drop n) := by
    obtain ⟨t, e⟩ := kb3
    exact ⟨t, by rw [cut_eq (by simpa using hne)]; exact e⟩
  -- the digits without zeros last
  obtain ⟨c, ds, hcd⟩ : ∃ c ds, digL (n - k) v = c :: ds := by
    cases hq : digL (n - k) v with
    | nil => have := congrArg List.length hq; rw [digL_len] at this; simp at this; omega
    | cons c ds => exact ⟨c, ds, rfl⟩
  have hds : ds.length + 1 = n - k := by have := congrArg List.length hcd; rw [digL_len] at this; simpa using this.symm
  have htake : (digV n d ++ buf.drop n).take (ds.length + 1) = (c :: ds).map fun (c : Nat) => Value.int .u8 (c : Int) := by
    rw [hds, List.take_append_of_le_length (by rw [digV_len]; omega), digV_map, ← List.map_take, ← hcd]
    have := digL_take k (n - k) d
    rw [show n - k + k = n by omega, hv, Nat.mul_div_cancel _ (Nat.pow_pos (by decide))] at this
    rw [hv, this]
  refine internal_strconv_fmtEFG_call (efg_ok (s := ⟨some ⟨b, 0, none⟩, 32, 32⟩) cut_le own4 hx rfl kb4 (by show 32 = _; rw [List.length_append, digV_len, List.length_drop, hbl]; omega) rfl (by show 32 < _; decide) (by rw [hds]) htake (by omega) (by omega) (by omega) fun r' h4 l4 o4 => ?_)
  have o5 : ON h0 h4 r' (xs ++ sciL (negD w) c ds ((n : Int) + p - 1)) := by
    obtain ⟨q1, q2, q3⟩ := o4
    refine ⟨q1, q2, ?_⟩
    rcases q3 with q3 | ⟨b', cs, t, q3, q4, q5, q6, q7⟩
    · exact .inl q3
    · exact .inr ⟨b', cs, t, q3, q4, q5, q6, none_of_le hcut q7⟩
  refine hk r' h4 _ (Hp.le_trans hcut l4) (sh hv hv10 hkn n20 dn dn1) ?_
  unfold sciT
  rw [hcd]
  exact o5

end
end Lf

/-
  Whole numbers as texts.
-/
namespace Lf
open Go Go.Proofs

/-- The text of a whole number from 0 on. -/
def NatTxt (u : Nat) (zs : List Nat) : Prop := ∃ n, zs = digL n u ∧ u < 10 ^ n ∧ 1 ≤ n ∧ (n = 1 ∨ 10 ^ (n - 1) ≤ u)
def signL (i : Int) : List Nat := if i < 0 then [45] else []

theorem small_one : ∀ i, i < 10 → (ByteArray.extract ⟨#[48, 49, 50, 51, 52, 53, 54, 55, 56, 57, 97, 98, 99, 100, 101, 102, 103, 104, 105, 106, 107, 108, 109, 110, 111, 112, 113, 114, 115, 116, 117, 118, 119, 120, 121, 122]⟩ i (i + 1)).data = (strN (digL 1 i)).data := by decide +kernel
theorem small_two : ∀ i, i < 100 → (ByteArray.extract ⟨bl200.toArray⟩ (i * 2) (i * 2 + 2)).data = (strN (digL 2 i)).data := by decide +kernel

theorem bytes_ext {a b : ByteArray} (h : a.data = b.data) : a = b := by cases a; cases b; cases h; rfl

section
variable {h : Hp}

theorem smallInt_ok {i : Nat} {Q : ByteArray → Hp → Prop} (hi : i < 100) (hk : ∀ zs, NatTxt i zs → Q (strN zs) h) : internal_strconv_small_w Tryz.prog i Q h := by
  unfold internal_strconv_small_w
  by_cases h10 : i < 10
  · refine iteT (decide_eq_true (by omega)) ?_
    have e1 : IntKind.wrap .i64 ((i : Int) + 1) = ((i + 1 : Nat) : Int) := by rw [wrap64 (by omega) (by omega)]; omega
    rw [e1, Int.toNat_natCast, Int.toNat_natCast, bytes_ext (small_one i h10)]
    exact ⟨⟨by omega, by omega, by omega⟩, hk _ ⟨1, rfl, by omega, by omega, .inl rfl⟩⟩
  · refine iteF (fun hh => h10 (by have := of_decide_eq_true hh; omega)) ?_
    have e1 : IntKind.wrap .i64 ((i : Int) * 2) = ((i * 2 : Nat) : Int) := by rw [wrap64 (by omega) (by omega)]; omega
    have e2 : IntKind.wrap .i64 (((i * 2 : Nat) : Int) + 2) = ((i * 2 + 2 : Nat) : Int) := by rw [wrap64 (by omega) (by omega)]; omega
    rw [e1, e2, Int.toNat_natCast, Int.toNat_natCast]
    have := hk (digL 2 i) ⟨2, rfl, by omega, by omega, .inr (by omega)⟩
    rw [← bytes_ext (small_two i hi)] at this
    exact ⟨⟨by omega, by omega, by omega⟩, this⟩

theorem flat_row {b o n c : Nat} {cs : List Value} {zs : List Nat} (kb : Blk h b cs) (hn : n = zs.length) (e : (cs.drop o).take zs.length = zs.flatMap eN) : Rw h 1 eN ⟨some ⟨b, o, none⟩, n, c⟩ zs :=
  ⟨hn, kb.rd (by rw [flat_len eN_len]) (by rw [Nat.mul_one]; exact e)⟩

theorem formatInt_ok {i : Int} {Q : ByteArray → Hp → Prop} (i0 : -9223372036854775808 ≤ i) (i1 : i < 9223372036854775808) (t : Small10 h) (hk : ∀ zs h', h ≤ h' → NatTxt i.natAbs zs → Q (strN (signL i ++ zs)) h') : internal_strconv_FormatInt_w Tryz.prog i (10 : Int) Q h := by
  unfold internal_strconv_FormatInt_w
  refine iteT (by decide) (letW ?_)
  by_cases hs : 0 ≤ i ∧ i < 100
  · refine iteT (by rw [decide_eq_true hs.1, decide_eq_true hs.2]; rfl) ?_
    obtain ⟨n, rfl⟩ : ∃ n : Nat, i = n := ⟨i.toNat, by omega⟩
    refine internal_strconv_small_call (smallInt_ok (by omega) fun zs hz => ?_)
    have := hk zs h (Hp.le_refl h) (by rw [Int.natAbs_natCast]; exact hz)
    unfold signL at this
    rw [if_neg (by omega)] at this
    exact this
  · refine iteF (fun hh => hs (by rw [Bool.and_eq_true] at hh; exact ⟨of_decide_eq_true hh.1, of_decide_eq_true hh.2⟩)) ?_
    intro b ty hb
    generalize hbuf : [Value.int .u8 (0 : Int), _, _, _, _, _, _, _, _, _, _, _, _, _, _, _, _, _, _, _, _, _, _, _] = buf
    have hbl : buf.length = 24 := by rw [← hbuf]; rfl
    have hle := set_new (o := .cells buf.toArray ty (0, 0)) hb
    have kb : Blk (h.set b (.cells buf.toArray ty (0, 0))) b buf := ⟨ty, set_self⟩
    clear hbuf
    generalize h.set b (.cells buf.toArray ty (0, 0)) = h1 at *
    have hu0 : i.natAbs ≠ 0 := by omega
    have hul : i.natAbs < 18446744073709551616 := by omega
    refine JoinW1.intro (fun u k => k = h1 ∧ u = ((i.natAbs : Nat) : Int)) ?_ ?_
    · by_cases hn : i < 0
      · refine iteT (decide_eq_true hn) ⟨rfl, ?_⟩
        rw [wrapU64, wrapU64]
        omega
      · refine iteF (fun hh => hn (of_decide_eq_true hh)) ⟨rfl, ?_⟩
        rw [wrapU64]
        omega
    rintro u h1 ⟨rfl, rfl⟩
    refine internal_strconv_numDigits_call (numDigits_ok hu0 hul (ldIs_mono hle t) fun n n1 n20 dn dn1 => ?_)
    have e1 : IntKind.wrap .i64 ((1 : Int) + (n : Int)) = ((n + 1 : Nat) : Int) := by rw [wrap64 (by omega) (by omega)]; omega
    rw [e1, Int.toNat_natCast]
    have eb1 : sbase (some ⟨b, 0, none⟩) 1 1 24 = some ⟨b, 1, none⟩ := by unfold sbase; rw [if_neg (by decide)]; show some (Addr.add _ _) = _; rw [box_add]
    have eb0 : sbase (some ⟨b, 0, none⟩) 1 0 24 = some ⟨b, 0, none⟩ := by unfold sbase; rw [if_neg (by decide)]; show some (Addr.add _ _) = _; rw [box_add]
    rw [eb1]
    refine ⟨⟨by decide, by omega, by omega⟩, letW ?_⟩
    refine internal_strconv_formatBase10_call (format_ok (a := ⟨some ⟨b, 1, none⟩, n + 1 - 1, 23⟩) rfl (by show 1 + (n + 1 - 1) ≤ _; omega) (by show n + 1 - 1 < _; omega) kb dn1 hul fun h2 mv k2 => ?_)
    have k2 : Blk h2 b (buf.take 1 ++ digV n i.natAbs ++ buf.drop (1 + n)) := k2
    have hle2 : h ≤ h2 := fun c o hc => mv.keep c o (hle c o hc) (by simp only [List.mem_singleton]; intro e; rw [e, hb] at hc; cases hc)
    have txt : NatTxt i.natAbs (digL n i.natAbs) := ⟨n, rfl, dn1, n1, .inr dn⟩
    have hin := digL_in n i.natAbs
    have hdl := digL_len n i.natAbs
    have hdv : digV n i.natAbs = (digL n i.natAbs).flatMap eN := by rw [digV_map, eN_map]
    rw [hdv] at k2
    generalize digL n i.natAbs = zs at *
    have tl : (buf.take 1).length = 1 := by rw [List.length_take]; omega
    have fl : (zs.flatMap eN).length = n := by rw [flat_len eN_len, Nat.mul_one, hdl]
    by_cases hneg : i < 0
    · refine iteT (decide_eq_true hneg) ⟨by decide, ?_⟩
      have ea : Addr.add (⟨b, 0, none⟩ : Addr) 0 = ⟨b, 0, none⟩ := by rw [box_add]
      rw [ea, eb0]
      refine put1 k2 (by rw [List.length_append, List.length_append, tl]; omega) fun h3 mv3 k3 => ⟨by omega, letW ⟨strN (45 :: zs), semIs_textN (e := 5) (l := ⟨some ⟨b, 0, none⟩, n + 1 - 0, 24⟩) (tb_ok.und _ ty83 rfl) (tb_ok.und _ ty5 rfl) (tb_ok.und _ ty9 rfl) (flat_row k3 (by rw [List.length_cons]; omega) ?_) (fun x hx => ?_), ?_⟩⟩
      · cases hq : buf.take 1 with
        | nil => rw [hq] at tl; cases tl
        | cons x r =>
          have : r = [] := by rw [hq] at tl; simpa using tl
          subst this
          have e0 : (zs.flatMap eN).take (zs.length) = zs.flatMap eN := List.take_of_length_le (by omega)
          simp [List.flatMap_cons, eN, List.take_append_of_le_length, fl, hdl]
      · rcases List.mem_cons.1 hx with hx | hx
        · omega
        · have := hin x hx; omega
      · have := hk zs h3 (fun c o hc => mv3.keep c o (hle2 c o hc) (by simp only [List.mem_singleton]; intro e; rw [e, hb] at hc; cases hc)) txt
        unfold signL at this
        rw [if_pos hneg] at this
        exact this
    · refine iteF (fun hh => hneg (of_decide_eq_true hh)) ⟨⟨by decide, by omega, by omega⟩, letW ⟨strN zs, semIs_textN (e := 5) (l := ⟨some ⟨b, 1, none⟩, n + 1 - 1, 23⟩) (tb_ok.und _ ty83 rfl) (tb_ok.und _ ty5 rfl) (tb_ok.und _ ty9 rfl) (flat_row k2 (by omega) ?_) (fun x hx => by have := hin x hx; omega), ?_⟩⟩
      · rw [List.append_assoc, List.drop_append_of_le_length (by omega), List.drop_of_length_le (by omega), List.nil_append, List.take_append_of_le_length (by omega), List.take_of_length_le (by omega)]
      · have := hk zs h2 hle2 txt
        unfold signL at this
        rw [if_neg hneg] at this
        exact this

theorem itoa_ok {i : Int} {Q : ByteArray → Hp → Prop} (i0 : -9223372036854775808 ≤ i) (i1 : i < 9223372036854775808) (t : Small10 h) (hk : ∀ zs h', h ≤ h' → NatTxt i.natAbs zs → Q (strN (signL i ++ zs)) h') : strconv_Itoa_w Tryz.prog i Q h := by
  unfold strconv_Itoa_w
  refine internal_strconv_Itoa_call ?_
  unfold internal_strconv_Itoa_w
  exact internal_strconv_FormatInt_call (formatInt_ok i0 i1 t hk)
end
end Lf

/-
  Texts that are cut, and read as whole numbers.
-/
namespace Lf
open Go Go.Proofs

theorem strN_data (xs : List Nat) : (strN xs).data.toList = xs.map UInt8.ofNat := by simp [strN]
theorem strN_size (xs : List Nat) : (strN xs).size = xs.length := by show (strN xs).data.size = _; simp [strN]
theorem strN_toList (xs : List Nat) : (strN xs).toList = xs.map UInt8.ofNat := by rw [ByteArray.toList_eq]; exact strN_data xs

theorem strN_get {xs : List Nat} {i x : Nat} (hx : xs[i]? = some x) (hl : x < 256) : ((strN xs).data.toList.getD i 0).toNat = x := by
  rw [strN_data, List.getD_eq_getElem?_getD, List.getElem?_map, hx]
  show (UInt8.ofNat x).toNat = x
  rw [UInt8.toNat_ofNat']
  omega

theorem strN_extract (xs : List Nat) (a b : Nat) (hb : b ≤ xs.length) : (strN xs).extract a b = strN ((xs.take b).drop a) := by
  apply bytes_ext
  rw [ByteArray.data_extract]
  apply Array.ext'
  rw [Array.toList_extract]
  show (((strN xs).data.toList).drop a).take (b - a) = _
  rw [strN_data, ← List.drop_take, ← List.map_take, ← List.map_drop]
  simp [strN]

section
variable {h : Hp}

theorem indexByte_ok {s : ByteArray} {c : Int} {K : Int → Hp → Prop} {i : Nat} (hf : (List.range s.size).find? (fun i => s[i]! == c.toNat.toUInt8) = some i) (hk : K (i : Int) h) : SemE Tryz.prog (Extern.BytealgIndexByte.indexByte #[.string s, .int .u8 c]) (shInt .i64) K h := by
  show semW Tryz.prog (match (List.range s.size).find? (fun i => s[i]! == c.toNat.toUInt8) with | some i => pure (goInt i) | none => pure (goInt (-1))) _ h
  rw [hf]
  exact ⟨_, rfl, hk⟩

theorem strN_bang {xs : List Nat} {i : Nat} (hi : i < xs.length) : (strN xs)[i]! = UInt8.ofNat xs[i] := by
  have hs : i < (strN xs).size := by rw [strN_size]; exact hi
  rw [getElem!_pos (strN xs) i hs]
  show (strN xs).data[i] = _
  simp [strN]

theorem find_at {A B : List Nat} {c : Nat} (hc : c < 256) (hA : ∀ x ∈ A, x < 256 ∧ x ≠ c) : (List.range (strN (A ++ c :: B)).size).find? (fun i => (strN (A ++ c :: B))[i]! == ((c : Nat) : Int).toNat.toUInt8) = some A.length := by
  rw [List.find?_range_eq_some]
  have hl : A.length < (A ++ c :: B).length := by rw [List.length_append, List.length_cons]; omega
  refine ⟨?_, ?_, ?_⟩
  · rw [strN_bang hl]
    simp
  · rw [List.mem_range, strN_size]; exact hl
  · intro j hj
    rw [strN_bang (by omega), List.getElem_append_left hj, Int.toNat_natCast]
    obtain ⟨h1, h2⟩ := hA _ (List.getElem_mem hj)
    have : UInt8.ofNat A[j] ≠ c.toUInt8 := fun e => h2 (by
      have := congrArg UInt8.toNat e
      rw [UInt8.toNat_ofNat', show c.toUInt8.toNat = c % 256 from UInt8.toNat_ofNat'] at this
      omega)
    simpa using this

theorem cut_ok {A B : List Nat} {c : Nat} {Q : ByteArray → ByteArray → Bool → Hp → Prop} (hc : c < 256) (hA : ∀ x ∈ A, x < 256 ∧ x ≠ c) (hA0 : A ≠ []) (hlen : (A ++ c :: B).length < 1000000) (hq : Q (strN A) (strN B) true h) : strings_Cut_w Tryz.prog (strN (A ++ c :: B)) (strN [c]) Q h := by
  unfold strings_Cut_w
  refine internal_stringslite_Cut_call ?_
  unfold internal_stringslite_Cut_w
  refine internal_stringslite_Index_call ?_
  unfold internal_stringslite_Index_w
  have hA1 : 1 ≤ A.length := by
    cases A with
    | nil => exact absurd rfl hA0
    | cons _ _ => simp
  have hs : (strN [c]).size = 1 := strN_size _
  have hl : (A ++ c :: B).length = A.length + 1 + B.length := by rw [List.length_append, List.length_cons]; omega
  refine letW (iteF (fun hh => ?_) (iteT (by rw [hs]; decide) ⟨⟨by decide, by rw [hs]; decide⟩, internal_stringslite_IndexByte_call ?_⟩))
  · rw [hs, Bool.or_eq_true] at hh
    rcases hh with hh | hh
    · exact absurd hh (by decide)
    · have := congrArg List.length (eq_of_beq hh)
      rw [strN_toList, strN_toList, List.length_map, List.length_map, hl] at this
      simp at this
      omega
  unfold internal_stringslite_IndexByte_w
  rw [strN_get (xs := [c]) (i := 0) (x := c) rfl hc]
  refine indexByte_ok (find_at hc hA) ?_
  refine iteT (decide_eq_true (by show (A.length : Int) ≥ 0; omega)) ?_
  rw [strN_size, strN_size, hl, List.length_singleton, Int.toNat_natCast]
  have e1 : IntKind.wrap .i64 ((A.length : Int) + ((1 : Nat) : Int)) = ((A.length + 1 : Nat) : Int) := by rw [wrap64 (by omega) (by omega)]; omega
  rw [e1, Int.toNat_natCast]
  refine ⟨⟨by omega, by show (A.length : Int) ≤ ((A.length + 1 + B.length : Nat) : Int); omega⟩, ⟨by omega, by omega⟩, ?_⟩
  rw [strN_extract _ _ _ (by omega), strN_extract _ _ _ (by omega)]
  have t1 : ((A ++ c :: B).take A.length).drop 0 = A := by simp
  have t2 : ((A ++ c :: B).take (A.length + 1 + B.length)).drop (A.length + 1) = B := by
    rw [List.take_of_length_le (by omega), show A ++ c :: B = (A ++ [c]) ++ B by simp, List.drop_append_of_le_length (by simp), List.drop_of_length_le (by simp)]
    rfl
  rw [t1, t2]
  exact hq

/-- What digits say. -/
def numV (zs : List Nat) : Nat := zs.foldl (fun n z => 10 * n + (z - 48)) 0

theorem numV_snoc (zs : List Nat) (z : Nat) : numV (zs ++ [z]) = 10 * numV zs + (z - 48) := by simp [numV]

theorem fold_lt : ∀ (zs : List Nat) {n k : Nat}, n < 10 ^ k → (∀ z ∈ zs, 48 ≤ z ∧ z < 58) → zs.foldl (fun n z => 10 * n + (z - 48)) n < 10 ^ (k + zs.length)
  | [], _, _, h, _ => h
  | z :: zs, n, k, h, hz => by
    have h2 := hz z (List.mem_cons_self ..)
    have := fold_lt zs (n := 10 * n + (z - 48)) (k := k + 1) (by rw [Nat.pow_succ]; omega) fun x hx => hz x (List.mem_cons_of_mem _ hx)
    rw [List.length_cons, show k + (zs.length + 1) = k + 1 + zs.length by omega]
    exact this

theorem numV_lt {zs : List Nat} (hz : ∀ z ∈ zs, 48 ≤ z ∧ z < 58) : numV zs < 10 ^ zs.length := by
  have := fold_lt zs (n := 0) (k := 0) (by decide) hz
  rw [Nat.zero_add] at this
  exact this

theorem atoi_ok {sg : Nat} {zs : List Nat} {Q : Int → Leaf → Hp → Prop} (hsg : sg = 43 ∨ sg = 45) (hz : ∀ z ∈ zs, 48 ≤ z ∧ z < 58) (z1 : 1 ≤ zs.length) (z2 : zs.length ≤ 17)
    (hk : ∀ h' e, h ≤ h' → e.v = .nilIface → Q (if sg = 45 then -(numV zs : Int) else numV zs) e h') : strconv_Atoi_w Tryz.prog (strN (sg :: zs)) Q h := by
  unfold strconv_Atoi_w
  have fin : ∀ {n : Int} {e : Leaf} {h' : Hp}, h ≤ h' → n = (if sg = 45 then -(numV zs : Int) else numV zs) → e.v = .nilIface → ((isIfV e.v) = true ∧ (if (!(isNilIface e.v)) = true then
      CallT Tryz.prog n_strconv_toError [(.string ⟨#[65, 116, 111, 105]⟩), (.string (strN (sg :: zs))), (.int .i64 (0 : Int)), (.int .i64 (0 : Int)), e.v] shLeaf (fun r2 h2 => EncW shLeaf r2.v fun e => Q n e h2) h'
      else EncW shLeaf .nilIface fun e => Q n e h')) := fun {n e h'} hl hn he => by
    rw [he]
    exact ⟨rfl, iteF (by decide) ⟨⟨.nilIface, rfl⟩, rfl, hn ▸ hk h' _ hl rfl⟩⟩
  refine internal_strconv_Atoi_call ?_
  unfold internal_strconv_Atoi_w
  have hs : (strN (sg :: zs)).size = zs.length + 1 := by rw [strN_size]; rfl
  have hg0 : ((strN (sg :: zs)).data.toList.getD 0 0).toNat = sg := strN_get rfl (by omega)
  rw [hs, hg0]
  refine letW (letW (letW (letW (letW (iteT ?_ ?_)))))
  · simp; omega
  refine JoinW1.intro (fun s k => k = h ∧ s = strN zs) ⟨⟨by decide, by omega⟩, fun _ => ⟨by decide, by omega⟩, letW (iteT (by rcases hsg with rfl | rfl <;> decide) ⟨⟨by decide, by omega⟩, ?_⟩)⟩ ?_
  · have e : (strN (sg :: zs)).extract 1 (zs.length + 1) = strN zs := by
      rw [strN_extract _ _ _ (by simp)]
      simp
    rw [e, strN_size]
    exact iteF (fun hh => by have := of_decide_eq_true hh; omega) ⟨rfl, rfl⟩
  rintro _ h ⟨rfl, rfl⟩
  intro c b t hc hb
  rw [strN_size] at hc ⊢
  generalize hh2 : h.set b (.cells (bytesL (strN zs) ++ zerosL [.int .u8 0] (c - zs.length)).toArray t (c, c + 1)) = h2
  have hle : h ≤ h2 := hh2 ▸ set_new hb
  have cell : ∀ (i z : Nat), zs[i]? = some z → hcell h2 ⟨b, i, none⟩ = some (.int .u8 (z : Int)) := fun i z hz' => by
    subst hh2
    have hi : i < zs.length := (List.getElem?_eq_some_iff.1 hz').1
    have e : (bytesL (strN zs))[i]? = some (.int .u8 (z : Int)) := by
      unfold bytesL
      rw [strN_data, List.getElem?_map, List.getElem?_map, hz']
      have := hz z (List.mem_of_getElem? hz')
      show some (Value.int .u8 (((UInt8.ofNat z).toNat : Nat) : Int)) = _
      rw [UInt8.toNat_ofNat']
      congr 2
      omega
    have hl : (bytesL (strN zs)).length = zs.length := by unfold bytesL; rw [strN_data]; simp
    have e2 : (bytesL (strN zs) ++ zerosL [.int .u8 0] (c - zs.length))[i]? = some (.int .u8 (z : Int)) := by rw [List.getElem?_append_left (by omega)]; exact e
    unfold hcell
    simp only [set_self]
    simpa using e2
  clear hh2
  refine LoopW2.intro (fun n i k => k = h2 ∧ ∃ j : Nat, i = (j : Int) ∧ j ≤ zs.length ∧ n = (numV (zs.take j) : Int)) (fun _ i _ => (zs.length - i).toNat) ⟨rfl, 0, rfl, by omega, by simp [numV]⟩ ?_
  rintro n i k ⟨rfl, j, rfl, hj, rfl⟩
  have bound : ∀ {j}, j ≤ zs.length → numV (zs.take j) < 100000000000000000 := fun {j} hj => by
    have h1 := numV_lt (zs := zs.take j) fun z hz' => hz z (List.mem_of_mem_take hz')
    have h2 : 10 ^ (zs.take j).length ≤ 10 ^ 17 := Nat.pow_le_pow_right (by decide) (by rw [List.length_take]; omega)
    omega
  by_cases hlt : j < zs.length
  · have hg : zs[j]? = some zs[j] := List.getElem?_eq_getElem hlt
    obtain ⟨g0, g1⟩ := hz _ (List.getElem_mem hlt)
    have hb1 := bound hj
    have hb2 := bound (j := j + 1) hlt
    have hsn : numV (zs.take (j + 1)) = 10 * numV (zs.take j) + (zs[j] - 48) := by rw [List.take_add_one, hg]; exact numV_snoc _ _
    refine iteT (decide_eq_true (by show (j : Int) < (zs.length : Nat); omega)) ⟨⟨by simp, by omega, by show (j : Int) < (zs.length : Nat); omega⟩, ld_at (sh := shInt .u8) ((zs[j] : Nat) : Int) ?_ ?_⟩
    · have ea : sat (some ⟨b, 0, none⟩) 1 (j : Int) = ⟨b, j, none⟩ := by show Addr.add ⟨b, 0, none⟩ _ = _; rw [box_add]; simp
      show LdIs k (sat (some ⟨b, 0, none⟩) 1 (j : Int)) _
      rw [ea]
      exact one_cell (cell j _ hg)
    · have ex : IntKind.wrap .u8 (((zs[j] : Nat) : Int) - 48) = ((zs[j] - 48 : Nat) : Int) := by rw [byte8]; omega
      rw [ex]
      refine iteF (fun hh => by have := of_decide_eq_true hh; omega) ⟨⟨rfl, j + 1, ?_, by omega, ?_⟩, ?_⟩
      · rw [wrap64 (by omega) (by omega)]; omega
      · rw [wrap64 (n := (numV (zs.take j) : Int) * 10) (by omega) (by omega), wrap64 (n := ((zs[j] - 48 : Nat) : Int)) (by omega) (by omega), wrap64 (by omega) (by omega), hsn]
        omega
      · rw [wrap64 (by omega) (by omega)]
        omega
  · have : j = zs.length := by omega
    subst this
    refine iteF (fun hh => hlt (by have : (zs.length : Int) < (zs.length : Nat) := of_decide_eq_true hh; omega)) ⟨⟨by decide, by omega⟩, ?_⟩
    have hb1 := bound (Nat.le_refl _)
    rw [List.take_of_length_le (Nat.le_refl _)] at hb1 ⊢
    rcases hsg with rfl | rfl
    · exact iteF (by decide) ⟨⟨.nilIface, rfl⟩, rfl, fin hle (by rw [if_neg (by decide)]) rfl⟩
    · exact iteT (by decide) ⟨⟨.nilIface, rfl⟩, rfl, fin hle (by rw [wrap64 (by omega) (by omega), if_pos rfl]; omega) rfl⟩
end
end Lf

/-
  Floats, rounded: which numbers a rung stands for.
-/
namespace Lf
open Ieee

theorem pow_add' (a b : Nat) : 2 ^ (a + b) = 2 ^ a * 2 ^ b := Nat.pow_add 2 a b

/-- How far the next rung lies. -/
def gapD (r : Nat) : Nat := r / 4503599627370496 - 1

theorem val_small {r : Nat} (h : r < 4503599627370496) : valD r = r := by
  unfold valD partsM partsE
  rw [if_pos h, if_pos h]
  show r * 1 = r
  omega

theorem val_big {r : Nat} (h : 4503599627370496 ≤ r) : valD r = (r % 4503599627370496 + 4503599627370496) * 2 ^ gapD r := by
  unfold valD partsM partsE gapD
  rw [if_neg (by omega), if_neg (by omega), show (((r / 4503599627370496 : Nat) : Int) - 1075 + 1074).toNat = r / 4503599627370496 - 1 by omega]

theorem val_at (E q : Nat) (h : q < 4503599627370496) : valD ((E + 1) * 4503599627370496 + q) = (q + 4503599627370496) * 2 ^ E := by
  rw [val_big (by omega)]
  unfold gapD
  rw [show ((E + 1) * 4503599627370496 + q) % 4503599627370496 = q by omega, show ((E + 1) * 4503599627370496 + q) / 4503599627370496 - 1 = E by omega]

theorem val_next (r : Nat) : valD (r + 1) = valD r + 2 ^ gapD r := by
  by_cases h : r < 4503599627370496
  · have hg : gapD r = 0 := by unfold gapD; omega
    rw [val_small h, hg]
    by_cases h1 : r + 1 < 4503599627370496
    · rw [val_small h1]
    · have : r + 1 = (0 + 1) * 4503599627370496 + 0 := by omega
      have e1 : valD (r + 1) = 4503599627370496 := by rw [this, val_at 0 0 (by omega), Nat.pow_zero, Nat.mul_one, Nat.zero_add]
      rw [e1, Nat.pow_zero]
      omega
  · obtain ⟨E, q, hq, rfl⟩ : ∃ E q, q < 4503599627370496 ∧ r = (E + 1) * 4503599627370496 + q := ⟨r / 4503599627370496 - 1, r % 4503599627370496, by omega, by omega⟩
    have hg : gapD ((E + 1) * 4503599627370496 + q) = E := by unfold gapD; omega
    rw [val_at E q hq, hg]
    by_cases h1 : q + 1 < 4503599627370496
    · rw [show (E + 1) * 4503599627370496 + q + 1 = (E + 1) * 4503599627370496 + (q + 1) by omega, val_at E (q + 1) h1, show q + 1 + 4503599627370496 = q + 4503599627370496 + 1 by omega, Nat.succ_mul]
    · rw [show (E + 1) * 4503599627370496 + q + 1 = (E + 1 + 1) * 4503599627370496 + 0 by omega, val_at (E + 1) 0 (by omega), pow_add']
      have : q = 4503599627370495 := by omega
      subst this
      generalize 2 ^ E = g
      omega

/-- Twice the bounds. -/
def lowB (r : Nat) : Nat := valD (r - 1) + valD r
def highB (r : Nat) : Nat := valD r + valD (r + 1)

theorem val_le {r s : Nat} (h : r ≤ s) : valD r ≤ valD s := by
  rcases Nat.lt_or_eq_of_le h with h | h
  · exact Nat.le_of_lt (val_lt h)
  · rw [h]; exact Nat.le_refl _

theorem high_low {r s : Nat} (h : r < s) : highB r ≤ lowB s ∧ (highB r = lowB s → r + 1 = s) := by
  unfold highB lowB
  have h1 : valD r ≤ valD (s - 1) := val_le (by omega)
  have h2 : valD (r + 1) ≤ valD s := val_le (by omega)
  refine ⟨by omega, fun e => ?_⟩
  rcases Nat.lt_or_ge (r + 1) s with h3 | h3
  · have := val_lt h3
    omega
  · omega

theorem offD_le {m : Nat} {e : Int} : -1074 ≤ e + offD m e := by unfold offD; split <;> omega

theorem kept_big {m : Nat} {e : Int} (hm : m ≠ 0) (h : -1074 < e + offD m e) : 4503599627370496 * 2 ^ (offD m e).toNat ≤ m * 2 ^ (-offD m e).toNat ∧ m * 2 ^ (-offD m e).toNat < 9007199254740992 * 2 ^ (offD m e).toNat := by
  have hoe : offD m e = (bitsN m : Int) - 53 := by
    unfold offD at h ⊢
    split
    · rename_i h'; rw [if_pos h'] at h; omega
    · rfl
  have hb : bitsN m = m.log2 + 1 := by unfold bitsN; rw [if_neg hm]
  have h2 : 2 ^ m.log2 ≤ m := Nat.log2_self_le hm
  have h3 : m < 2 ^ (m.log2 + 1) := Nat.lt_log2_self
  rw [hoe, hb]
  generalize m.log2 = l at *
  have e1 : (4503599627370496 : Nat) = 2 ^ 52 := by decide
  have e2 : (9007199254740992 : Nat) = 2 ^ 53 := by decide
  rw [e1, e2, ← pow_add', ← pow_add']
  refine ⟨?_, ?_⟩
  · calc 2 ^ (52 + (((l + 1 : Nat) : Int) - 53).toNat) = 2 ^ l * 2 ^ (-(((l + 1 : Nat) : Int) - 53)).toNat := by rw [← pow_add']; congr 1; omega
      _ ≤ _ := Nat.mul_le_mul_right _ h2
  · calc m * 2 ^ (-(((l + 1 : Nat) : Int) - 53)).toNat < 2 ^ (l + 1) * 2 ^ (-(((l + 1 : Nat) : Int) - 53)).toNat := Nat.mul_lt_mul_of_pos_right h3 (Nat.two_pow_pos _)
      _ = 2 ^ (53 + (((l + 1 : Nat) : Int) - 53).toNat) := by rw [← pow_add']; congr 1; omega

/-- All numbers have at most 53 digits behind. -/
theorem kept_le {m : Nat} {e : Int} (hm : m ≠ 0) : m * 2 ^ (-offD m e).toNat < 9007199254740992 * 2 ^ (offD m e).toNat := by
  by_cases h : -1074 < e + offD m e
  · exact (kept_big hm h).2
  · have hoe : (bitsN m : Int) - 53 ≤ offD m e := by unfold offD; split <;> omega
    have hb : bitsN m = m.log2 + 1 := by unfold bitsN; rw [if_neg hm]
    have h3 : m < 2 ^ (m.log2 + 1) := Nat.lt_log2_self
    rw [hb] at hoe
    generalize m.log2 = l at *
    generalize offD m e = o at *
    have e2 : (9007199254740992 : Nat) = 2 ^ 53 := by decide
    rw [e2, ← pow_add']
    calc m * 2 ^ (-o).toNat < 2 ^ (l + 1) * 2 ^ (-o).toNat := Nat.mul_lt_mul_of_pos_right h3 (Nat.two_pow_pos _)
      _ = 2 ^ (l + 1 + (-o).toNat) := by rw [← pow_add']
      _ ≤ _ := Nat.pow_le_pow_right (by decide) (by omega)

theorem kept_near {m : Nat} {o : Int} : 2 * (m * 2 ^ (-o).toNat) ≤ (2 * keptD m o false + 1) * 2 ^ o.toNat ∧ 2 * keptD m o false * 2 ^ o.toNat ≤ 2 * (m * 2 ^ (-o).toNat) + 2 ^ o.toNat
    ∧ (2 * (m * 2 ^ (-o).toNat) = (2 * keptD m o false + 1) * 2 ^ o.toNat → keptD m o false % 2 = 0) ∧ (2 * keptD m o false * 2 ^ o.toNat = 2 * (m * 2 ^ (-o).toNat) + 2 ^ o.toNat → keptD m o false % 2 = 0) := by
  unfold keptD
  by_cases h : o ≤ 0
  · rw [if_pos h, show o.toNat = 0 by omega]
    generalize m * 2 ^ (-o).toNat = x
    omega
  · rw [if_neg h, show (-o).toNat = 0 by omega]
    obtain ⟨d, hd⟩ : ∃ d, o.toNat = d + 1 := ⟨o.toNat - 1, by omega⟩
    rw [hd]
    dsimp only
    rw [Nat.add_sub_cancel]
    have hp : 2 ^ (d + 1) = 2 * 2 ^ d := by rw [Nat.pow_succ, Nat.mul_comm]
    have hm := Nat.div_add_mod m (2 ^ (d + 1))
    have hr := Nat.mod_lt m (Nat.two_pow_pos (d + 1))
    generalize m % 2 ^ (d + 1) = r at *
    generalize m / 2 ^ (d + 1) = q at *
    rw [hp] at hm hr ⊢
    have hg := Nat.two_pow_pos d
    generalize 2 ^ d = g at *
    have hm : 2 * (g * q) + r = m := by rw [← hm, Nat.mul_assoc]
    have e1 : ∀ k, k * (2 * g) = 2 * (g * k) := fun k => by rw [Nat.mul_left_comm, Nat.mul_comm k g]
    rw [e1, e1]
    have e2 : ∀ k, g * (2 * k + 1) = 2 * (g * k) + g := fun k => by rw [Nat.mul_add, Nat.mul_left_comm, Nat.mul_one]
    have e3 : ∀ k, g * (2 * k) = 2 * (g * k) := fun k => by rw [Nat.mul_left_comm]
    rw [e2, e3]
    split
    · have e4 : g * (q + 1) = g * q + g := by rw [Nat.mul_add, Nat.mul_one]
      rename_i hc
      rw [e4]
      generalize g * q = z at *
      simp only [Bool.false_eq_true, false_or] at hc
      omega
    · rename_i hc
      generalize g * q = z at *
      simp only [Bool.false_eq_true, false_or] at hc
      omega

theorem cross {X G A P : Nat} (hG : 0 < G) (hP : 0 < P) (h : A * G = X * P) (k c : Nat) : (k * X ≤ c * G ↔ k * A ≤ c * P) ∧ (c * G ≤ k * X ↔ c * P ≤ k * A) := by
  have e1 : k * A * G = k * X * P := by rw [Nat.mul_assoc, h, Nat.mul_assoc]
  have e2 : c * G * P = c * P * G := by rw [Nat.mul_assoc, Nat.mul_comm G P, Nat.mul_assoc]
  refine ⟨⟨fun hh => ?_, fun hh => ?_⟩, ⟨fun hh => ?_, fun hh => ?_⟩⟩
  · refine Nat.le_of_mul_le_mul_right (c := G) ?_ hG
    rw [e1, ← e2]
    exact Nat.mul_le_mul_right _ hh
  · refine Nat.le_of_mul_le_mul_right (c := P) ?_ hP
    rw [e2, ← e1]
    exact Nat.mul_le_mul_right _ hh
  · refine Nat.le_of_mul_le_mul_right (c := G) ?_ hG
    rw [e1, ← e2]
    exact Nat.mul_le_mul_right _ hh
  · refine Nat.le_of_mul_le_mul_right (c := P) ?_ hP
    rw [e2, ← e1]
    exact Nat.mul_le_mul_right _ hh

/-- What is kept of a number, and which rung it is. -/
theorem rung_form {m : Nat} {e : Int} {K : Nat} (hm : m ≠ 0) (hK : 0 ≤ e + 1074 + K) :
    ∃ q u : Nat, (2 * (m * 2 ^ (e + 1074 + K).toNat) ≤ (2 * q + 1) * 2 ^ (u + K) ∧ (2 * (m * 2 ^ (e + 1074 + K).toNat) = (2 * q + 1) * 2 ^ (u + K) → q % 2 = 0))
      ∧ ((2 * q - 1) * 2 ^ (u + K) ≤ 2 * (m * 2 ^ (e + 1074 + K).toNat) ∧ (1 ≤ q → (2 * q - 1) * 2 ^ (u + K) = 2 * (m * 2 ^ (e + 1074 + K).toNat) → q % 2 = 0))
      ∧ (u = 0 ∨ 4503599627370496 * 2 ^ (u + K) ≤ m * 2 ^ (e + 1074 + K).toNat)
      ∧ (q < 4503599627370496 ∧ u = 0 ∧ rungD m e false = q ∨ 4503599627370496 ≤ q ∧ q ≤ 9007199254740992 ∧ rungD m e false = min ((u + 1) * 4503599627370496 + (q - 4503599627370496)) 9218868437227405312) := by
  have ho := offD_le (m := m) (e := e)
  have hX := kept_le (e := e) hm
  have hB := kept_big (e := e) hm
  obtain ⟨n1, n2, n3, n4⟩ := kept_near (m := m) (o := offD m e)
  have hr : rungD m e false = (let off := offD m e; let q := keptD m off false; if q < 4503599627370496 then q else if 2047 ≤ e + off + 1075 then 9218868437227405312 else min ((e + off + 1075).toNat * 4503599627370496 + (q - 4503599627370496)) 9218868437227405312) := rfl
  dsimp only at hr
  generalize keptD m (offD m e) false = q at *
  generalize offD m e = o at *
  obtain ⟨u, hu⟩ : ∃ u : Nat, e + o + 1074 = u := ⟨(e + o + 1074).toNat, by omega⟩
  have hG := Nat.two_pow_pos o.toNat
  have hP := Nat.two_pow_pos (u + K)
  have hc : m * 2 ^ (e + 1074 + K).toNat * 2 ^ o.toNat = m * 2 ^ (-o).toNat * 2 ^ (u + K) := by
    rw [Nat.mul_assoc, Nat.mul_assoc, ← pow_add', ← pow_add']
    congr 2
    omega
  have hcr := cross hG hP hc
  generalize m * 2 ^ (e + 1074 + K).toNat = A at *
  generalize m * 2 ^ (-o).toNat = X at *
  have m1 : ∀ k, (2 * k + 1) * 2 ^ o.toNat = 2 * k * 2 ^ o.toNat + 2 ^ o.toNat := fun k => by rw [Nat.succ_mul]
  have n2' : (2 * q - 1) * 2 ^ o.toNat ≤ 2 * X := by
    rw [Nat.sub_mul]
    omega
  refine ⟨q, u, ⟨(hcr 2 (2 * q + 1)).1.1 n1, fun e1 => ?_⟩, ⟨(hcr 2 (2 * q - 1)).2.1 n2', fun hq e1 => ?_⟩, ?_, ?_⟩
  · refine n3 (Nat.le_antisymm n1 ((hcr 2 (2 * q + 1)).2.2 (by omega)))
  · have h1 := (hcr 2 (2 * q - 1)).1.2 (by omega)
    have h2 := Nat.le_antisymm n2' h1
    refine n4 ?_
    obtain ⟨k, rfl⟩ : ∃ k, q = k + 1 := ⟨q - 1, by omega⟩
    rw [show 2 * (k + 1) - 1 = 2 * k + 1 by omega] at h2
    rw [← h2, show 2 * (k + 1) = (2 * k + 1) + 1 by omega, Nat.succ_mul]
  · rcases Nat.eq_zero_or_pos u with h0 | h0
    · exact .inl h0
    · right
      have := (hcr 1 4503599627370496).2.1 (by have := (hB (by omega)).1; omega)
      omega
  · have q1 : q ≤ 9007199254740992 := by
      have h1 : 2 * q * 2 ^ o.toNat < (2 * 9007199254740992 + 1) * 2 ^ o.toNat := by
        rw [m1]
        have : 2 * 9007199254740992 * 2 ^ o.toNat = 2 * (9007199254740992 * 2 ^ o.toNat) := Nat.mul_assoc _ _ _
        omega
      have := Nat.lt_of_mul_lt_mul_right h1
      omega
    by_cases hq : q < 4503599627370496
    · rw [if_pos hq] at hr
      refine .inl ⟨hq, ?_, hr⟩
      rcases Nat.eq_zero_or_pos u with h0 | h0
      · exact h0
      · exfalso
        have h2 := (hB (by omega)).1
        have h1 : (2 * 4503599627370496) * 2 ^ o.toNat ≤ (2 * q + 1) * 2 ^ o.toNat := by
          have : 2 * 4503599627370496 * 2 ^ o.toNat = 2 * (4503599627370496 * 2 ^ o.toNat) := Nat.mul_assoc _ _ _
          omega
        have := Nat.le_of_mul_le_mul_right h1 hG
        omega
    · rw [if_neg hq] at hr
      refine .inr ⟨by omega, q1, ?_⟩
      rw [hr]
      split
      · rw [Nat.min_eq_right]
        omega
      · rw [show (e + o + 1075).toNat = u + 1 by omega]

theorem low_of {r : Nat} (h : 1 ≤ r) : lowB r + 2 ^ gapD (r - 1) = 2 * valD r := by
  have := val_next (r - 1)
  rw [show r - 1 + 1 = r by omega] at this
  unfold lowB
  omega

theorem high_of {r : Nat} : highB r = 2 * valD r + 2 ^ gapD r := by
  have := val_next r
  unfold highB
  omega

theorem rung_high {m : Nat} {e : Int} {K : Nat} (hm : m ≠ 0) (hK : 0 ≤ e + 1074 + K) (hr : rungD m e false < 9218868437227405312) :
    2 * (m * 2 ^ (e + 1074 + K).toNat) ≤ highB (rungD m e false) * 2 ^ K ∧ (2 * (m * 2 ^ (e + 1074 + K).toNat) = highB (rungD m e false) * 2 ^ K → rungD m e false % 2 = 0) := by
  obtain ⟨q, u, ⟨a1, a2⟩, -, -, h⟩ := rung_form hm hK
  generalize m * 2 ^ (e + 1074 + K).toNat = A at *
  rw [pow_add', ← Nat.mul_assoc] at a1 a2
  rcases h with ⟨hq, rfl, hr'⟩ | ⟨hq, hq', hr'⟩
  · rw [hr', high_of, val_small hq, show gapD q = 0 by unfold gapD; omega]
    rw [Nat.pow_zero, Nat.mul_one] at a1 a2
    exact ⟨a1, a2⟩
  · rw [hr'] at hr ⊢
    rw [Nat.min_def] at hr ⊢
    split
    · rename_i hc
      rcases Nat.lt_or_ge q 9007199254740992 with h1 | h1
      · have hv : valD ((u + 1) * 4503599627370496 + (q - 4503599627370496)) = q * 2 ^ u := by
          rw [val_at u _ (by omega)]
          congr 1
          omega
        have hg : gapD ((u + 1) * 4503599627370496 + (q - 4503599627370496)) = u := by unfold gapD; omega
        rw [high_of, hv, hg]
        have e1 : (2 * q + 1) * 2 ^ u = 2 * (q * 2 ^ u) + 2 ^ u := by rw [Nat.succ_mul, Nat.mul_assoc]
        rw [e1] at a1 a2
        exact ⟨a1, fun h2 => by have := a2 h2; omega⟩
      · have h1 : q = 9007199254740992 := by omega
        subst h1
        have e0 : (u + 1) * 4503599627370496 + (9007199254740992 - 4503599627370496) = (u + 1 + 1) * 4503599627370496 + 0 := by omega
        rw [e0, high_of, val_at (u + 1) 0 (by omega), show gapD ((u + 1 + 1) * 4503599627370496 + 0) = u + 1 by unfold gapD; omega]
        have h3 : (2 * 9007199254740992 + 1) * 2 ^ u * 2 ^ K < (2 * ((0 + 4503599627370496) * 2 ^ (u + 1)) + 2 ^ (u + 1)) * 2 ^ K := by
          refine Nat.mul_lt_mul_of_pos_right ?_ (Nat.two_pow_pos _)
          have := Nat.two_pow_pos u
          rw [Nat.pow_succ]
          omega
        exact ⟨by omega, fun h2 => by omega⟩
    · rename_i hc
      rw [if_neg hc] at hr
      omega

theorem val_top {k : Nat} (hk : k = 2046) : valD 9218868437227405312 = 4503599627370496 * 2 ^ k := by
  rw [show 9218868437227405312 = (k + 1) * 4503599627370496 + 0 by omega, val_at k 0 (by omega), Nat.zero_add]

theorem rung_low {m : Nat} {e : Int} {K : Nat} (hm : m ≠ 0) (hK : 0 ≤ e + 1074 + K) (hr : 1 ≤ rungD m e false) :
    lowB (rungD m e false) * 2 ^ K ≤ 2 * (m * 2 ^ (e + 1074 + K).toNat) ∧ (lowB (rungD m e false) * 2 ^ K = 2 * (m * 2 ^ (e + 1074 + K).toNat) → rungD m e false % 2 = 0) := by
  have hl := low_of hr
  obtain ⟨q, u, -, ⟨a1, a2⟩, a3, h⟩ := rung_form hm hK
  generalize m * 2 ^ (e + 1074 + K).toNat = A at *
  rw [pow_add', ← Nat.mul_assoc] at a1 a2 a3
  have strict : ∀ {x : Nat}, x < 2 * 4503599627370496 * 2 ^ u → 4503599627370496 * 2 ^ u * 2 ^ K ≤ A → x * 2 ^ K ≤ 2 * A ∧ x * 2 ^ K ≠ 2 * A := fun {x} h1 h2 => by
    have h3 := Nat.mul_lt_mul_of_pos_right h1 (Nat.two_pow_pos K)
    have h4 : 2 * 4503599627370496 * 2 ^ u * 2 ^ K = 2 * (4503599627370496 * 2 ^ u * 2 ^ K) := by rw [Nat.mul_assoc 2, Nat.mul_assoc 2]
    omega
  rcases h with ⟨hq, rfl, hr'⟩ | ⟨hq, hq', hr'⟩
  · rw [hr'] at hr hl ⊢
    rw [val_small hq, show gapD (q - 1) = 0 by unfold gapD; omega] at hl
    rw [Nat.pow_zero, Nat.mul_one] at a1 a2
    rw [show lowB q = 2 * q - 1 by omega]
    exact ⟨a1, a2 hr⟩
  · rw [Nat.min_def] at hr'
    by_cases hc : (u + 1) * 4503599627370496 + (q - 4503599627370496) ≤ 9218868437227405312
    · rw [if_pos hc] at hr'
      rw [hr'] at hr hl ⊢
      have hv : valD ((u + 1) * 4503599627370496 + (q - 4503599627370496)) = q * 2 ^ u := by
        rcases Nat.lt_or_ge q 9007199254740992 with h1 | h1
        · rw [val_at u _ (by omega), Nat.sub_add_cancel hq]
        · have h1 : q = 9007199254740992 := by omega
          subst h1
          rw [show (u + 1) * 4503599627370496 + (9007199254740992 - 4503599627370496) = (u + 1 + 1) * 4503599627370496 + 0 by omega, val_at (u + 1) 0 (by omega), Nat.pow_succ]
          omega
      rw [hv] at hl
      have e1 : (2 * q - 1) * 2 ^ u + 2 ^ u = 2 * (q * 2 ^ u) := by rw [← Nat.succ_mul, ← Nat.mul_assoc, show (2 * q - 1).succ = 2 * q by omega]
      by_cases h1 : 4503599627370496 < q ∨ u = 0
      · have hg : gapD ((u + 1) * 4503599627370496 + (q - 4503599627370496) - 1) = u := by unfold gapD; omega
        rw [hg] at hl
        rw [show lowB ((u + 1) * 4503599627370496 + (q - 4503599627370496)) = (2 * q - 1) * 2 ^ u by omega]
        exact ⟨a1, fun h2 => by have := a2 (by omega) h2; omega⟩
      · have h1 : q = 4503599627370496 := by omega
        subst h1
        have := Nat.two_pow_pos (gapD ((u + 1) * 4503599627370496 + (4503599627370496 - 4503599627370496) - 1))
        have h5 := strict (x := lowB ((u + 1) * 4503599627370496 + (4503599627370496 - 4503599627370496))) (by rw [Nat.mul_assoc]; omega) (by omega)
        exact ⟨h5.1, fun h2 => absurd h2 h5.2⟩
    · rw [if_neg hc] at hr'
      rw [hr'] at hr hl ⊢
      obtain ⟨T, hT⟩ : ∃ T : Nat, T = 2045 := ⟨2045, rfl⟩
      have hv : valD 9218868437227405312 = 4503599627370496 * 2 ^ (T + 1) := val_top (by omega)
      have hg : gapD (9218868437227405312 - 1) = T := by unfold gapD; omega
      have hps : (2 : Nat) ^ (T + 1) = 2 ^ T * 2 := Nat.pow_succ 2 T
      rw [hv, hg] at hl
      rcases Nat.lt_or_ge u (T + 1) with h1 | h1
      · have h2 : u = T := by omega
        have h3 : q = 9007199254740992 := by omega
        subst h2; subst h3
        omega
      · have h2 : 4503599627370496 * 2 ^ (T + 1) ≤ 4503599627370496 * 2 ^ u := Nat.mul_le_mul_left _ (Nat.pow_le_pow_right (by decide) h1)
        have := Nat.two_pow_pos T
        have h5 := strict (x := lowB 9218868437227405312) (by rw [Nat.mul_assoc]; omega) (by omega)
        exact ⟨h5.1, fun h2 => absurd h2 h5.2⟩

/-- Which rung a number comes to. -/
theorem rung_of {m : Nat} {e : Int} {K r : Nat} (hm : m ≠ 0) (hK : 0 ≤ e + 1074 + K) (hr : r ≤ 9218868437227405312)
    (h1 : r = 0 ∨ lowB r * 2 ^ K < 2 * (m * 2 ^ (e + 1074 + K).toNat) ∨ (lowB r * 2 ^ K = 2 * (m * 2 ^ (e + 1074 + K).toNat) ∧ r % 2 = 0))
    (h2 : r = 9218868437227405312 ∨ 2 * (m * 2 ^ (e + 1074 + K).toNat) < highB r * 2 ^ K ∨ (2 * (m * 2 ^ (e + 1074 + K).toNat) = highB r * 2 ^ K ∧ r % 2 = 0)) : rungD m e false = r := by
  have hle := rungD_le (m := m) (e := e) (b := false)
  have hh := rung_high (e := e) hm hK
  have hl := rung_low (e := e) hm hK
  generalize rungD m e false = s at *
  generalize m * 2 ^ (e + 1074 + K).toNat = A at *
  rcases Nat.lt_trichotomy s r with h | h | h
  · exfalso
    obtain ⟨c1, c2⟩ := high_low h
    obtain ⟨d1, d2⟩ := hh (by omega)
    have c3 := Nat.mul_le_mul_right (2 ^ K) c1
    have e1 : lowB r * 2 ^ K = 2 * A ∧ r % 2 = 0 := by omega
    have e2 : highB s * 2 ^ K = lowB r * 2 ^ K := by omega
    have e3 := Nat.eq_of_mul_eq_mul_right (Nat.two_pow_pos K) e2
    have := d2 (by omega)
    have := c2 e3
    omega
  · exact h
  · exfalso
    obtain ⟨c1, c2⟩ := high_low h
    obtain ⟨d1, d2⟩ := hl (by omega)
    have c3 := Nat.mul_le_mul_right (2 ^ K) c1
    have e1 : 2 * A = highB r * 2 ^ K ∧ r % 2 = 0 := by omega
    have e2 : highB r * 2 ^ K = lowB s * 2 ^ K := by omega
    have e3 := Nat.eq_of_mul_eq_mul_right (Nat.two_pow_pos K) e2
    have := d2 (by omega)
    have := c2 e3
    omega

theorem low_lt {r : Nat} (h : 1 ≤ r) : lowB r < 2 * valD r := by
  have := low_of h
  have := Nat.two_pow_pos (gapD (r - 1))
  omega

theorem lt_high {r : Nat} : 2 * valD r < highB r := by
  have := high_of (r := r)
  have := Nat.two_pow_pos (gapD r)
  omega

/-- A float is rounded to itself. -/
theorem rung_self {m : Nat} {e : Int} {K r : Nat} (hm : m ≠ 0) (hK : 0 ≤ e + 1074 + K) (hr : r ≤ 9218868437227405312) (h : m * 2 ^ (e + 1074 + K).toNat = valD r * 2 ^ K) : rungD m e false = r := by
  have hp := Nat.two_pow_pos K
  have h1 := Nat.mul_lt_mul_of_pos_right (lt_high (r := r)) hp
  have e1 : 2 * valD r * 2 ^ K = 2 * (valD r * 2 ^ K) := Nat.mul_assoc _ _ _
  refine rung_of hm hK hr ?_ (.inr (.inl (by omega)))
  rcases Nat.eq_zero_or_pos r with h0 | h0
  · exact .inl h0
  · have h2 := Nat.mul_lt_mul_of_pos_right (low_lt h0) hp
    exact .inr (.inl (by omega))

/-- The greater number has no lesser rung. -/
theorem rung_mono {m n : Nat} {e f : Int} {K : Nat} (hm : m ≠ 0) (hn : n ≠ 0) (he : 0 ≤ e + 1074 + K) (hf : 0 ≤ f + 1074 + K) (h : m * 2 ^ (e + 1074 + K).toNat ≤ n * 2 ^ (f + 1074 + K).toNat) : rungD m e false ≤ rungD n f false := by
  rcases Nat.lt_or_ge (rungD n f false) (rungD m e false) with hlt | hge
  · exfalso
    have hle := rungD_le (m := m) (e := e) (b := false)
    obtain ⟨a1, a2⟩ := rung_high hn hf (by omega)
    obtain ⟨b1, b2⟩ := rung_low hm he (by omega)
    obtain ⟨c1, c2⟩ := high_low hlt
    have c3 := Nat.mul_le_mul_right (2 ^ K) c1
    generalize m * 2 ^ (e + 1074 + K).toNat = A at *
    generalize n * 2 ^ (f + 1074 + K).toNat = B at *
    have e2 : highB (rungD n f false) * 2 ^ K = lowB (rungD m e false) * 2 ^ K := by omega
    have e3 := c2 (Nat.eq_of_mul_eq_mul_right (Nat.two_pow_pos K) e2)
    have := a2 (by omega)
    have := b2 (by omega)
    omega
  · exact hge

theorem val_zero : valD 0 = 0 := by rw [val_small (by omega)]

/-- What is not below the least float is none of the lesser. -/
theorem rung_pos {m : Nat} {e : Int} (hm : m ≠ 0) (he : -1074 ≤ e) : 1 ≤ rungD m e false := by
  rcases Nat.eq_zero_or_pos (rungD m e false) with h | h
  · exfalso
    have := (rung_high (K := 0) (e := e) hm (by omega) (by omega)).1
    rw [h] at this
    have e1 : highB 0 = 1 := by unfold highB; rw [val_small (by omega), val_small (by omega)]
    rw [e1] at this
    have : 1 ≤ m * 2 ^ (e + 1074 + (0 : Nat)).toNat := Nat.mul_pos (by omega) (Nat.two_pow_pos _)
    omega
  · exact h
end Lf

/-
  Floats: what follows of sums, products, quotients and which is below.
-/
namespace Lf
open Ieee

theorem addD_comm {a b : Nat} (ha : a < 18446744073709551616) (hb : b < 18446744073709551616) : addD a b = addD b a := by
  have sa := neg_split ha
  have sb := neg_split hb
  unfold addD
  dsimp only
  rw [show min (partsE (b % 9223372036854775808)) (partsE (a % 9223372036854775808)) = min (partsE (a % 9223372036854775808)) (partsE (b % 9223372036854775808)) by omega]
  generalize partsM (a % 9223372036854775808) * 2 ^ (partsE (a % 9223372036854775808) - min (partsE (a % 9223372036854775808)) (partsE (b % 9223372036854775808))).toNat = x
  generalize partsM (b % 9223372036854775808) * 2 ^ (partsE (b % 9223372036854775808) - min (partsE (a % 9223372036854775808)) (partsE (b % 9223372036854775808))).toNat = y
  generalize min (partsE (a % 9223372036854775808)) (partsE (b % 9223372036854775808)) = k
  by_cases h1 : isNaND a = true ∨ isNaND b = true ∨ (a % 9223372036854775808 = 9218868437227405312 ∧ b % 9223372036854775808 = 9218868437227405312 ∧ a ≠ b)
  · have h1' : isNaND b = true ∨ isNaND a = true ∨ (b % 9223372036854775808 = 9218868437227405312 ∧ a % 9223372036854775808 = 9218868437227405312 ∧ b ≠ a) := by
      rcases h1 with h | h | ⟨h, h', h''⟩
      · exact .inr (.inl h)
      · exact .inl h
      · exact .inr (.inr ⟨h', h, Ne.symm h''⟩)
    rw [if_pos h1, if_pos h1']
  have h1' : ¬ (isNaND b = true ∨ isNaND a = true ∨ (b % 9223372036854775808 = 9218868437227405312 ∧ a % 9223372036854775808 = 9218868437227405312 ∧ b ≠ a)) := fun h => h1 (by
      rcases h with h | h | ⟨h, h', h''⟩
      · exact .inr (.inl h)
      · exact .inl h
      · exact .inr (.inr ⟨h', h, Ne.symm h''⟩))
  rw [if_neg h1, if_neg h1']
  by_cases h2 : a % 9223372036854775808 = 9218868437227405312
  · rw [if_pos h2]
    by_cases h3 : b % 9223372036854775808 = 9218868437227405312
    · rw [if_pos h3]
      exact Classical.byContradiction fun e => h1 (.inr (.inr ⟨h2, h3, e⟩))
    · rw [if_neg h3, if_pos h2]
  rw [if_neg h2]
  by_cases h3 : b % 9223372036854775808 = 9218868437227405312
  · rw [if_pos h3, if_pos h3]
  rw [if_neg h3, if_neg h3, if_neg h2]
  by_cases h4 : a % 9223372036854775808 = 0 ∧ b % 9223372036854775808 = 0
  · have h4' : b % 9223372036854775808 = 0 ∧ a % 9223372036854775808 = 0 := ⟨h4.2, h4.1⟩
    rw [if_pos h4, if_pos h4']
    by_cases e : a = b
    · rw [if_pos e, if_pos e.symm, e]
    · rw [if_neg e, if_neg (Ne.symm e)]
  have h4' : ¬ (b % 9223372036854775808 = 0 ∧ a % 9223372036854775808 = 0) := fun h => h4 ⟨h.2, h.1⟩
  rw [if_neg h4, if_neg h4']
  by_cases h5 : negD a = negD b
  · rw [if_pos h5, if_pos h5.symm, Nat.add_comm, h5]
  have h5' : ¬ negD b = negD a := fun h => h5 h.symm
  rw [if_neg h5, if_neg h5']
  by_cases h6 : x = y
  · rw [if_pos h6, if_pos h6.symm]
  have h6' : ¬ y = x := fun h => h6 h.symm
  rw [if_neg h6, if_neg h6']
  by_cases h7 : y < x
  · have h7' : ¬ x < y := by omega
    rw [if_pos h7, if_neg h7']
  · have h7' : x < y := by omega
    rw [if_neg h7, if_pos h7']

theorem mulD_comm {a b : Nat} : mulD a b = mulD b a := by
  unfold mulD
  dsimp only
  rw [Nat.mul_comm (partsM (b % 9223372036854775808)), Int.add_comm (partsE (b % 9223372036854775808)), Bool.xor_comm (negD b)]
  congr 1
  · exact propext ⟨fun h => by
      rcases h with h | h | ⟨h, h'⟩ | ⟨h, h'⟩
      · exact .inr (.inl h)
      · exact .inl h
      · exact .inr (.inr (.inr ⟨h', h⟩))
      · exact .inr (.inr (.inl ⟨h', h⟩)), fun h => by
      rcases h with h | h | ⟨h, h'⟩ | ⟨h, h'⟩
      · exact .inr (.inl h)
      · exact .inl h
      · exact .inr (.inr (.inr ⟨h', h⟩))
      · exact .inr (.inr (.inl ⟨h', h⟩))⟩
  · congr 1
    exact propext ⟨Or.symm, Or.symm⟩

/-- What comes of an instruction: a NaN is the one, and it is one where one went in. -/
def OutD (a b r : Nat) : Prop := r < 18446744073709551616 ∧ (isNaND r = true → r = 9221120237041090560) ∧ (isNaND a = true ∨ isNaND b = true → r = 9221120237041090560)

theorem outD_nan {a b : Nat} : OutD a b 9221120237041090560 := ⟨by omega, fun _ => rfl, fun _ => rfl⟩

theorem outD_of {a b r : Nat} (h : r < 18446744073709551616) (h1 : ¬ 9218868437227405312 < r % 9223372036854775808) (h2 : ¬ (isNaND a = true ∨ isNaND b = true)) : OutD a b r := ⟨h, fun e => absurd e (nan_not h1), fun e => absurd e h2⟩

theorem outD_rounded {a b : Nat} {s : Bool} {m : Nat} {e : Int} {c : Bool} (h2 : ¬ (isNaND a = true ∨ isNaND b = true)) : OutD a b (roundedD s m e c) := by
  have := roundedD_mod (s := s) (m := m) (e := e) (b := c)
  exact outD_of this.2 (by omega) h2

theorem sgn_cases (s : Bool) : sgn s = 0 ∨ sgn s = 9223372036854775808 := by cases s <;> simp [sgn]

theorem add_out {a b : Nat} (ha : a < 18446744073709551616) (hb : b < 18446744073709551616) : OutD a b (addD a b) := by
  unfold addD
  dsimp only
  split
  · exact outD_nan
  rename_i h1
  have h2 : ¬ (isNaND a = true ∨ isNaND b = true) := fun h => h1 (by rcases h with h | h; exact .inl h; exact .inr (.inl h))
  split
  · exact outD_of ha (by omega) h2
  split
  · exact outD_of hb (by omega) h2
  split
  · rename_i hz
    split
    · exact outD_of ha (by omega) h2
    · exact outD_of (by omega) (by omega) h2
  split
  · exact outD_rounded h2
  split
  · exact outD_of (by omega) (by omega) h2
  split
  · exact outD_rounded h2
  · exact outD_rounded h2

theorem mul_out {a b : Nat} : OutD a b (mulD a b) := by
  unfold mulD
  dsimp only
  split
  · exact outD_nan
  rename_i h1
  have h2 : ¬ (isNaND a = true ∨ isNaND b = true) := fun h => h1 (by rcases h with h | h; exact .inl h; exact .inr (.inl h))
  split
  · have := sgn_cases (negD a ^^ negD b)
    exact outD_of (by omega) (by omega) h2
  · exact outD_rounded h2

theorem div_out {a b : Nat} : OutD a b (divD a b) := by
  unfold divD
  dsimp only
  have := sgn_cases (negD a ^^ negD b)
  split
  · exact outD_nan
  rename_i h1
  have h2 : ¬ (isNaND a = true ∨ isNaND b = true) := fun h => h1 (by rcases h with h | h; exact .inl h; exact .inr (.inl h))
  split
  · exact outD_of (by omega) (by omega) h2
  split
  · exact outD_of (by omega) (by omega) h2
  · exact outD_rounded h2

/-- Which is below: one of two answers. -/
theorem below_bounds {a b : Nat} : 0 ≤ belowD a b ∧ 0 ≤ belowD b a ∧ belowD a b + belowD b a ≤ 1 ∧ (isNaND a = true ∨ isNaND b = true → belowD a b + belowD b a = 0) := by
  unfold belowD
  by_cases h : isNaND a = true ∨ isNaND b = true ∨ (a % 9223372036854775808 = 0 ∧ b % 9223372036854775808 = 0)
  · have h' : isNaND b = true ∨ isNaND a = true ∨ (b % 9223372036854775808 = 0 ∧ a % 9223372036854775808 = 0) := by
      rcases h with h | h | h
      · exact .inr (.inl h)
      · exact .inl h
      · exact .inr (.inr ⟨h.2, h.1⟩)
    rw [if_pos h, if_pos h']
    exact ⟨by decide, by decide, by decide, fun _ => by decide⟩
  · have h' : ¬ (isNaND b = true ∨ isNaND a = true ∨ (b % 9223372036854775808 = 0 ∧ a % 9223372036854775808 = 0)) := fun h' => h (by
      rcases h' with h | h | h
      · exact .inr (.inl h)
      · exact .inl h
      · exact .inr (.inr ⟨h.2, h.1⟩))
    rw [if_neg h, if_neg h']
    refine ⟨by split <;> decide, by split <;> decide, ?_, fun e => absurd e (fun e => h (by rcases e with e | e; exact .inl e; exact .inr (.inl e)))⟩
    split
    · rw [if_neg (by omega)]; decide
    · split <;> decide

theorem below_rz {a b : Nat} (ha : a < 18446744073709551616) (hb : b < 18446744073709551616) (na : ¬ isNaND a = true) (nb : ¬ isNaND b = true) : belowD a b = 1 ↔ rzD a < rzD b := by
  unfold belowD rzD negD keyD
  by_cases hz : a % 9223372036854775808 = 0 ∧ b % 9223372036854775808 = 0
  · rw [if_pos (.inr (.inr hz)), hz.1, hz.2]
    constructor
    · intro h; cases h
    · split <;> split <;> intro h <;> simp at h
  · rw [if_neg (fun h => by rcases h with h | h | h; exact na h; exact nb h; exact hz h)]
    by_cases h1 : 9223372036854775808 ≤ a <;> by_cases h2 : 9223372036854775808 ≤ b <;> simp only [h1, h2, if_true, if_false, decide_true, decide_false, Bool.false_eq_true] <;> (split <;> constructor <;> intro h <;> omega)

/-- What is rounded, signed. -/
theorem rz_rounded {s : Bool} {m : Nat} {e : Int} (hm : m ≠ 0) (he : -1074 ≤ e) : rzD (roundedD s m e false) < 0 ↔ s = true := by
  have h1 := rung_pos hm he
  have h2 := rungD_le (m := m) (e := e) (b := false)
  unfold roundedD rzD
  rw [if_neg hm]
  generalize rungD m e false = r at *
  cases s with
  | true =>
    have : negD (sgn true + r) = true := by unfold negD sgn; exact decide_eq_true (by rw [if_pos rfl]; omega)
    rw [this, if_pos rfl]
    have : sgn true = 9223372036854775808 := rfl
    rw [this]
    exact ⟨fun _ => rfl, fun _ => by omega⟩
  | false =>
    have : negD (sgn false + r) = false := by unfold negD sgn; exact decide_eq_false (by rw [if_neg (by decide)]; omega)
    rw [this, if_neg (by decide)]
    constructor
    · intro h; omega
    · intro h; cases h

theorem partsE_ge (r : Nat) : -1074 ≤ partsE r := by unfold partsE; split <;> omega

theorem partsE_low (r : Nat) : 0 ≤ partsE r + 1074 := by have := partsE_ge r; omega

/-- The sign of a difference says which is below. -/
theorem diff_sign {a b : Nat} (ha : a < 18446744073709551616) (hb : b < 18446744073709551616) (fa : a % 9223372036854775808 < 9218868437227405312) (fb : b % 9223372036854775808 < 9218868437227405312) :
    belowD a b = 1 ↔ belowD (addD a (if 9223372036854775808 ≤ b then b - 9223372036854775808 else b + 9223372036854775808)) 0 = 1 := by
  have na : ¬ isNaND a = true := nan_not (by omega)
  have nb : ¬ isNaND b = true := nan_not (by omega)
  generalize hc : (if 9223372036854775808 ≤ b then b - 9223372036854775808 else b + 9223372036854775808) = c
  have cm : c % 9223372036854775808 = b % 9223372036854775808 := by rw [← hc]; split <;> omega
  have cl : c < 18446744073709551616 := by rw [← hc]; split <;> omega
  have cn : negD c = !negD b := by
    rw [← hc]
    unfold negD
    by_cases h : 9223372036854775808 ≤ b
    · rw [if_pos h, decide_eq_true h]; exact decide_eq_false (by omega)
    · rw [if_neg h, decide_eq_false h]; exact decide_eq_true (by omega)
  have nc : ¬ isNaND c = true := nan_not (by omega)
  have ho := add_out ha cl
  have n0 : ¬ isNaND 0 = true := nan_not (by omega)
  rw [below_rz ha hb na nb, below_rz ho.1 (by omega) ?_ n0, show rzD 0 = 0 from rfl]
  rotate_left
  · intro e
    have := ho.2.1 e
    unfold addD at this
    dsimp only at this
    rw [if_neg (fun h => by rcases h with h | h | h; exact na h; exact nc h; omega), if_neg (by omega), if_neg (by omega)] at this
    have rn : ∀ {s m e c}, roundedD s m e c ≠ 9221120237041090560 := fun {s m e c} h => by
      have := (roundedD_mod (s := s) (m := m) (e := e) (b := c)).1
      rw [h] at this
      omega
    split at this
    · split at this <;> omega
    split at this
    · exact rn this
    split at this
    · omega
    split at this
    · exact rn this
    · exact rn this
  unfold addD
  dsimp only
  rw [if_neg (fun h => by rcases h with h | h | h; exact na h; exact nc h; omega), if_neg (by omega), if_neg (by omega), cm]
  by_cases hz : a % 9223372036854775808 = 0 ∧ b % 9223372036854775808 = 0
  · rw [if_pos hz]
    unfold rzD
    rw [hz.1, hz.2]
    constructor
    · intro h
      exfalso
      revert h
      cases negD a <;> cases negD b <;> decide
    · intro h
      exfalso
      by_cases e : a = c
      · rw [if_pos e, hz.1] at h
        revert h
        cases negD a <;> decide
      · rw [if_neg e] at h
        revert h
        decide
  rw [if_neg hz, cn]
  have hka : min (partsE (a % 9223372036854775808)) (partsE (b % 9223372036854775808)) ≤ partsE (a % 9223372036854775808) := Int.min_le_left _ _
  have hkb : min (partsE (a % 9223372036854775808)) (partsE (b % 9223372036854775808)) ≤ partsE (b % 9223372036854775808) := Int.min_le_right _ _
  have hk : -1074 ≤ min (partsE (a % 9223372036854775808)) (partsE (b % 9223372036854775808)) := by have := partsE_ge (a % 9223372036854775808); have := partsE_ge (b % 9223372036854775808); omega
  have ra : rzD a = if negD a then -((a % 9223372036854775808 : Nat) : Int) else ((a % 9223372036854775808 : Nat) : Int) := rfl
  have rb : rzD b = if negD b then -((b % 9223372036854775808 : Nat) : Int) else ((b % 9223372036854775808 : Nat) : Int) := rfl
  rw [ra, rb]
  generalize a % 9223372036854775808 = r at *
  generalize b % 9223372036854775808 = t at *
  generalize min (partsE r) (partsE t) = k at *
  have vx : valD r = partsM r * 2 ^ (partsE r - k).toNat * 2 ^ (k + 1074).toNat := by unfold valD; rw [Nat.mul_assoc, ← pow_add']; congr 2; omega
  have vy : valD t = partsM t * 2 ^ (partsE t - k).toNat * 2 ^ (k + 1074).toNat := by unfold valD; rw [Nat.mul_assoc, ← pow_add']; congr 2; omega
  have zx := parts_zero (k := (partsE r - k).toNat) fa
  have zy := parts_zero (k := (partsE t - k).toNat) fb
  generalize partsM r * 2 ^ (partsE r - k).toNat = x at *
  generalize partsM t * 2 ^ (partsE t - k).toNat = y at *
  have hp := Nat.two_pow_pos (k + 1074).toNat
  have lt1 : r < t → x < y := fun h => Nat.lt_of_mul_lt_mul_right (a := 2 ^ (k + 1074).toNat) (by rw [← vx, ← vy]; exact val_lt h)
  have lt2 : t < r → y < x := fun h => Nat.lt_of_mul_lt_mul_right (a := 2 ^ (k + 1074).toNat) (by rw [← vx, ← vy]; exact val_lt h)
  have eq1 : r = t → x = y := fun h => Nat.eq_of_mul_eq_mul_right hp (by rw [← vx, ← vy, h])
  clear vx vy hka hkb ra rb hc cm cl cn nc ho
  have pos : ∀ {s : Bool} {m : Nat}, m ≠ 0 → (rzD (roundedD s m k false) < 0 ↔ s = true) := fun hm => rz_rounded hm hk
  cases h1 : negD a <;> cases h2 : negD b
  · rw [if_neg (show ¬ false = !false by decide)]
    simp only [Bool.false_eq_true, if_false]
    by_cases e : x = y
    · rw [if_pos e, show rzD 0 = 0 from rfl]; omega
    rw [if_neg e]
    by_cases h : y < x
    · rw [if_pos h, pos (by omega)]
      constructor
      · intro h'; omega
      · intro h'; cases h'
    · rw [if_neg h, pos (by omega)]
      constructor
      · intro _; rfl
      · intro _; omega
  · rw [if_pos (show false = !true by decide), pos (by omega)]
    simp only [Bool.false_eq_true, if_false, if_true, iff_false]
    omega
  · rw [if_pos (show true = !false by decide), pos (by omega)]
    simp only [Bool.false_eq_true, if_false, if_true, iff_true]
    omega
  · rw [if_neg (show ¬ true = !true by decide)]
    simp only [if_true]
    by_cases e : x = y
    · rw [if_pos e, show rzD 0 = 0 from rfl]; omega
    rw [if_neg e]
    by_cases h : y < x
    · rw [if_pos h, pos (by omega)]
      constructor
      · intro _; rfl
      · intro _; omega
    · rw [if_neg h, pos (by omega)]
      constructor
      · intro h'; omega
      · intro h'; cases h'

theorem rounded_self {a m : Nat} {e : Int} {K : Nat} (ha : a < 18446744073709551616) (fa : a % 9223372036854775808 < 9218868437227405312) (hK : 0 ≤ e + 1074 + K) (h : m * 2 ^ (e + 1074 + K).toNat = valD (a % 9223372036854775808) * 2 ^ K) : roundedD (negD a) m e false = a := by
  have sa := neg_split ha
  unfold roundedD
  by_cases hm : m = 0
  · rw [if_pos hm]
    rw [hm, Nat.zero_mul] at h
    have h0 : valD (a % 9223372036854775808) = 0 := by
      rcases Nat.mul_eq_zero.1 h.symm with h | h
      · exact h
      · have := Nat.two_pow_pos K; omega
    have : a % 9223372036854775808 = 0 := by
      rcases Nat.eq_zero_or_pos (a % 9223372036854775808) with h1 | h1
      · exact h1
      · have := val_lt h1; omega
    omega
  · rw [if_neg hm, rung_self hm hK (Nat.le_of_lt fa) h]
    exact sa.symm

theorem mul_one_D {a : Nat} (ha : a < 18446744073709551616) (na : ¬ isNaND a = true) : mulD a 4607182418800017408 = a := by
  have n1 : ¬ isNaND 4607182418800017408 = true := nan_not (by omega)
  have hn : ¬ 9218868437227405312 < a % 9223372036854775808 := fun h => na (decide_eq_true h)
  have e1 : (negD a ^^ negD 4607182418800017408) = negD a := by rw [show negD 4607182418800017408 = false by unfold negD; exact decide_eq_false (by omega), Bool.xor_false]
  unfold mulD
  dsimp only
  rw [e1, if_neg (fun h => by rcases h with h | h | h | h; exact na h; exact n1 h; omega; omega)]
  by_cases h : a % 9223372036854775808 = 9218868437227405312
  · rw [if_pos (.inl h)]
    have := neg_split ha
    omega
  · rw [if_neg (fun h' => by rcases h' with h' | h'; exact h h'; omega)]
    have p1 : partsM (4607182418800017408 % 9223372036854775808) = 2 ^ 52 := by unfold partsM; rw [if_neg (by omega)]
    have p2 : partsE (4607182418800017408 % 9223372036854775808) = -52 := by unfold partsE; rw [if_neg (by omega)]; omega
    have hE := partsE_low (a % 9223372036854775808)
    rw [p1, p2]
    refine rounded_self (K := 52) ha (by omega) (by omega) ?_
    unfold valD
    rw [show (partsE (a % 9223372036854775808) + -52 + 1074 + ((52 : Nat) : Int)).toNat = (partsE (a % 9223372036854775808) + 1074).toNat by omega, Nat.mul_right_comm]

theorem div_one_D {a : Nat} (ha : a < 18446744073709551616) (na : ¬ isNaND a = true) : divD a 4607182418800017408 = a := by
  have n1 : ¬ isNaND 4607182418800017408 = true := nan_not (by omega)
  have hn : ¬ 9218868437227405312 < a % 9223372036854775808 := fun h => na (decide_eq_true h)
  have e1 : (negD a ^^ negD 4607182418800017408) = negD a := by rw [show negD 4607182418800017408 = false by unfold negD; exact decide_eq_false (by omega), Bool.xor_false]
  have sa := neg_split ha
  unfold divD
  dsimp only
  rw [e1, if_neg (fun h => by rcases h with h | h | h | h; exact na h; exact n1 h; omega; omega)]
  by_cases h : a % 9223372036854775808 = 9218868437227405312
  · rw [if_pos (.inl h)]
    omega
  rw [if_neg (fun h' => by rcases h' with h' | h'; exact h h'; omega)]
  by_cases h0 : a % 9223372036854775808 = 0
  · rw [if_pos (.inr h0)]
    omega
  rw [if_neg (fun h' => by rcases h' with h' | h'; omega; exact h0 h')]
  have p1 : partsM (4607182418800017408 % 9223372036854775808) = 2 ^ 52 := by unfold partsM; rw [if_neg (by omega)]
  have p2 : partsE (4607182418800017408 % 9223372036854775808) = -52 := by unfold partsE; rw [if_neg (by omega)]; omega
  have hE := partsE_low (a % 9223372036854775808)
  rw [p1, p2, show 2 ^ 128 = 2 ^ 76 * 2 ^ 52 from pow_add' 76 52, ← Nat.mul_assoc, Nat.mul_div_cancel _ (Nat.two_pow_pos 52), Nat.mul_mod_left]
  refine rounded_self (K := 76) ha (by omega) (by omega) ?_
  unfold valD
  rw [show (partsE (a % 9223372036854775808) - -52 - 128 + 1074 + ((76 : Nat) : Int)).toNat = (partsE (a % 9223372036854775808) + 1074).toNat by omega, Nat.mul_right_comm]

theorem add_zero_D {a : Nat} (ha : a < 18446744073709551616) (na : ¬ isNaND a = true) : addD a 9223372036854775808 = a := by
  have n1 : ¬ isNaND 9223372036854775808 = true := nan_not (by omega)
  have hn : ¬ 9218868437227405312 < a % 9223372036854775808 := fun h => na (decide_eq_true h)
  unfold addD
  dsimp only
  rw [if_neg (fun h => by rcases h with h | h | h; exact na h; exact n1 h; omega)]
  by_cases h : a % 9223372036854775808 = 9218868437227405312
  · rw [if_pos h]
  rw [if_neg h, if_neg (by omega)]
  by_cases h0 : a % 9223372036854775808 = 0
  · rw [if_pos ⟨h0, by omega⟩]
    by_cases e : a = 9223372036854775808
    · rw [if_pos e]
    · rw [if_neg e]; omega
  rw [if_neg (fun h' => h0 h'.1)]
  have p1 : partsM (9223372036854775808 % 9223372036854775808) = 0 := by unfold partsM; rw [if_pos (by omega)]
  have p2 : partsE (9223372036854775808 % 9223372036854775808) = -1074 := by unfold partsE; rw [if_pos (by omega)]
  have hE := partsE_low (a % 9223372036854775808)
  rw [p1, p2, show min (partsE (a % 9223372036854775808)) (-1074) = -1074 by omega, Nat.zero_mul]
  have hx : partsM (a % 9223372036854775808) * 2 ^ (partsE (a % 9223372036854775808) - -1074).toNat = valD (a % 9223372036854775808) := by unfold valD; congr 2
  rw [hx]
  have hpos : 0 < valD (a % 9223372036854775808) := by have := val_lt (show 0 < a % 9223372036854775808 by omega); omega
  have self : roundedD (negD a) (valD (a % 9223372036854775808)) (-1074) false = a := rounded_self (K := 0) ha (by omega) (by omega) rfl
  generalize valD (a % 9223372036854775808) = v at *
  rw [Nat.add_zero, Nat.sub_zero, self]
  have hv : ¬ v = 0 := by omega
  rw [if_neg hv, if_pos hpos]
  split <;> rfl
end Lf

/-
  The text of a finite float.
-/
namespace Lf
open Go Go.Proofs

section
variable {h : Hp}

theorem formatFloat_ok {w : Nat} {Q : ByteArray → Hp → Prop} (hw64 : w < 18446744073709551616) (w0 : 0 < w % 9223372036854775808) (w1 : w % 9223372036854775808 < 9218868437227405312)
    (d0 : (shortP (mS (w % 9223372036854775808)) (eS (w % 9223372036854775808))).1 ≠ 0) (d1 : (shortP (mS (w % 9223372036854775808)) (eS (w % 9223372036854775808))).1 < 18446744073709551616)
    (t1 : Pow10 h) (t2 : Small10 h) (hz : ∀ zs, Shown (w % 9223372036854775808) (negD w) zs → ∀ z ∈ zs, z < 256) (hk : ∀ h' zs, h ≤ h' → Shown (w % 9223372036854775808) (negD w) zs → Q (strN zs) h') : strconv_FormatFloat_w Tryz.prog w (101 : Int) (-1 : Int) (64 : Int) Q h := by
  unfold strconv_FormatFloat_w
  refine internal_strconv_FormatFloat_call ?_
  unfold internal_strconv_FormatFloat_w
  refine iteF (by decide) (iteT (by decide) ⟨by decide, fun b t hb => ?_⟩)
  have hle := set_new (o := .cells (zerosL [Value.int .u8 (0 : Int)] (max2I (IntKind.wrap .i64 ((-1 : Int) + 4)) 24).toNat).toArray t (0, 0)) hb
  have own : ON h (h.set b (.cells (zerosL [Value.int .u8 (0 : Int)] (max2I (IntKind.wrap .i64 ((-1 : Int) + 4)) 24).toNat).toArray t (0, 0))) ⟨some ⟨b, 0, none⟩, (0 : Int).toNat, (max2I (IntKind.wrap .i64 ((-1 : Int) + 4)) 24).toNat⟩ [] :=
    ⟨rfl, Nat.zero_le _, .inr ⟨b, _, t, rfl, set_self, (by show (zerosL [Value.int .u8 (0 : Int)] (max2I (IntKind.wrap .i64 ((-1 : Int) + 4)) 24).toNat).length = (max2I (IntKind.wrap .i64 ((-1 : Int) + 4)) 24).toNat * 1; decide), rfl, hb⟩⟩
  refine internal_strconv_ftoa64_call (ftoa_ok hle own rfl (by decide) hw64 w0 w1 d0 d1 t1 t2 fun r h' zs hl hs o => ?_)
  exact ⟨strN zs, semIs_textN (e := 5) (tb_ok.und _ ty83 rfl) (tb_ok.und _ ty5 rfl) (tb_ok.und _ ty9 rfl) (Own.rw (by simpa using o) eN_len) (hz zs hs), hk h' zs hl hs⟩

/-- The text ahead of the exponent. -/
def headL (neg : Bool) (a v : Nat) : List Nat := match digL a v with
  | [] => []
  | c :: ds => (if neg then [45] else []) ++ [c] ++ (if ds = [] then [] else 46 :: ds)

theorem sciT_head {neg : Bool} {a v : Nat} {e : Int} (ha : 0 < a) : sciT neg a v e = headL neg a v ++ 101 :: (if e < 0 then 45 else 43) :: expL e.natAbs := by
  unfold sciT headL
  have hl := digL_len a v
  cases hq : digL a v with
  | nil => rw [hq] at hl; simp at hl; omega
  | cons c ds =>
    show (if neg then [45] else []) ++ [c] ++ (if ds = [] then [] else 46 :: ds) ++ [101, if e < 0 then 45 else 43] ++ expL e.natAbs = _
    simp

theorem headL_in {neg : Bool} {a v : Nat} : ∀ x ∈ headL neg a v, x < 58 := by
  unfold headL
  have hd := digL_in a v
  cases hq : digL a v with
  | nil => intro x hx; cases hx
  | cons c ds =>
    rw [hq] at hd
    intro x hx
    have hx : x ∈ (if neg then [45] else []) ++ [c] ++ (if ds = [] then [] else 46 :: ds) := hx
    rw [List.mem_append, List.mem_append] at hx
    rcases hx with (hx | hx) | hx
    · cases neg <;> simp at hx; omega
    · have := hd c (List.mem_cons_self ..); simp at hx; omega
    · split at hx
      · cases hx
      · rcases List.mem_cons.1 hx with hx | hx
        · omega
        · have := hd x (List.mem_cons_of_mem _ hx); omega

theorem headL_len {neg : Bool} {a v : Nat} (ha : 0 < a) : headL neg a v ≠ [] ∧ (headL neg a v).length ≤ a + 2 := by
  unfold headL
  have hl := digL_len a v
  cases hq : digL a v with
  | nil => rw [hq] at hl; simp at hl; omega
  | cons c ds =>
    rw [hq, List.length_cons] at hl
    refine ⟨by simp, ?_⟩
    show ((if neg then [45] else []) ++ [c] ++ (if ds = [] then [] else 46 :: ds)).length ≤ _
    rw [List.length_append, List.length_append]
    have : (if neg then [45] else [] : List Nat).length ≤ 1 := by split <;> simp
    have : (if ds = [] then [] else 46 :: ds).length ≤ ds.length + 1 := by split <;> simp
    simp only [List.length_singleton]
    omega

theorem expL_in {n : Nat} (hn : n < 1000) : (∀ x ∈ expL n, 48 ≤ x ∧ x < 58) ∧ 1 ≤ (expL n).length ∧ (expL n).length ≤ 3 ∧ numV (expL n) = n := by
  unfold expL
  split
  · exact ⟨fun x hx => by simp at hx; omega, by simp, by simp, by simp [numV]⟩
  · split
    · exact ⟨fun x hx => by simp at hx; omega, by simp, by simp, by simp [numV]; omega⟩
    · exact ⟨fun x hx => by simp at hx; omega, by simp, by simp, by simp [numV]; omega⟩

/-- What is printed of a finite float above 0. -/
def PrintedF (r : Nat) (neg : Bool) (out : List Nat) : Prop := ∃ (n k v : Nat) (zs : List Nat), (shortP (mS r) (eS r)).1 = v * 10 ^ k ∧ v % 10 ≠ 0 ∧ k < n ∧ n ≤ 20 ∧ 10 ^ (n - 1) ≤ (shortP (mS r) (eS r)).1 ∧ (shortP (mS r) (eS r)).1 < 10 ^ n ∧
  NatTxt ((n : Int) + (shortP (mS r) (eS r)).2 - 1).natAbs zs ∧ out = headL neg (n - k) v ++ 101 :: (signL ((n : Int) + (shortP (mS r) (eS r)).2 - 1) ++ zs)

theorem short_exp {m : Nat} {e : Int} (h0 : -1137 ≤ e) (h1 : e ≤ 974) : -400 ≤ (shortP m e).2 ∧ (shortP m e).2 ≤ 400 := by
  obtain ⟨p0, p1, -, -⟩ := p_in (m := m) h0 h1
  unfold shortP
  split
  · show -400 ≤ -(pP _ _ - 1) ∧ -(pP _ _ - 1) ≤ 400; omega
  · split
    · show -400 ≤ -(pP _ _) ∧ -(pP _ _) ≤ 400; omega
    · show -400 ≤ -(pP _ _) ∧ -(pP _ _) ≤ 400; omega

theorem rz_bound {w : Nat} (w1 : w % 9223372036854775808 < 9218868437227405312) : rzD w ≤ 9218868437227405311 ∧ -9218868437227405311 ≤ rzD w := by
  unfold rzD
  split <;> omega

theorem cmp_ngt {x y : Int} (hxy : x ≤ y) : compare x y ≠ .gt := fun e => by
  rw [Int.compare_eq_gt] at e
  omega
theorem cmp_nlt {x y : Int} (hxy : y ≤ x) : compare x y ≠ .lt := fun e => by
  rw [Int.compare_eq_lt] at e
  omega

theorem print_ok {b : Int} {w : Nat} {Q : ByteArray → Hp → Prop} (hw : floatP b = w) (w0 : 0 < w % 9223372036854775808) (w1 : w % 9223372036854775808 < 9218868437227405312)
    (d0 : (shortP (mS (w % 9223372036854775808)) (eS (w % 9223372036854775808))).1 ≠ 0) (d1 : (shortP (mS (w % 9223372036854775808)) (eS (w % 9223372036854775808))).1 < 18446744073709551616)
    (t1 : Pow10 h) (t2 : Small10 h) (hk : ∀ h' out, h ≤ h' → PrintedF (w % 9223372036854775808) (negD w) out → Q (strN out) h') : flt_Print_w Tryz.prog b Q h := by
  have hw64 : w < 18446744073709551616 := by rw [← hw]; exact floatP_lt
  obtain ⟨-, -, e0, e1, -⟩ := mS_in w0 w1
  have hex := short_exp (m := mS (w % 9223372036854775808)) e0 e1
  have nn : ¬ isNaND w = true := nan_not (by omega)
  unfold flt_Print_w
  refine flt_float_call (float_ok ?_)
  rw [hw]
  refine semV_pure (sh := shBool) (v := isNaN w) rfl (iteF (by rw [isNaN_eq hw64]; exact nn) ?_)
  have bound := rz_bound w1
  refine semV_pure (sh := shBool) (v := f64.format.order w 9218868437227405311 == some .gt) rfl (iteF (fun hh => ?_) ?_)
  · have o := order_eq (a := w) (b := 9218868437227405311) hw64 (by omega) (by omega) (by omega)
    have hh : (dbl.order w 9218868437227405311 == some .gt) = true := hh
    rw [o] at hh
    have hh := Option.some.inj (eq_of_beq hh)
    exact cmp_ngt (by have : rzD 9218868437227405311 = 9218868437227405311 := by unfold rzD negD; rw [decide_eq_false (by omega)]; decide
                      omega) hh
  refine semV_pure (sh := shBool) (v := f64.format.order w 18442240474082181119 == some .lt) rfl (iteF (fun hh => ?_) ?_)
  · have o := order_eq (a := w) (b := 18442240474082181119) hw64 (by omega) (by omega) (by omega)
    have hh : (dbl.order w 18442240474082181119 == some .lt) = true := hh
    rw [o] at hh
    have hh := Option.some.inj (eq_of_beq hh)
    exact cmp_nlt (by have : rzD 18442240474082181119 = -9218868437227405311 := by unfold rzD negD; rw [decide_eq_true (by omega)]; decide
                      omega) hh
  refine strconv_FormatFloat_call (formatFloat_ok hw64 w0 w1 d0 d1 t1 t2 ?_ fun h1 zs l1 hs => ?_)
  · rintro zs ⟨n, k, v, a1, a2, a3, a4, a5, a6, rfl⟩
    exact sciT_in (by omega)
  obtain ⟨n, k, v, a1, a2, a3, a4, a5, a6, rfl⟩ := hs
  have ha : 0 < n - k := by omega
  rw [sciT_head ha]
  obtain ⟨hl0, hl1⟩ := headL_len (neg := negD w) (v := v) ha
  have hx := expL_in (n := ((n : Int) + (shortP (mS (w % 9223372036854775808)) (eS (w % 9223372036854775808))).2 - 1).natAbs) (by omega)
  have fin := fun zs (hz : NatTxt ((n : Int) + (shortP (mS (w % 9223372036854775808)) (eS (w % 9223372036854775808))).2 - 1).natAbs zs) => (⟨n, k, v, zs, a1, a2, a3, a4, a5, a6, hz, rfl⟩ : PrintedF (w % 9223372036854775808) (negD w) _)
  have hin := headL_in (neg := negD w) (a := n - k) (v := v)
  generalize headL (negD w) (n - k) v = A at *
  generalize hE : (n : Int) + (shortP (mS (w % 9223372036854775808)) (eS (w % 9223372036854775808))).2 - 1 = E at *
  refine strings_Cut_call (cut_ok (c := 101) (by decide) (fun x hx' => by have := hin x hx'; omega) hl0 (by rw [List.length_append, List.length_cons, List.length_cons]; omega) ?_)
  refine strconv_Atoi_call (atoi_ok (by split <;> simp) hx.1 hx.2.1 (by omega) fun h2 er l2 _ => ?_)
  have eE : (if (if E < 0 then 45 else 43) = 45 then -(numV (expL E.natAbs) : Int) else numV (expL E.natAbs)) = E := by
    rw [hx.2.2.2]
    by_cases c : E < 0
    · rw [if_pos c, if_pos rfl]; omega
    · rw [if_neg c, if_neg (by decide)]; omega
  rw [eE, strN_size]
  refine ⟨by omega, strconv_Itoa_call (itoa_ok (by omega) (by omega) (ldIs_mono (Hp.le_trans l1 l2) t2) fun zs h3 l3 hz => ?_)⟩
  have hzl : zs.length ≤ 20 := by
    obtain ⟨q, e1, e2, e3, e4⟩ := hz
    rw [e1, digL_len]
    rcases e4 with e4 | e4
    · omega
    · refine Classical.byContradiction fun hq => ?_
      have : 10 ^ 20 ≤ 10 ^ (q - 1) := Nat.pow_le_pow_right (by decide) (by omega)
      omega
  have hres := hk h3 _ (Hp.le_trans l1 (Hp.le_trans l2 l3)) (fin zs hz)
  refine ⟨?_, ?_⟩
  · rw [strN_size]
    show (List.append (strN A).data.toList [101]).toArray.size + _ ≤ _
    rw [strN_data, List.length_append]
    simp
    have : (signL E).length ≤ 1 := by unfold signL; split <;> simp
    omega
  · have : strN (A ++ 101 :: (signL E ++ zs)) = ⟨⟨List.append (List.append (strN A).data.toList [101]) (strN (signL E ++ zs)).data.toList⟩⟩ := by
      rw [strN_data, strN_data]
      simp [strN]
    rw [this] at hres
    exact hres
end
end Lf

/-
  Texts that are read as floats: digits, a point, an exponent.
-/
namespace Lf
open Go Go.Proofs

theorem effF {α : Type} {b : Bool} {A : (α → Hp → Prop) → Hp → Prop} {K : α → Hp → Prop} {h : Hp} (hb : b = false) (x : α) (hk : K x h) : EffC (some b) A K h := ⟨fun e => (by rw [hb] at e; cases e), fun _ => ⟨x, hk⟩⟩

/-- Digits with a point behind the first one. -/
def manL (c : Nat) (ds : List Nat) : List Nat := c :: (if ds = [] then [] else 46 :: ds)
/-- A float's text. -/
def fltL (neg : Bool) (c : Nat) (ds : List Nat) (eneg : Bool) (xs : List Nat) : List Nat := (if neg then [45] else []) ++ (manL c ds ++ 101 :: ((if eneg then [45] else []) ++ xs))

def sgnN (b : Bool) : Nat := if b then 1 else 0

theorem sgn_len (b : Bool) : (if b then [45] else [] : List Nat).length = sgnN b := by cases b <;> rfl

theorem manL_len (c : Nat) (ds : List Nat) : (manL c ds).length = if ds = [] then 1 else ds.length + 2 := by
  unfold manL
  split <;> simp

section
variable {neg eneg : Bool} {c : Nat} {ds xs : List Nat}

theorem fltL_len : (fltL neg c ds eneg xs).length = sgnN neg + (manL c ds).length + 1 + sgnN eneg + xs.length := by
  unfold fltL
  rw [List.length_append, List.length_append, List.length_cons, List.length_append, sgn_len, sgn_len]
  omega

theorem fltL_man {j : Nat} (hj : j < (manL c ds).length) : (fltL neg c ds eneg xs)[sgnN neg + j]? = (manL c ds)[j]? := by
  unfold fltL
  rw [List.getElem?_append_right (by rw [sgn_len]; omega), sgn_len, show sgnN neg + j - sgnN neg = j by omega, List.getElem?_append_left hj]

theorem fltL_e : (fltL neg c ds eneg xs)[sgnN neg + (manL c ds).length]? = some 101 := by
  unfold fltL
  rw [List.getElem?_append_right (by rw [sgn_len]; omega), sgn_len, show sgnN neg + (manL c ds).length - sgnN neg = (manL c ds).length by omega, List.getElem?_append_right (Nat.le_refl _), Nat.sub_self]
  rfl

theorem fltL_x {j : Nat} (hj : j < xs.length) : (fltL neg c ds eneg xs)[sgnN neg + (manL c ds).length + 1 + sgnN eneg + j]? = xs[j]? := by
  unfold fltL
  rw [List.getElem?_append_right (by rw [sgn_len]; omega), sgn_len, List.getElem?_append_right (by omega), show sgnN neg + (manL c ds).length + 1 + sgnN eneg + j - sgnN neg - (manL c ds).length = sgnN eneg + j + 1 by omega, List.getElem?_cons_succ,
    List.getElem?_append_right (by rw [sgn_len]; omega), sgn_len, show sgnN eneg + j - sgnN eneg = j by omega]

/-- How many digits are read. -/
def dgN (j : Nat) : Nat := if j ≤ 1 then j else j - 1

theorem numV_cons_le {zs : List Nat} (hz : ∀ z ∈ zs, 48 ≤ z ∧ z < 58) (hl : zs.length ≤ 18) (k : Nat) : numV (zs.take k) < 1000000000000000000 := by
  have h1 := numV_lt (zs := zs.take k) fun z hz' => hz z (List.mem_of_mem_take hz')
  have h2 : 10 ^ (zs.take k).length ≤ 10 ^ 18 := Nat.pow_le_pow_right (by decide) (by rw [List.length_take]; omega)
  omega

theorem manL_at {j : Nat} (hj : j < (manL c ds).length) : (j = 1 ∧ ds ≠ [] ∧ (manL c ds)[j]? = some 46) ∨ (j ≠ 1 ∧ ∃ z, (manL c ds)[j]? = some z ∧ (c :: ds)[dgN j]? = some z) := by
  rw [manL_len] at hj
  unfold manL dgN
  rcases (show j = 0 ∨ j = 1 ∨ 2 ≤ j by omega) with rfl | rfl | h2
  · exact .inr ⟨by decide, c, rfl, rfl⟩
  · left
    by_cases hd : ds = []
    · rw [if_pos hd] at hj; omega
    · exact ⟨rfl, hd, by rw [if_neg hd]; rfl⟩
  · right
    by_cases hd : ds = []
    · rw [if_pos hd] at hj; omega
    · rw [if_neg hd] at hj
      obtain ⟨i, rfl⟩ : ∃ i, j = i + 2 := ⟨j - 2, by omega⟩
      have hi : i < ds.length := by omega
      refine ⟨by omega, ds[i], ?_, ?_⟩
      · rw [if_neg hd, List.getElem?_cons_succ, List.getElem?_cons_succ, List.getElem?_eq_getElem hi]
      · rw [if_neg (by omega), show i + 2 - 1 = i + 1 by omega, List.getElem?_cons_succ, List.getElem?_eq_getElem hi]

variable {h : Hp}

theorem lower_ok {x : Int} {Q : Int → Hp → Prop} (hq : Q (bitsI .or .u8 x 32) h) : internal_strconv_lower_w Tryz.prog x Q h := by
  unfold internal_strconv_lower_w
  exact hq

theorem readFloat_ok {Q : Int → Int → Bool → Bool → Bool → Int → Bool → Hp → Prop} (hc : 49 ≤ c ∧ c < 58) (hds : ∀ d ∈ ds, 48 ≤ d ∧ d < 58) (hl : ds.length ≤ 17) (hxs : ∀ x ∈ xs, 48 ≤ x ∧ x < 58) (x1 : 1 ≤ xs.length) (x2 : xs.length ≤ 4)
    (hq : Q (numV (c :: ds) : Int) ((if eneg then -(numV xs : Int) else numV xs) - (ds.length : Int)) neg false false ((fltL neg c ds eneg xs).length : Int) true h) : internal_strconv_readFloat_w Tryz.prog (strN (fltL neg c ds eneg xs)) Q h := by
  have hcd : ∀ z ∈ c :: ds, 48 ≤ z ∧ z < 58 := fun z hz => by
    rcases List.mem_cons.1 hz with rfl | hz
    · omega
    · exact hds z hz
  have hcl : (c :: ds).length ≤ 18 := by rw [List.length_cons]; omega
  have hm := manL_len c ds
  have hm2 : 1 ≤ (manL c ds).length ∧ (manL c ds).length ≤ 19 := by rw [hm]; split <;> omega
  have hL := fltL_len (neg := neg) (c := c) (ds := ds) (eneg := eneg) (xs := xs)
  have hs0 : sgnN neg ≤ 1 := by unfold sgnN; split <;> omega
  have hs1 : sgnN eneg ≤ 1 := by unfold sgnN; split <;> omega
  have gM := @fltL_man neg eneg c ds xs
  have gE := @fltL_e neg eneg c ds xs
  have gX := @fltL_x neg eneg c ds xs
  have g0 : (fltL neg c ds eneg xs)[0]? = some (if neg then 45 else c) := by
    unfold fltL manL
    cases neg <;> rfl
  have gS : (fltL neg c ds eneg xs)[sgnN neg + (manL c ds).length + 1]? = if eneg then some 45 else xs[0]? := by
    cases eneg with
    | false => have := gX (j := 0) (by omega); simpa [sgnN] using this
    | true =>
      unfold fltL
      rw [List.getElem?_append_right (by rw [sgn_len]; omega), sgn_len, List.getElem?_append_right (by omega), show sgnN neg + (manL c ds).length + 1 - sgnN neg - (manL c ds).length = 1 by omega]
      rfl
  generalize hT : fltL neg c ds eneg xs = T at *
  have chr : ∀ {i x : Nat}, T[i]? = some x → x < 256 → UInt8.toNat (List.getD (strN T).data.toList (Int.toNat ((i : Nat) : Int)) 0) = x := fun {i x} e hx => by rw [Int.toNat_natCast]; exact strN_get e hx
  unfold internal_strconv_readFloat_w
  rw [strN_size]
  refine iteF (fun hh => by have := of_decide_eq_true hh; omega) ⟨⟨by decide, by omega⟩, ?_⟩
  have c0 := strN_get g0 (by split <;> omega)
  rw [c0]
  refine JoinW2.intro (fun n i k => k = h ∧ neg = n ∧ i = ((sgnN neg : Nat) : Int)) ?_ ?_
  · cases neg with
    | true => exact iteF (by show ¬ (((45 : Nat) : Int) == 43) = true; decide) (iteT (by show (((45 : Nat) : Int) == 45) = true; decide) ⟨rfl, rfl, rfl⟩)
    | false => exact iteF (fun hh => by have : ((c : Nat) : Int) = 43 := beq_iff_eq.1 hh; omega) (iteF (fun hh => by have : ((c : Nat) : Int) = 45 := beq_iff_eq.1 hh; omega) ⟨rfl, rfl, rfl⟩)
  rintro _ _ h ⟨rfl, rfl, rfl⟩
  have cM0 : T[sgnN neg]? = some c := by have := gM (j := 0) (by omega); rw [Nat.add_zero] at this; rw [this]; rfl
  refine JoinW5.intro (fun hx i b m e k => k = h ∧ hx = false ∧ i = ((sgnN neg : Nat) : Int) ∧ b = 10 ∧ m = 19 ∧ e = 101) ?_ ?_
  · rw [chr cM0 (by omega)]
    refine ⟨fun _ => ⟨by omega, by omega⟩, letW ?_⟩
    have hy : ((decide (IntKind.wrap .i64 (((sgnN neg : Nat) : Int) + 2) < (T.length : Int))) && (((c : Nat) : Int) == 48)) = false := by
      rw [Bool.and_eq_false_iff]
      right
      rw [Bool.eq_false_iff]
      intro hh
      have : ((c : Nat) : Int) = 48 := beq_iff_eq.1 hh
      omega
    rw [hy]
    refine ⟨fun e => (by cases e), effF rfl (0 : Int) (letW (iteF (by decide) ⟨rfl, rfl, rfl, rfl, rfl, rfl⟩))⟩
  rintro _ _ _ _ _ h ⟨rfl, rfl, rfl, rfl, rfl, rfl⟩
  -- the digits
  refine JoinW9.intro (fun m tr i us sd sg nd ndm dp k => k = h ∧ m = (numV (c :: ds) : Int) ∧ tr = false ∧ i = ((sgnN neg + (manL c ds).length : Nat) : Int) ∧ us = false ∧ sd = decide (ds ≠ []) ∧ sg = true ∧ nd = ((ds.length + 1 : Nat) : Int) ∧ ndm = ((ds.length + 1 : Nat) : Int) ∧ dp = if ds = [] then 0 else 1) ?_ ?_
  · refine LoopW9.intro (fun m tr i us sd sg nd ndm dp k => k = h ∧ ∃ j : Nat, j ≤ (manL c ds).length ∧ m = (numV ((c :: ds).take (dgN j)) : Int) ∧ tr = false ∧ i = ((sgnN neg + j : Nat) : Int) ∧ us = false ∧ sd = decide (2 ≤ j) ∧ sg = decide (1 ≤ j) ∧ nd = ((dgN j : Nat) : Int) ∧ ndm = ((dgN j : Nat) : Int) ∧ dp = if 2 ≤ j then 1 else 0)
      (fun _ _ i _ _ _ _ _ _ _ => (T.length - i).toNat) ⟨rfl, 0, by omega, by simp [dgN, numV], rfl, by simp, rfl, by decide, by decide, rfl, rfl, rfl⟩ ?_
    rintro _ _ _ _ _ _ _ _ _ h ⟨rfl, j, hj, rfl, rfl, rfl, rfl, rfl, rfl, rfl, rfl, rfl⟩
    have nw : ∀ {n : Nat}, n < 1000 → IntKind.wrap .i64 ((n : Int) + 1) = ((n + 1 : Nat) : Int) := fun {n} hn => by rw [wrap64 (by omega) (by omega)]; omega
    refine iteT (decide_eq_true (by omega)) ?_
    by_cases hjm : j < (manL c ds).length
    · have gj := gM hjm
      rcases manL_at hjm with ⟨rfl, hd, ha⟩ | ⟨hj1, z, ha, hz⟩
      · -- the point
        rw [ha] at gj
        rw [chr gj (by decide)]
        have hd1 : 2 ≤ (manL c ds).length := by rw [hm, if_neg hd]; omega
        refine JoinW8.direct ⟨⟨by omega, by omega⟩, iteF (by decide) (iteT (by decide) (iteF (by decide) ⟨⟨rfl, 2, hd1, rfl, rfl, ?_, rfl, rfl, rfl, rfl, rfl, rfl⟩, ?_⟩))⟩
        · exact nw (by omega)
        · rw [nw (by omega)]; omega
      · -- a digit
        rw [ha] at gj
        have hz2 := hcd z (List.mem_of_getElem? hz)
        rw [chr gj (by omega)]
        have hdg : dgN j < (c :: ds).length := (List.getElem?_eq_some_iff.1 hz).1
        have hdg1 : dgN (j + 1) = dgN j + 1 := by unfold dgN; split <;> split <;> omega
        have hsn : numV ((c :: ds).take (dgN (j + 1))) = 10 * numV ((c :: ds).take (dgN j)) + (z - 48) := by rw [hdg1, List.take_add_one, hz]; exact numV_snoc _ _
        have hb1 := numV_cons_le hcd hcl (dgN j)
        have hz0 : j = 0 → z = c := fun e => by subst e; exact (Option.some.inj hz).symm
        refine JoinW8.direct ⟨⟨by omega, by omega⟩, iteF (fun hh => by have : ((z : Nat) : Int) = 95 := beq_iff_eq.1 (eq_of_beq hh).symm; omega) (iteF (fun hh => by have : ((z : Nat) : Int) = 46 := beq_iff_eq.1 (eq_of_beq hh).symm; omega) (letW (iteT ?_ (letW (iteF (fun hh => ?_) (iteT (decide_eq_true (by omega)) ?_))))))⟩
        · rw [decide_eq_true (by omega), decide_eq_true (by omega)]; rfl
        · rw [Bool.and_eq_true] at hh
          have e1 : ((z : Nat) : Int) = 48 := beq_iff_eq.1 hh.1
          have e2 : ((dgN j : Nat) : Int) = 0 := beq_iff_eq.1 hh.2
          have : j = 0 := by unfold dgN at e2; split at e2 <;> omega
          have := hz0 this
          omega
        · have ew : IntKind.wrap .u64 ((IntKind.wrap .u64 ((numV ((c :: ds).take (dgN j)) : Int) * 10)) + (IntKind.wrap .u64 (IntKind.wrap .u8 (((z : Nat) : Int) - 48)))) = (numV ((c :: ds).take (dgN (j + 1))) : Int) := by
            rw [hsn, byte8, wrapU64, wrapU64, wrapU64]
            omega
          rw [ew, nw (n := dgN j) (by omega), nw (n := sgnN neg + j) (by omega)]
          refine ⟨⟨rfl, j + 1, by omega, rfl, rfl, by omega, rfl, ?_, ?_, by rw [hdg1], by rw [hdg1], ?_⟩, by omega⟩
          · exact decide_eq_decide.2 (by omega)
          · rw [decide_eq_true (by omega)]
          · by_cases c2 : 2 ≤ j
            · rw [if_pos c2, if_pos (by omega)]
            · rw [if_neg c2, if_neg (by omega)]
    · -- behind them
      have hje : j = (manL c ds).length := by omega
      rw [← hje] at gE
      rw [chr gE (by decide)]
      refine JoinW8.direct ⟨⟨by omega, by omega⟩, iteF (by decide) (iteF (by decide) (letW (iteF (by decide) (effF (by decide) (0 : Int) (letW (effF (by decide) (0 : Int) (letW (iteF (by decide) ?_))))))))⟩
      have hdj : dgN j = ds.length + 1 := by
        rw [hje, hm]
        unfold dgN
        by_cases hd : ds = []
        · rw [if_pos hd, hd]; rfl
        · have := List.length_pos_iff.2 hd
          rw [if_neg hd, if_neg (by omega)]
          omega
      have hall : (c :: ds).take (dgN j) = c :: ds := List.take_of_length_le (by rw [hdj]; exact Nat.le_refl _)
      refine ⟨rfl, by rw [hall], rfl, by rw [hje], rfl, ?_, by rw [decide_eq_true (by omega)], by rw [hdj], by rw [hdj], ?_⟩
      · by_cases hd : ds = []
        · rw [hje, hm, if_pos hd, decide_eq_false (by omega), decide_eq_false (fun h => h hd)]
        · rw [hje, hm, if_neg hd, decide_eq_true (by omega), decide_eq_true hd]
      · rw [hje, hm]
        by_cases hd : ds = []
        · rw [if_pos hd, if_pos hd, if_neg (by omega)]
        · rw [if_neg hd, if_neg hd, if_pos (by omega)]
  rintro _ _ _ _ _ _ _ _ _ h ⟨rfl, rfl, rfl, rfl, rfl, rfl, rfl, rfl, rfl, rfl⟩
  refine iteF (by decide) ?_
  refine JoinW1.intro (fun dp k => k = h ∧ dp = 1) ?_ ?_
  · by_cases hd : ds = []
    · subst hd
      exact iteT (by decide) ⟨rfl, rfl⟩
    · refine iteF (by rw [decide_eq_true hd]; decide) ⟨rfl, by rw [if_neg hd]⟩
  rintro _ h ⟨rfl, rfl⟩
  refine JoinW2.direct (iteF (by decide) ?_)
  -- the exponent
  have hxb : ∀ k, numV (xs.take k) < 10000 := fun k => by
    have h1 := numV_lt (zs := xs.take k) fun z hz' => hxs z (List.mem_of_mem_take hz')
    have h2 : 10 ^ (xs.take k).length ≤ 10 ^ 4 := Nat.pow_le_pow_right (by decide) (by rw [List.length_take]; omega)
    omega
  have hxb' : numV xs < 10000 := by have := hxb xs.length; rw [List.take_of_length_le (Nat.le_refl _)] at this; exact this
  refine JoinW3.intro (fun i us dp k => k = h ∧ i = (T.length : Int) ∧ us = false ∧ dp = 1 + if eneg then -(numV xs : Int) else numV xs) ?_ ?_
  · rw [chr gE (by decide), decide_eq_true (show ((sgnN neg + (manL c ds).length : Nat) : Int) < (T.length : Int) by omega)]
    refine ⟨fun _ => ⟨by omega, by omega⟩, effT (internal_strconv_lower_call (lower_ok (letW (iteT (by decide) ?_))))⟩
    have ei : IntKind.wrap .i64 (((sgnN neg + (manL c ds).length : Nat) : Int) + 1) = ((sgnN neg + (manL c ds).length + 1 : Nat) : Int) := by rw [wrap64 (by omega) (by omega)]; omega
    rw [ei]
    refine iteF (fun hh => by have := of_decide_eq_true hh; omega) ⟨⟨by omega, by omega⟩, ?_⟩
    obtain ⟨y, gy, hy⟩ : ∃ y, xs[0]? = some y ∧ 48 ≤ y ∧ y < 58 := ⟨xs[0], List.getElem?_eq_getElem (by omega), hxs _ (List.getElem_mem _)⟩
    refine JoinW2.intro (fun i e k => k = h ∧ i = ((sgnN neg + (manL c ds).length + 1 + sgnN eneg : Nat) : Int) ∧ e = if eneg then -1 else 1) ?_ ?_
    · cases eneg with
      | true =>
        rw [chr (x := 45) gS (by decide)]
        refine iteF (by decide) (iteT (by decide) ⟨rfl, ?_, rfl⟩)
        rw [wrap64 (by omega) (by omega)]
        show _ = ((_ + 1 : Nat) : Int)
        omega
      | false =>
        rw [chr (x := y) (by rw [gS]; exact gy) (by omega)]
        exact iteF (fun hh => by have : ((y : Nat) : Int) = 43 := beq_iff_eq.1 hh; omega) (iteF (fun hh => by have : ((y : Nat) : Int) = 45 := beq_iff_eq.1 hh; omega) ⟨rfl, rfl, rfl⟩)
    rintro _ _ h ⟨rfl, rfl, rfl⟩
    have gx0 := gX (j := 0) (by omega)
    rw [Nat.add_zero, gy] at gx0
    rw [chr gx0 (by omega)]
    have n1 : ¬ ((sgnN neg + (manL c ds).length + 1 + sgnN eneg : Nat) : Int) ≥ (T.length : Int) := by omega
    refine ⟨fun _ => ⟨by omega, by omega⟩, letW ⟨fun _ => ⟨by omega, by omega⟩, letW (iteF (fun hh => ?_) ?_)⟩⟩
    · rw [Bool.or_eq_true, Bool.or_eq_true] at hh
      rcases hh with (hh | hh) | hh
      · exact n1 (of_decide_eq_true hh)
      · have := of_decide_eq_true hh; omega
      · have := of_decide_eq_true hh; omega
    refine LoopW3.intro (fun i us e k => k = h ∧ ∃ j : Nat, j ≤ xs.length ∧ i = ((sgnN neg + (manL c ds).length + 1 + sgnN eneg + j : Nat) : Int) ∧ us = false ∧ e = (numV (xs.take j) : Int)) (fun i _ _ _ => (T.length - i).toNat) ⟨rfl, 0, by omega, rfl, rfl, by simp [numV]⟩ ?_
    rintro _ _ _ h ⟨rfl, j, hj, rfl, rfl, rfl⟩
    by_cases hlt : j < xs.length
    · have gj := gX hlt
      have gz : xs[j]? = some xs[j] := List.getElem?_eq_getElem hlt
      obtain ⟨z0, z1⟩ := hxs _ (List.getElem_mem hlt)
      rw [gz] at gj
      have hsn : numV (xs.take (j + 1)) = 10 * numV (xs.take j) + (xs[j] - 48) := by rw [List.take_add_one, gz]; exact numV_snoc _ _
      have hb1 := hxb j
      have hb2 := hxb (j + 1)
      rw [chr gj (by omega)]
      generalize xs[j] = z at *
      have e1 : ((decide ((48 : Int) ≤ ((z : Nat) : Int))) && (decide (((z : Nat) : Int) ≤ (57 : Int)))) = true := by rw [decide_eq_true (by omega), decide_eq_true (by omega)]; rfl
      have e2 : decide (((sgnN neg + (manL c ds).length + 1 + sgnN eneg + j : Nat) : Int) < (T.length : Int)) = true := decide_eq_true (by omega)
      refine ⟨fun _ => ⟨by omega, by omega⟩, fun _ => ⟨by omega, by omega⟩, letW ⟨fun _ => ⟨by omega, by omega⟩, letW (letW (iteT (by rw [e1, e2]; rfl) ?_))⟩⟩
      have e3 : decide ((numV (xs.take j) : Int) < (10000 : Int)) = true := decide_eq_true (by omega)
      rw [e3]
      refine JoinW2.direct ⟨⟨by omega, by omega⟩, iteF (fun hh => by have : ((z : Nat) : Int) = 95 := beq_iff_eq.1 hh; omega) (iteT rfl ⟨⟨by omega, by omega⟩, ?_⟩)⟩
      refine ⟨⟨rfl, j + 1, hlt, ?_, rfl, ?_⟩, ?_⟩
      · rw [wrap64 (by omega) (by omega)]; omega
      · rw [wrap64 (n := (numV (xs.take j) : Int) * 10) (by omega) (by omega), wrap64 (n := ((z : Nat) : Int)) (by omega) (by omega), wrap64 (n := (numV (xs.take j) : Int) * 10 + (z : Int)) (by omega) (by omega), wrap64 (by omega) (by omega), hsn]
        omega
      · rw [wrap64 (by omega) (by omega)]; omega
    · have hje : j = xs.length := by omega
      have e2 : decide (((sgnN neg + (manL c ds).length + 1 + sgnN eneg + j : Nat) : Int) < (T.length : Int)) = false := decide_eq_false (by omega)
      rw [e2]
      refine ⟨fun e => (by cases e), fun e => (by cases e), letW ⟨fun e => (by cases e), letW (letW (iteF (by rw [Bool.false_and]; decide) ⟨rfl, by omega, rfl, ?_⟩))⟩⟩
      rw [hje, List.take_of_length_le (Nat.le_refl _)]
      have key : ∀ x : Int, -10000 ≤ x → x ≤ 10000 → IntKind.wrap .i64 (1 + IntKind.wrap .i64 x) = 1 + x := fun x a b => by rw [wrap64 (n := x) (by omega) (by omega), wrap64 (by omega) (by omega)]
      cases eneg with
      | true =>
        refine (key ((numV xs : Int) * -1) (by omega) (by omega)).trans ?_
        show 1 + (numV xs : Int) * -1 = 1 + -(numV xs : Int)
        omega
      | false =>
        refine (key ((numV xs : Int) * 1) (by omega) (by omega)).trans ?_
        show 1 + (numV xs : Int) * 1 = 1 + (numV xs : Int)
        omega
  rintro _ _ _ h ⟨rfl, rfl, rfl, rfl⟩
  have hpos : 0 < numV (c :: ds) := by
    have : ∀ (zs : List Nat) (n : Nat), 0 < n → 0 < zs.foldl (fun n z => 10 * n + (z - 48)) n := fun zs => by
      induction zs with
      | nil => intro n hn; exact hn
      | cons z zs ih => intro n hn; exact ih (10 * n + (z - 48)) (by omega)
    exact this ds (10 * 0 + (c - 48)) (by omega)
  refine JoinW1.intro (fun e k => k = h ∧ e = (if eneg then -(numV xs : Int) else numV xs) - (ds.length : Int)) (iteT (by exact bne_iff_ne.2 (by omega)) ⟨rfl, ?_⟩) ?_
  · have key : ∀ x : Int, -10000 ≤ x → x ≤ 10000 → IntKind.wrap .i64 (1 + x - ((ds.length + 1 : Nat) : Int)) = x - (ds.length : Int) := fun x a b => by rw [wrap64 (by omega) (by omega)]; omega
    exact key _ (by cases eneg <;> simp <;> omega) (by cases eneg <;> simp <;> omega)
  rintro _ h ⟨rfl, rfl⟩
  refine ⟨fun e => (by cases e), effF rfl true (letW (iteF (by decide) hq))⟩
end
end Lf

/-
  Texts that are read as floats.
-/
namespace Lf
open Go Go.Proofs

def pow10F : List Nat := [4607182418800017408, 4621819117588971520, 4636737291354636288, 4652007308841189376, 4666723172467343360, 4681608360884174848, 4696837146684686336, 4711630319722168320, 4726483295884279808, 4741671816366391296, 4756540486875873280, 4771362005757984768, 4786511204640096256, 4801453603149578240, 4816244402031689728, 4831355200913801216, 4846369599423283200, 4861130398305394688, 4876203697187506176, 4891288408196988160, 4906019910204099648, 4921056587992461136, 4936209963552724370]

/-- What strconv's tables hold. -/
structure FEnv (h : Hp) : Prop where
  pow : Pow10 h
  small : Small10 h
  opt : LdIs h ⟨4, 0, none⟩ [.bool true]
  info : LdIs h ⟨6, 0, none⟩ [.int .u64 52]
  f10 : ∃ a c, LdIs h ⟨10, 0, none⟩ [.slice (some a) 23 c] ∧ LdIs h a (pow10F.map fun x => .float .f64 x)

theorem FEnv.mono {h h' : Hp} (e : FEnv h) (hl : h ≤ h') : FEnv h' := by
  obtain ⟨a, c, e1, e2⟩ := e.f10
  exact ⟨ldIs_mono hl e.pow, ldIs_mono hl e.small, ldIs_mono hl e.opt, ldIs_mono hl e.info, a, c, ldIs_mono hl e1, ldIs_mono hl e2⟩

section
variable {neg eneg : Bool} {c : Nat} {ds xs : List Nat} {h : Hp}

theorem prefix_ok {s p : ByteArray} {x y : Nat} {Q : Int → Hp → Prop} (hs : 1 ≤ s.size) (hp : 1 ≤ p.size) (hx : (s.data.toList.getD 0 0).toNat = x) (hy : (p.data.toList.getD 0 0).toNat = y) (hd : x < 65) (hne : x ≠ y) (hq : Q 0 h) : internal_strconv_commonPrefixLenIgnoreCase_w Tryz.prog s p Q h := by
  unfold internal_strconv_commonPrefixLenIgnoreCase_w
  refine LoopW1.intro (fun i k => i = 0 ∧ k = h) (fun _ _ => 0) ⟨rfl, rfl⟩ ?_
  rintro _ h ⟨rfl, rfl⟩
  have hm : (0 : Int) < min2I ((p.size : Nat) : Int) ((s.size : Nat) : Int) := by unfold min2I; split <;> omega
  rw [show Int.toNat 0 = 0 from rfl, hx, hy]
  refine iteT (decide_eq_true hm) ⟨⟨by decide, by omega⟩, JoinW1.direct (letW (iteF (fun hh => ?_) ⟨⟨by decide, by omega⟩, iteT (bne_iff_ne.2 (by omega)) hq⟩))⟩
  rw [Bool.and_eq_true] at hh
  have := of_decide_eq_true hh.1
  omega

theorem special_ok {Q : Nat → Int → Bool → Hp → Prop} (hc : 48 ≤ c ∧ c < 58) (hq : Q 0 0 false h) : internal_strconv_special_w Tryz.prog (strN (fltL neg c ds eneg xs)) Q h := by
  have hL := fltL_len (neg := neg) (c := c) (ds := ds) (eneg := eneg) (xs := xs)
  have hm := manL_len c ds
  have hm1 : 1 ≤ (manL c ds).length := by rw [hm]; split <;> omega
  have g0 : (fltL neg c ds eneg xs)[0]? = some (if neg then 45 else c) := by
    unfold fltL manL
    cases neg <;> rfl
  unfold internal_strconv_special_w
  rw [strN_get g0 (by split <;> omega), strN_size]
  refine iteF (fun hh => by have : ((fltL neg c ds eneg xs).length : Int) = 0 := beq_iff_eq.1 hh; omega) ⟨⟨by decide, by omega⟩, JoinW3.direct ?_⟩
  cases neg with
  | false =>
    have nc : ∀ n : Int, 58 ≤ n ∨ n < 48 → ¬ ((((if false = true then 45 else c : Nat) : Nat) : Int) == n) = true := fun n hn hh => by
      have : ((c : Nat) : Int) = n := beq_iff_eq.1 hh
      omega
    refine JoinW1.direct (iteF (nc 43 (by omega)) (iteF (nc 45 (by omega)) ?_))
    refine JoinW1.direct (iteF (nc 105 (by omega)) (iteF (nc 73 (by omega)) ?_))
    exact JoinW1.direct (iteF (nc 110 (by omega)) (iteF (nc 78 (by omega)) hq))
  | true =>
    refine JoinW1.direct (iteF (by show ¬ (((45 : Nat) : Int) == 43) = true; decide) (iteT (by show (((45 : Nat) : Int) == 45) = true; decide) ?_))
    refine JoinW1.direct ⟨⟨by decide, by omega⟩, iteT (by show (((45 : Nat) : Int) == 45) = true; decide) ⟨⟨by decide, by omega⟩, ?_⟩⟩
    have e : (strN (fltL true c ds eneg xs)).extract 1 (fltL true c ds eneg xs).length = strN (fltL false c ds eneg xs) := by
      rw [strN_extract _ _ _ (Nat.le_refl _), List.take_of_length_le (Nat.le_refl _)]
      rfl
    rw [e]
    have g1 : (fltL false c ds eneg xs)[0]? = some c := rfl
    have h1 := fltL_len (neg := false) (c := c) (ds := ds) (eneg := eneg) (xs := xs)
    refine internal_strconv_commonPrefixLenIgnoreCase_call (prefix_ok (x := c) (y := 105) (by rw [strN_size]; omega) (by decide) (strN_get g1 (by omega)) (by decide) (by omega) (by omega) ?_)
    exact JoinW1.direct (letW (iteF (by decide) (letW (iteF (by decide) hq))))

theorem atof64_exact {Q : Nat → Int → Leaf → Hp → Prop} (hc : 49 ≤ c ∧ c < 58) (hds : ∀ d ∈ ds, 48 ≤ d ∧ d < 58) (hl : ds.length ≤ 17) (hxs : ∀ x ∈ xs, 48 ≤ x ∧ x < 58) (x1 : 1 ≤ xs.length) (x2 : xs.length ≤ 4) (env : FEnv h)
    (p0 : -345 ≤ (if eneg then -(numV xs : Int) else numV xs) - (ds.length : Int)) (p1 : (if eneg then -(numV xs : Int) else numV xs) - (ds.length : Int) ≤ 310) (hn : numV (c :: ds) ≠ 0)
    {f : Nat} (hx : ∀ {Q' : Nat → Bool → Hp → Prop}, (∀ h', h ≤ h' → Q' f true h') → internal_strconv_atof64exact_w Tryz.prog (numV (c :: ds) : Int) ((if eneg then -(numV xs : Int) else numV xs) - (ds.length : Int)) neg Q' h)
    (hk : ∀ h' (e : Leaf), h ≤ h' → e.v = .nilIface → Q f ((fltL neg c ds eneg xs).length : Int) e h') : internal_strconv_atof64_w Tryz.prog (strN (fltL neg c ds eneg xs)) Q h := by
  unfold internal_strconv_atof64_w
  refine internal_strconv_special_call (special_ok (by omega) (iteF (by decide) ?_))
  refine internal_strconv_readFloat_call (readFloat_ok hc hds hl hxs x1 x2 (iteF (by decide) (iteF (by decide) (JoinW2.direct ?_))))
  refine ld_at (sh := shBool) true env.opt (iteT rfl ?_)
  refine internal_strconv_bool2_uint64_call (bool64_ok ⟨by decide, ?_⟩)
  generalize hp : (if eneg then -(numV xs : Int) else numV xs) - (ds.length : Int) = p at *
  refine iteF (fun hh => hn (by have : ((numV (c :: ds) : Nat) : Int) = 0 := beq_iff_eq.1 hh; omega)) ?_
  refine iteF (fun hh => by have : p > 310 := of_decide_eq_true hh; omega) (iteF (fun hh => by have : p < -345 := of_decide_eq_true hh; omega) (JoinW2.direct (iteT (by decide) ?_)))
  exact internal_strconv_atof64exact_call (hx fun h' hl => iteT rfl ⟨⟨.nilIface, rfl⟩, rfl, hk h' _ hl rfl⟩)

theorem parseFloat_exact {Q : Nat → Leaf → Hp → Prop} (hc : 49 ≤ c ∧ c < 58) (hds : ∀ d ∈ ds, 48 ≤ d ∧ d < 58) (hl : ds.length ≤ 17) (hxs : ∀ x ∈ xs, 48 ≤ x ∧ x < 58) (x1 : 1 ≤ xs.length) (x2 : xs.length ≤ 4) (env : FEnv h)
    (p0 : -345 ≤ (if eneg then -(numV xs : Int) else numV xs) - (ds.length : Int)) (p1 : (if eneg then -(numV xs : Int) else numV xs) - (ds.length : Int) ≤ 310) (hn : numV (c :: ds) ≠ 0)
    {f : Nat} (hx : ∀ {Q' : Nat → Bool → Hp → Prop}, (∀ h', h ≤ h' → Q' f true h') → internal_strconv_atof64exact_w Tryz.prog (numV (c :: ds) : Int) ((if eneg then -(numV xs : Int) else numV xs) - (ds.length : Int)) neg Q' h)
    (hk : ∀ h' (e : Leaf), h ≤ h' → Q f e h') : strconv_ParseFloat_w Tryz.prog (strN (fltL neg c ds eneg xs)) (64 : Int) Q h := by
  unfold strconv_ParseFloat_w
  refine internal_strconv_ParseFloat_call ?_
  unfold internal_strconv_ParseFloat_w
  refine internal_strconv_parseFloatPrefix_call ?_
  unfold internal_strconv_parseFloatPrefix_w
  refine iteF (by decide) (internal_strconv_atof64_call (atof64_exact hc hds hl hxs x1 x2 env p0 p1 hn hx fun h1 e l1 he => ⟨e, rfl, ?_⟩))
  rw [strN_size]
  refine iteF (fun hh => bne_iff_ne.1 hh rfl) ⟨e, rfl, ?_⟩
  dsimp only
  rw [he]
  exact ⟨rfl, iteF (by decide) ⟨⟨.nilIface, rfl⟩, rfl, hk _ _ l1⟩⟩

theorem conv_uf {b : Int} : SemIs Tryz.prog (convert 31 34 (.int .u64 b)) h (.float .f64 (f64.nearest b)) := by
  refine semIs_of_run fun w => ?_
  have u1 := run_underlying' (e := ty31) tb_ok (t := 31) rfl w
  have u2 := run_underlying' (e := ty34) tb_ok (t := 34) rfl w
  simp only [convert, Sem.run_bind, u1, u2, Result.andThen_ok]
  rfl

/-- A small number by a small power of ten. -/
theorem exact_div {m k : Nat} {q x f : Nat} {Q : Nat → Bool → Hp → Prop} (env : FEnv h) (hm : m < 4503599627370496) (hk0 : 0 < k) (hk : k ≤ 22) (hq : f64.nearest (m : Int) = q) (hx : pow10F[k]? = some x) (hf : f64.format.div q x = some f) (hok : ∀ h', h ≤ h' → Q f true h') :
    internal_strconv_atof64exact_w Tryz.prog (m : Int) (-(k : Int)) false Q h := by
  unfold internal_strconv_atof64exact_w
  have ea : Addr.add ⟨6, 0, none⟩ 0 = (⟨6, 0, none⟩ : Addr) := by rw [box_add]
  rw [ea]
  refine ld_at (sh := shInt .u64) (52 : Int) env.info ⟨by decide, ?_⟩
  have e0 : shrI .u64 (m : Int) (52 : Int) = ((m / 2 ^ 52 : Nat) : Int) := shrN m (n := 52) (by decide)
  rw [e0, show m / 2 ^ 52 = 0 by rw [Nat.div_eq_zero_iff]; right; exact hm]
  refine iteF (by decide) ⟨f64.nearest (m : Int), conv_uf, ?_⟩
  refine JoinW1.direct (iteF (by decide) (iteF (fun hh => by have : -(k : Int) = 0 := beq_iff_eq.1 hh; omega) (letW (iteF (fun hh => ?_) (letW (iteT ?_ ?_))))))
  · rw [Bool.and_eq_true] at hh
    have := of_decide_eq_true hh.1
    omega
  · rw [Bool.and_eq_true]
    exact ⟨decide_eq_true (by omega), decide_eq_true (by omega)⟩
  obtain ⟨a, c, e1, e2⟩ := env.f10
  have ek : IntKind.wrap .i64 ((0 : Int) - (-(k : Int))) = (k : Int) := by rw [wrap64 (by omega) (by omega)]; omega
  rw [ek]
  refine ld_at (sh := shSl) ⟨some a, 23, c⟩ e1 ⟨⟨by simp, by omega, by show (k : Int) < 23; omega⟩, ld_at (sh := shFlt .f64) x ?_ ?_⟩
  · show LdIs h (Addr.add a (Int.toNat (k : Int) * 1)) [.float .f64 x]
    rw [Int.toNat_natCast, Nat.mul_one]
    exact one_cell (e2 k _ (by rw [List.getElem?_map, hx]; rfl))
  · rw [hq]
    refine semE_float bin_div fun g g1 _ => ?_
    rw [g1 f hf]
    exact hok h (Hp.le_refl h)
end
end Lf

/-
  The calls whose answers the document fixes.
-/
namespace Lf
open Go Go.Proofs

theorem tens_one {v w k l : Nat} (h : v * 10 ^ k = w * 10 ^ l) (hv : v % 10 ≠ 0) (hw : w % 10 ≠ 0) : k = l ∧ v = w := by
  have key : ∀ {v w k l : Nat}, v * 10 ^ k = w * 10 ^ l → v % 10 ≠ 0 → ¬ k < l := fun {v w k l} h hv hlt => by
    obtain ⟨d, rfl⟩ : ∃ d, l = k + (d + 1) := ⟨l - k - 1, by omega⟩
    rw [Nat.pow_add, ← Nat.mul_assoc, Nat.mul_right_comm] at h
    have := Nat.eq_of_mul_eq_mul_right (Nat.pow_pos (by decide)) h
    rw [Nat.pow_succ, ← Nat.mul_assoc] at this
    omega
  have : k = l := by
    have h1 := key h hv
    have h2 := key h.symm hw
    omega
  subst this
  exact ⟨rfl, Nat.eq_of_mul_eq_mul_right (Nat.pow_pos (by decide)) h⟩

theorem len_one {d n m : Nat} (h1 : 10 ^ (n - 1) ≤ d) (h2 : d < 10 ^ n) (h3 : 10 ^ (m - 1) ≤ d) (h4 : d < 10 ^ m) (n1 : 1 ≤ n) (m1 : 1 ≤ m) : n = m := by
  have a := (Nat.pow_lt_pow_iff_right (a := 10) (by decide)).1 (Nat.lt_of_le_of_lt h1 h4)
  have b := (Nat.pow_lt_pow_iff_right (a := 10) (by decide)).1 (Nat.lt_of_le_of_lt h3 h2)
  omega

theorem printedF_is {r : Nat} {neg : Bool} {out zs0 : List Nat} {v0 k0 n0 : Nat} {p : Int} (hp : PrintedF r neg out) (h : shortP (mS r) (eS r) = (v0 * 10 ^ k0, p)) (hv : v0 % 10 ≠ 0) (h1 : 10 ^ (n0 - 1) ≤ v0 * 10 ^ k0) (h2 : v0 * 10 ^ k0 < 10 ^ n0) (n1 : 1 ≤ n0)
    (hz : ∀ zs, NatTxt ((n0 : Int) + p - 1).natAbs zs → zs = zs0) : out = headL neg (n0 - k0) v0 ++ 101 :: (signL ((n0 : Int) + p - 1) ++ zs0) := by
  obtain ⟨n, k, v, zs, a1, a2, a3, a4, a5, a6, a7, a8⟩ := hp
  rw [h] at a1 a5 a6 a7 a8
  obtain ⟨rfl, rfl⟩ := tens_one a1.symm a2 hv
  obtain rfl := len_one a5 a6 h1 h2 (by omega) n1
  rw [a8, hz zs a7]

section
variable {h : Hp}

/-- The bits of one and a half. -/
abbrev oneHalf : Nat := 4609434218613702656

theorem short_half : shortP (mS oneHalf) (eS oneHalf) = (15 * 10 ^ 14, -15) := by decide +kernel

theorem print_half {Q : ByteArray → Hp → Prop} (env : FEnv h) (hk : ∀ h', h ≤ h' → Q (strN [49, 46, 53, 101, 48]) h') : flt_Print_w Tryz.prog (4609434218613702656 : Int) Q h := by
  have hr : oneHalf % 9223372036854775808 = oneHalf := by decide
  refine print_ok (w := oneHalf) (by decide) (by rw [hr]; decide) (by rw [hr]; decide) (by rw [hr, short_half]; decide) (by rw [hr, short_half]; decide) env.pow env.small fun h' out hl hp => ?_
  rw [hr] at hp
  have hn : negD oneHalf = false := by decide
  rw [hn] at hp
  have := printedF_is (zs0 := [48]) (n0 := 16) hp short_half (by decide) (by decide) (by decide) (by decide) (fun zs hz => by
    obtain ⟨n, rfl, -, a2, a3⟩ := hz
    rcases a3 with rfl | a3
    · rfl
    · have : 10 ^ (n - 1) ≤ 0 := a3
      have := Nat.pow_pos (n := n - 1) (show 0 < 10 by decide)
      omega)
  rw [this]
  exact hk h' hl

theorem parse_half {c : Nat} {ds xs : List Nat} {k x : Nat} {Q : Int → Int → Hp → Prop} (env : FEnv h) (hc : c = 49) (hds : ds = [53] ∧ k = 1 ∨ ds = [53, 48] ∧ k = 2) (hxs : xs = [48]) (hx : pow10F[k]? = some x) (hf : ∀ q, f64.nearest ((numV (c :: ds) : Nat) : Int) = q → f64.format.div q x = some oneHalf)
    (hk : ∀ h', h ≤ h' → Q (if ds = [53] then 4609434218613702656 else 0) (if ds = [53] then 0 else 4) h') : flt_Parse_w Tryz.prog (strN (fltL false c ds false xs)) Q h := by
  subst hc hxs
  unfold flt_Parse_w
  have hpre : (strN (fltL false 49 ds false [48])).size = ds.length + 4 ∧ ((strN (fltL false 49 ds false [48])).extract 0 4).toList.head? = some 49 := by
    rcases hds with ⟨rfl, -⟩ | ⟨rfl, -⟩ <;> exact ⟨by decide +kernel, by decide +kernel⟩
  refine strings_CutPrefix_call ?_
  unfold strings_CutPrefix_w
  refine internal_stringslite_CutPrefix_call ?_
  unfold internal_stringslite_CutPrefix_w
  refine internal_stringslite_HasPrefix_call ?_
  unfold internal_stringslite_HasPrefix_w
  have hs4 : ((⟨#[110, 97, 110, 58]⟩ : ByteArray).size) = 4 := rfl
  rw [hpre.1, hs4]
  refine ⟨fun _ => ⟨by omega, by omega⟩, letW ?_⟩
  have hne : (((strN (fltL false 49 ds false [48])).extract 0 (Int.toNat ((4 : Nat) : Int))).toList == (⟨#[110, 97, 110, 58]⟩ : ByteArray).toList) = false := by
    rw [Bool.eq_false_iff]
    intro hh
    have e := eq_of_beq hh
    have := congrArg List.head? e
    rw [show Int.toNat ((4 : Nat) : Int) = 4 from rfl, hpre.2] at this
    revert this
    decide +kernel
  rw [hne, Bool.and_false]
  refine iteT (by decide) (JoinW1.direct (iteF (by decide) ?_))
  have hd1 : ds.length = k ∧ (∀ d ∈ ds, 48 ≤ d ∧ d < 58) ∧ k ≤ 2 ∧ 0 < k ∧ numV (49 :: ds) < 1000 ∧ numV (49 :: ds) ≠ 0 := by
    rcases hds with ⟨rfl, rfl⟩ | ⟨rfl, rfl⟩ <;> decide
  obtain ⟨e1, e2, e3, e4, e5, e6⟩ := hd1
  have hp : (if false = true then -((numV [48] : Nat) : Int) else ((numV [48] : Nat) : Int)) - (ds.length : Int) = -(k : Int) := by rw [e1]; simp [numV]
  refine strconv_ParseFloat_call (parseFloat_exact (f := oneHalf) (by decide) e2 (by omega) (by decide) (by decide) (by decide) env (by rw [hp]; omega) (by rw [hp]; omega) e6 (fun {Q'} hq' => ?_) fun h1 er l1 => ?_)
  · rw [hp]
    exact exact_div env (by omega) e4 (by omega) rfl hx (hf _ rfl) hq'
  refine ⟨(oneHalf : Int), rfl, ?_⟩
  have ew : IntKind.wrap .i64 ((oneHalf : Nat) : Int) = (4609434218613702656 : Int) := by decide
  dsimp only
  rw [ew]
  refine flt_Print_call (print_half (env.mono l1) fun h2 l2 => ?_)
  have hk' := hk h2 (Hp.le_trans l1 l2)
  rcases hds with ⟨rfl, -⟩ | ⟨rfl, -⟩
  · exact iteF (by decide +kernel) hk'
  · exact iteT (by decide +kernel) hk'

theorem fixed_ok {Q : Bool → Hp → Prop} (env : FEnv h) (hq : ∀ h', h ≤ h' → Q true h') : firebreaklaw05_fixed_w Tryz.prog Q h := by
  unfold firebreaklaw05_fixed_w
  have f1 : fltP 15 4607182418800017408 4607182418800017408 = 4611686018427387904 := by decide +kernel
  have f2 : fltP 18 0 0 = 9221120237041090560 := by decide +kernel
  have s1 : (⟨#[49, 46, 53, 101, 48]⟩ : ByteArray) = strN (fltL false 49 [53] false [48]) := bytes_ext (by decide +kernel)
  have s2 : (⟨#[49, 46, 53, 48, 101, 48]⟩ : ByteArray) = strN (fltL false 49 [53, 48] false [48]) := bytes_ext (by decide +kernel)
  have t1 : (strN [49, 46, 53, 101, 48]).toList = (strN (fltL false 49 [53] false [48])).toList := rfl
  rw [s1, s2]
  refine flt_Do_call (fltDo_ok (fun _ => ?_) fun hh => absurd (by decide) hh)
  refine flt_Do_call (fltDo_ok (fun _ => ?_) fun hh => absurd (by decide) hh)
  refine flt_Do_call (fltDo_ok (fun hh => absurd hh (by decide)) fun _ => ?_)
  rw [f1, f2]
  refine flt_Parse_call (parse_half env rfl (.inl ⟨rfl, rfl⟩) rfl rfl (fun q hq' => by subst hq'; decide +kernel) fun h1 l1 => ?_)
  refine flt_Parse_call (parse_half (env.mono l1) rfl (.inr ⟨rfl, rfl⟩) rfl rfl (fun q hq' => by subst hq'; decide +kernel) fun h2 l2 => ?_)
  have l12 := Hp.le_trans l1 l2
  refine letW (letW (letW (letW (letW (letW (letW (effB (by decide) (flt_Print_call ?_)))))))) 
  rw [if_pos rfl]
  refine print_half (env.mono l12) fun h3 l3 => letW ?_
  rw [t1]
  have := hq h3 (Hp.le_trans l12 l3)
  simpa using this
end
end Lf

/-
  What the rows of this seat list, as strconv's tables in memory.
-/
namespace Lf
open Go Go.Proofs Go.ChangeShapes Go.WideShapes Go.ChangeAt Go.RowKit

/-- What the row lists. -/
abbrev fltLaid : List (String × DataW Unit) := YtfcckhafmajceaaGreatDoor.Rows.fltNamesRow.laid

theorem env_laid {W : World} (h : laidMetH Tryz.prog fltLaid W) : FEnv (whole W) := by
  rw [MakeChecks.laidMetH_plain _ _ _ (by kernel_rfl)] at h
  have h3 := h.tail.tail.tail
  have h4 := h3.tail
  have h6 := h4.tail.tail
  have h8 := h6.tail.tail
  have h12 := h8.tail.tail.tail.tail
  refine ⟨?_, ?_, ?_, ?_, ?_⟩
  · exact laid_pairs (g := 11) h12 (by kernel_rfl) (by kernel_rfl) Tryz.underlying195 Tryz.underlying194 rfl rfl rfl rfl rfl rfl (by kernel_rfl) (by kernel_rfl) (by kernel_rfl)
  · have h8' : laidMet Tryz.prog (("internal/strconv.uint64pow10", .agg (((List.range 20).map fun k => ((10 ^ k : Nat) : Int)).map fun x => .lit (.int .u64 x))) :: _) W := h8
    have := laid_ints (g := 7) h8' (by kernel_rfl) (by kernel_rfl) Tryz.underlying163 Tryz.underlying31 (by kernel_rfl) (by kernel_rfl)
    rw [List.map_map] at this
    exact this
  · exact laid_bool (g := 4) h4 (by kernel_rfl) (by kernel_rfl) Tryz.underlying4
  · exact laid_first (g := 6) h3 (by kernel_rfl) (by kernel_rfl) Tryz.underlying149 rfl rfl (by kernel_rfl) (by kernel_rfl)
  · have h6' : laidMet Tryz.prog (("internal/strconv.float64pow10", .slice (pow10F.map fun x => .lit (.float .f64 x)) []) :: _) W := h6
    exact laid_floats (g := 10) h6' (by kernel_rfl) (by kernel_rfl) Tryz.underlying190 Tryz.underlying34 (by kernel_rfl)

theorem own : ownKnob Tryz.prog.godebug = none := by kernel_rfl
theorem laidOut : laidOutB Tryz.prog = true := by kernel_rfl

/-- A world for the witness. -/
theorem laid_met (os : Os) (args : Array Value) : laidMetH Tryz.prog fltLaid ((World.laidAll Tryz.prog os fltLaid).forCall (fun _ _ => 0) ⟨#[], args, []⟩).memory := by
  rw [MakeChecks.laidMetH_plain _ _ _ (by kernel_rfl)]
  exact laidMet_laidAll args (by kernel_rfl) (by kernel_rfl)
end Lf

/-
  The document's floats: products, whole numbers made floats.
-/
namespace Lf
open Go Go.Proofs

section
variable {h : Hp} {a b : Nat}

theorem partsM_lt (ha : a < 9223372036854775808) : partsM a < 9007199254740992 := by unfold partsM; split <;> omega
theorem partsE_in (ha : a < 9223372036854775808) : -1074 ≤ partsE a ∧ partsE a ≤ 972 := by unfold partsE; split <;> omega
theorem isNaND_iff : isNaND a = true ↔ 9218868437227405312 < a % 9223372036854775808 := by unfold isNaND; exact decide_eq_true_iff

theorem mul_ok {Q : Int → Hp → Prop} (ha : a < 18446744073709551616) (hb : b < 18446744073709551616) (hk : ∀ h', h ≤ h' → Q ((mulD a b : Nat) : Int) h') : firebreakref05_mul_w Tryz.prog (a : Int) (b : Int) Q h := by
  unfold firebreakref05_mul_w
  rw [andNot_sign ha, andNot_sign hb, xor_sign ha hb]
  intro y hy y1 hy1 y2 hy2 y3 hy3 y4 hy4
  unfold mulD at hk
  simp only [isNaND_iff] at hk
  have xl : a % 9223372036854775808 < 9223372036854775808 := Nat.mod_lt _ (by decide)
  have yl : b % 9223372036854775808 < 9223372036854775808 := Nat.mod_lt _ (by decide)
  generalize a % 9223372036854775808 = u at *
  generalize b % 9223372036854775808 = v at *
  have c4 : y4 = true ↔ (9218868437227405312 < u ∨ 9218868437227405312 < v ∨ (u = 9218868437227405312 ∧ v = 0) ∨ (u = 0 ∧ v = 9218868437227405312)) := by
    rw [hy4, hy3, hy2, hy1, hy]
    simp only [Bool.or_eq_true, Bool.and_eq_true, decide_eq_true_eq, beq_iff_eq]
    omega
  clear hy4 hy3 hy2 hy1 hy
  cases y4 with
  | true =>
    rw [if_pos rfl]
    rw [if_pos (c4.1 rfl)] at hk
    exact hk h (Hp.le_refl h)
  | false =>
    rw [if_neg (by decide)]
    rw [if_neg (fun e => by have := c4.2 e; cases this)] at hk
    intro y5 hy5
    have c5 : y5 = true ↔ (u = 9218868437227405312 ∨ v = 9218868437227405312) := by
      rw [hy5]
      simp only [Bool.or_eq_true, beq_iff_eq]
      omega
    clear hy5
    cases y5 with
    | true =>
      rw [if_pos rfl, show bitsI .or .u64 ((sgn (negD a ^^ negD b) : Nat) : Int) (9218868437227405312 : Int) = _ from or_sign (a := 9218868437227405312) (by decide)]
      rw [if_pos (c5.1 rfl)] at hk
      exact hk h (Hp.le_refl h)
    | false =>
      rw [if_neg (by decide)]
      rw [if_neg (fun e => by have := c5.2 e; cases this)] at hk
      clear c4 c5
      have m1 := partsM_lt xl
      have m2 := partsM_lt yl
      have p1 := partsE_in xl
      have p2 := partsE_in yl
      refine firebreakref05_parts_call (parts_ok xl ?_)
      refine firebreakref05_parts_call (parts_ok yl ?_)
      refine firebreakref05_product_call (product_ok (by omega) (by omega) (by omega) (by omega) fun r h1 l1 n1 => ?_)
      rw [Int.toNat_natCast, Int.toNat_natCast] at n1
      rw [wrap64 (by omega) (by omega)]
      have hl : partsM u * partsM v < 2 ^ (32 * 4) := by
        have := Nat.mul_le_mul (Nat.le_of_lt m1) (Nat.le_of_lt m2)
        omega
      exact firebreakref05_rounded_call (rounded_ok n1 (by have := n1.len hl; omega) (by omega) (by omega) fun h2 l2 => hk h2 (Hp.le_trans l1 l2))

theorem floatR_ok {n : Int} {Q : Int → Hp → Prop} (n0 : -9223372036854775808 ≤ n) (n1 : n < 9223372036854775808) (hk : ∀ h', h ≤ h' → Q ((toFloatD n : Nat) : Int) h') : firebreakref05_float_w Tryz.prog n Q h := by
  unfold firebreakref05_float_w
  unfold toFloatD at hk
  by_cases hn : n < 0
  · rw [if_pos (decide_eq_true hn), wrap64 (n := n + 1) (by omega) (by omega), wrap64 (n := 0 - (n + 1)) (by omega) (by omega), wrapU64 (0 - (n + 1)), wrapU64]
    rw [decide_eq_true hn] at hk
    refine firebreakref05_of_call (of_ok (by omega) (by omega) fun r h1 l1 m1 => ?_)
    rw [show (((0 - (n + 1)) % 18446744073709551616 + 1) % 18446744073709551616).toNat = n.natAbs by omega] at m1
    exact firebreakref05_rounded_call (rounded_ok (s := true) m1 (by have := m1.len (L := 2) (by omega); omega) (by decide) (by decide) fun h2 l2 => hk h2 (Hp.le_trans l1 l2))
  · rw [if_neg (fun e => hn (of_decide_eq_true e)), wrapU64]
    rw [decide_eq_false hn] at hk
    refine firebreakref05_of_call (of_ok (by omega) (by omega) fun r h1 l1 m1 => ?_)
    rw [show (n % 18446744073709551616).toNat = n.natAbs by omega] at m1
    exact firebreakref05_rounded_call (rounded_ok (s := false) m1 (by have := m1.len (L := 2) (by omega); omega) (by decide) (by decide) fun h2 l2 => hk h2 (Hp.le_trans l1 l2))

end
end Lf

/-
  The document's floats: sums.
-/
namespace Lf
open Go Go.Proofs

section
variable {h : Hp} {a b : Nat}

theorem nan2 {K : Bool → Bool → Hp → Prop} (ha : a < 18446744073709551616) (hb : b < 18446744073709551616) (hk : ∀ r1, (isNaND a = false → r1 = isNaND b) → K (isNaND a) r1 h) :
    CallT Tryz.prog n_firebreakref05_isNaN [(.int .u64 (a : Int))] shBool (fun r h1 => EffC (some (!r)) (CallT Tryz.prog n_firebreakref05_isNaN [(.int .u64 (b : Int))] shBool) (fun r1 h2 => K r r1 h2) h1) h := by
  refine firebreakref05_isNaN_call (isNaN_ok ha ?_)
  cases hh : isNaND a with
  | false => exact ⟨fun _ => firebreakref05_isNaN_call (isNaN_ok hb (by rw [hh] at hk; exact hk _ fun _ => rfl)), fun e => (by cases e)⟩
  | true => exact ⟨fun e => (by cases e), fun _ => ⟨false, (by rw [hh] at hk; exact hk _ (fun e => by cases e))⟩⟩

theorem shl_len {m k L : Nat} (hm : m < 9007199254740992) (hk : k ≤ 2046) (hL : L = 66) : m * 2 ^ k < 2 ^ (32 * L) := by
  have h1 : m * 2 ^ k < 2 ^ 53 * 2 ^ k := Nat.mul_lt_mul_of_pos_right hm (Nat.two_pow_pos k)
  rw [← Nat.pow_add] at h1
  exact Nat.lt_of_lt_of_le h1 (Nat.pow_le_pow_right (by decide) (by omega))

theorem add_tail {Q : Int → Hp → Prop} {x y : Nat} {s t : Bool} {r7 r9 : Sl} {k : Int} {d : Bool} (n7 : Nt h r7 x) (n9 : Nt h r9 y) (l7 : r7.len ≤ 66) (l9 : r9.len ≤ 66) (k0 : -1074 ≤ k) (k1 : k ≤ 972) (hd : d = true ↔ s = t)
    (hk : ∀ h', h ≤ h' → Q (((if s = t then roundedD s (x + y) k false else if x = y then 0 else if y < x then roundedD s (x - y) k false else roundedD t (y - x) k false) : Nat) : Int) h') :
    (if d = true then
     CallT Tryz.prog n_firebreakref05_sum [r7.v, r9.v] shSl (fun r10 h9 =>
     CallT Tryz.prog n_firebreakref05_rounded [(.int .u64 ((sgn s : Nat) : Int)), r10.v, (.int .i64 k), (.bool false)] (shInt .u64) (fun r11 h10 =>
     Q r11 h10) h9) h
     else
     CallT Tryz.prog n_firebreakref05_compare [r7.v, r9.v] (shInt .i64) (fun r10 h9 =>
     (if (r10 == (0 : Int)) = true then
     Q (0 : Int) h9
     else
     (if (r10 == (1 : Int)) = true then
     CallT Tryz.prog n_firebreakref05_less [r7.v, r9.v] shSl (fun r11 h10 =>
     CallT Tryz.prog n_firebreakref05_rounded [(.int .u64 ((sgn s : Nat) : Int)), r11.v, (.int .i64 k), (.bool false)] (shInt .u64) (fun r12 h11 =>
     Q r12 h11) h10) h9
     else
     CallT Tryz.prog n_firebreakref05_less [r9.v, r7.v] shSl (fun r11 h10 =>
     CallT Tryz.prog n_firebreakref05_rounded [(.int .u64 ((sgn t : Nat) : Int)), r11.v, (.int .i64 k), (.bool false)] (shInt .u64) (fun r12 h11 =>
     Q r12 h11) h10) h9))) h) := by
  obtain ⟨L, hL⟩ : ∃ L : Nat, L = 66 := ⟨66, rfl⟩
  have e7 : x < 2 ^ (32 * L) := Nat.lt_of_lt_of_le n7.lt (Nat.pow_le_pow_right (by decide) (by omega))
  have e9 : y < 2 ^ (32 * L) := Nat.lt_of_lt_of_le n9.lt (Nat.pow_le_pow_right (by decide) (by omega))
  have es : x + y < 2 ^ (32 * (L + 1)) := Nat.lt_of_lt_of_le (Nat.add_lt_add e7 e9) (by rw [← Nat.two_mul, ← Nat.pow_succ']; exact Nat.pow_le_pow_right (by decide) (by omega))
  have e1 : x - y < 2 ^ (32 * L) := Nat.lt_of_le_of_lt (Nat.sub_le _ _) e7
  have e2 : y - x < 2 ^ (32 * L) := Nat.lt_of_le_of_lt (Nat.sub_le _ _) e9
  have f0 : ∀ {g : Hp} {r : Sl}, Nt g r (x + y) → r.len < 100 := fun n => Nat.lt_of_le_of_lt (n.len es) (by omega)
  have f1 : ∀ {g : Hp} {r : Sl}, Nt g r (x - y) → r.len < 100 := fun n => Nat.lt_of_le_of_lt (n.len e1) (by omega)
  have f2 : ∀ {g : Hp} {r : Sl}, Nt g r (y - x) → r.len < 100 := fun n => Nat.lt_of_le_of_lt (n.len e2) (by omega)
  clear e7 e9 es e1 e2
  cases d with
  | true =>
    rw [if_pos rfl]
    rw [if_pos (hd.1 rfl)] at hk
    refine firebreakref05_sum_call (sum_ok n7 n9 (by omega) (by omega) fun r h1 l1 n1 => ?_)
    exact firebreakref05_rounded_call (rounded_ok n1 (f0 n1) (by omega) (by omega) fun h2 l2 => hk h2 (Hp.le_trans l1 l2))
  | false =>
    rw [if_neg (by decide)]
    rw [if_neg (fun e => by have := hd.2 e; cases this)] at hk
    refine firebreakref05_compare_call (compare_ok n7 n9 (by omega) (by omega) ?_)
    rcases Nat.lt_trichotomy x y with c | c | c
    · rw [show cmpN x y = -1 by unfold cmpN; rw [if_pos c], if_neg (by decide), if_neg (by decide)]
      rw [if_neg (by omega), if_neg (by omega)] at hk
      refine firebreakref05_less_call (less_ok n9 n7 (by omega) (by omega) fun r h1 l1 n1 => ?_)
      exact firebreakref05_rounded_call (rounded_ok n1 (f2 n1) (by omega) (by omega) fun h2 l2 => hk h2 (Hp.le_trans l1 l2))
    · rw [show cmpN x y = 0 by unfold cmpN; rw [if_neg (by omega), if_neg (by omega)], if_pos (by decide)]
      rw [if_pos c] at hk
      exact hk h (Hp.le_refl h)
    · rw [show cmpN x y = 1 by unfold cmpN; rw [if_neg (by omega), if_pos c], if_neg (by decide), if_pos (by decide)]
      rw [if_neg (by omega), if_pos c] at hk
      refine firebreakref05_less_call (less_ok n7 n9 (by omega) (by omega) fun r h1 l1 n1 => ?_)
      exact firebreakref05_rounded_call (rounded_ok n1 (f1 n1) (by omega) (by omega) fun h2 l2 => hk h2 (Hp.le_trans l1 l2))

theorem eqI {u c : Nat} : (((u : Nat) : Int) == ((c : Nat) : Int)) = true ↔ u = c := by rw [beq_iff_eq]; omega

theorem and_both {u v : Nat} (hu : u < 18446744073709551616) (hv : v < 18446744073709551616) (h1 : u % 9223372036854775808 = 0) (h2 : v % 9223372036854775808 = 0) : bitsI .and .u64 (u : Int) (v : Int) = (((if u = v then u else 0) : Nat) : Int) := by
  rcases (show u = 0 ∨ u = 9223372036854775808 by omega) with rfl | rfl <;> rcases (show v = 0 ∨ v = 9223372036854775808 by omega) with rfl | rfl <;> decide

theorem add_ok {Q : Int → Hp → Prop} (ha : a < 18446744073709551616) (hb : b < 18446744073709551616) (hk : ∀ h', h ≤ h' → Q ((addD a b : Nat) : Int) h') : firebreakref05_add_w Tryz.prog (a : Int) (b : Int) Q h := by
  unfold firebreakref05_add_w
  refine nan2 ha hb fun r1 hr1 => ?_
  rw [andNot_sign ha, andNot_sign hb, and_sign ha, and_sign hb]
  intro y hy y1 hy1 y2 hy2 y3 hy3
  unfold addD at hk
  have na := isNaND_iff (a := a)
  have nb := isNaND_iff (a := b)
  have xl : a % 9223372036854775808 < 9223372036854775808 := Nat.mod_lt _ (by decide)
  have yl : b % 9223372036854775808 < 9223372036854775808 := Nat.mod_lt _ (by decide)
  have hz := and_both ha hb
  generalize isNaND a = p at *
  generalize isNaND b = q at *
  generalize a % 9223372036854775808 = u at *
  generalize b % 9223372036854775808 = v at *
  have i1 : (((u : Nat) : Int) == (9218868437227405312 : Int)) = true ↔ u = 9218868437227405312 := eqI
  have i2 : (((v : Nat) : Int) == (9218868437227405312 : Int)) = true ↔ v = 9218868437227405312 := eqI
  have i3 : (((u : Nat) : Int) == (0 : Int)) = true ↔ u = 0 := eqI
  have i4 : (((v : Nat) : Int) == (0 : Int)) = true ↔ v = 0 := eqI
  have i5 : ((((sgn (negD a)) : Nat) : Int) == (((sgn (negD b)) : Nat) : Int)) = true ↔ negD a = negD b := by
    rw [eqI]
    cases negD a <;> cases negD b <;> decide
  have i6 : (((a : Nat) : Int) != ((b : Nat) : Int)) = true ↔ a ≠ b := by rw [bne_iff_ne]; omega
  generalize (((u : Nat) : Int) == (9218868437227405312 : Int)) = d1 at *
  generalize (((v : Nat) : Int) == (9218868437227405312 : Int)) = d2 at *
  generalize (((u : Nat) : Int) == (0 : Int)) = d3 at *
  generalize (((v : Nat) : Int) == (0 : Int)) = d4 at *
  generalize ((((sgn (negD a)) : Nat) : Int) == (((sgn (negD b)) : Nat) : Int)) = d5 at *
  generalize (((a : Nat) : Int) != ((b : Nat) : Int)) = d6 at *
  have c3 : y3 = true ↔ (p = true ∨ q = true ∨ (u = 9218868437227405312 ∧ v = 9218868437227405312 ∧ a ≠ b)) := by
    rw [hy3, hy2, hy1, hy]
    simp only [Bool.or_eq_true, Bool.and_eq_true, i1, i2, i6]
    cases p with
    | true => simp
    | false => rw [hr1 rfl, and_assoc, or_assoc]
  clear hy3 hy2 hy1 hy
  cases y3 with
  | true =>
    rw [if_pos rfl]
    rw [if_pos (c3.1 rfl)] at hk
    exact hk h (Hp.le_refl h)
  | false =>
  rw [if_neg (by decide)]
  rw [if_neg (fun e => by have := c3.2 e; cases this)] at hk
  clear c3
  cases d1 with
  | true =>
    rw [if_pos rfl]
    rw [if_pos (i1.1 rfl)] at hk
    exact hk h (Hp.le_refl h)
  | false =>
  rw [if_neg (by decide)]
  rw [if_neg (fun e => by have := i1.2 e; cases this)] at hk
  cases d2 with
  | true =>
    rw [if_pos rfl]
    rw [if_pos (i2.1 rfl)] at hk
    exact hk h (Hp.le_refl h)
  | false =>
  rw [if_neg (by decide)]
  rw [if_neg (fun e => by have := i2.2 e; cases this)] at hk
  intro y4 hy4
  have c4 : y4 = true ↔ (u = 0 ∧ v = 0) := by rw [hy4, Bool.and_eq_true, i3, i4]
  clear hy4
  cases y4 with
  | true =>
    rw [if_pos rfl]
    rw [if_pos (c4.1 rfl)] at hk
    rw [hz (c4.1 rfl).1 (c4.1 rfl).2]
    exact hk h (Hp.le_refl h)
  | false =>
  rw [if_neg (by decide)]
  rw [if_neg (fun e => by have := c4.2 e; cases this)] at hk
  dsimp only at hk
  have m1 := partsM_lt xl
  have m2 := partsM_lt yl
  have p1 := partsE_in xl
  have p2 := partsE_in yl
  refine firebreakref05_parts_call (parts_ok xl ?_)
  refine firebreakref05_parts_call (parts_ok yl ?_)
  have em : min2I (partsE u) (partsE v) = min (partsE u) (partsE v) := by unfold min2I; split <;> omega
  rw [em]
  have hmn : min (partsE u) (partsE v) ≤ partsE u ∧ min (partsE u) (partsE v) ≤ partsE v ∧ -1074 ≤ min (partsE u) (partsE v) := by omega
  generalize min (partsE u) (partsE v) = k at *
  rw [wrap64 (n := partsE u - k) (by omega) (by omega), wrap64 (n := partsE v - k) (by omega) (by omega), show partsE u - k = (((partsE u - k).toNat : Nat) : Int) by omega, show partsE v - k = (((partsE v - k).toNat : Nat) : Int) by omega]
  obtain ⟨L, hL⟩ : ∃ L : Nat, L = 66 := ⟨66, rfl⟩
  have s1 := shl_len m1 (show (partsE u - k).toNat ≤ 2046 by omega) hL
  have s2 := shl_len m2 (show (partsE v - k).toNat ≤ 2046 by omega) hL
  refine firebreakref05_of_call (of_ok (Int.natCast_nonneg _) (by clear s1 s2; omega) fun r6 h6 l6 n6 => ?_)
  rw [Int.toNat_natCast] at n6
  refine firebreakref05_shift_call (shift_ok n6 (Nat.lt_of_le_of_lt (n6.len (L := 2) (by clear s1 s2; omega)) (by decide)) (by clear s1 s2; omega) fun r7 h7 l7 n7 => ?_)
  refine firebreakref05_of_call (of_ok (Int.natCast_nonneg _) (by clear s1 s2; omega) fun r8 h8 l8 n8 => ?_)
  rw [Int.toNat_natCast] at n8
  refine firebreakref05_shift_call (shift_ok n8 (Nat.lt_of_le_of_lt (n8.len (L := 2) (by clear s1 s2; omega)) (by decide)) (by clear s1 s2; omega) fun r9 h9 l9 n9 => ?_)
  have q1 : r7.len ≤ 66 := by have := n7.len s1; omega
  have q2 : r9.len ≤ 66 := by have := n9.len s2; omega
  clear s1 s2
  exact add_tail (n7.mono (Hp.le_trans l8 l9)) n9 q1 q2 hmn.2.2 (by omega) i5 fun h' hl => hk h' (Hp.le_trans l6 (Hp.le_trans l7 (Hp.le_trans l8 (Hp.le_trans l9 hl))))

end
end Lf

/-
  The document's floats: which is below.
-/
namespace Lf
open Go Go.Proofs

section
variable {h : Hp} {a b : Nat}

theorem or_neg (ha : a < 9223372036854775808) : bitsI .or .u64 (a : Int) (9223372036854775808 : Int) = ((a + 9223372036854775808 : Nat) : Int) := by
  rw [or_comm64, show bitsI .or .u64 (9223372036854775808 : Int) ((a : Nat) : Int) = _ from or_sign (s := true) ha]
  unfold sgn
  rw [if_pos rfl, Nat.add_comm]

theorem one_zero {u v : Nat} {Q : Int → Hp → Prop} (hk : Q (if u < v then 1 else 0) h) : (if (decide (((u : Nat) : Int) < ((v : Nat) : Int))) = true then Q (1 : Int) h else Q (0 : Int) h) := by
  by_cases c : u < v
  · rw [if_pos (decide_eq_true (by omega))]; rw [if_pos c] at hk; exact hk
  · rw [if_neg (fun e => c (by have := of_decide_eq_true e; omega))]; rw [if_neg c] at hk; exact hk

theorem sgn_ne : ((((sgn (negD a)) : Nat) : Int) != (0 : Int)) = true ↔ 9223372036854775808 ≤ a := by
  rw [bne_iff_ne]
  unfold sgn negD
  by_cases c : 9223372036854775808 ≤ a
  · rw [decide_eq_true c, if_pos rfl]; omega
  · rw [decide_eq_false c, if_neg (by decide)]; omega

theorem below_ok {Q : Int → Hp → Prop} (ha : a < 18446744073709551616) (hb : b < 18446744073709551616) (hk : Q (belowD a b) h) : firebreakref05_below_w Tryz.prog (a : Int) (b : Int) Q h := by
  unfold firebreakref05_below_w
  refine nan2 ha hb fun r1 hr1 => ?_
  rw [andNot_sign ha, andNot_sign hb, and_sign ha, and_sign hb, not_eq ha, not_eq hb]
  intro y hy y1 hy1 y2 hy2
  unfold belowD keyD at hk
  have i3 : (((a % 9223372036854775808 : Nat) : Int) == (0 : Int)) = true ↔ a % 9223372036854775808 = 0 := eqI
  have i4 : (((b % 9223372036854775808 : Nat) : Int) == (0 : Int)) = true ↔ b % 9223372036854775808 = 0 := eqI
  have c2 : y2 = true ↔ (isNaND a = true ∨ isNaND b = true ∨ (a % 9223372036854775808 = 0 ∧ b % 9223372036854775808 = 0)) := by
    rw [hy2, hy1, hy]
    simp only [Bool.or_eq_true, Bool.and_eq_true, i3, i4]
    cases hp : isNaND a with
    | true => simp
    | false => rw [hr1 hp, or_assoc]
  clear hy2 hy1 hy i3 i4
  have j1 := sgn_ne (a := a)
  have j2 := sgn_ne (a := b)
  generalize ((((sgn (negD a)) : Nat) : Int) != (0 : Int)) = d1 at *
  generalize ((((sgn (negD b)) : Nat) : Int) != (0 : Int)) = d2 at *
  cases y2 with
  | true =>
    rw [if_pos rfl]
    rw [if_pos (c2.1 rfl)] at hk
    exact hk
  | false =>
  rw [if_neg (by decide)]
  rw [if_neg (fun e => by have := c2.2 e; cases this)] at hk
  clear c2
  cases d1 with
  | true =>
    rw [if_pos rfl]
    rw [if_pos (j1.1 rfl)] at hk
    cases d2 with
    | true =>
      rw [if_pos rfl]
      rw [if_pos (j2.1 rfl)] at hk
      generalize 18446744073709551615 - a = u at hk ⊢; generalize 18446744073709551615 - b = v at hk ⊢; exact one_zero hk
    | false =>
      have c : ¬ 9223372036854775808 ≤ b := fun e => by have := j2.2 e; cases this
      rw [if_neg (by decide), or_neg (by omega)]
      rw [if_neg c] at hk
      generalize 18446744073709551615 - a = u at hk ⊢; generalize b + 9223372036854775808 = v at hk ⊢; exact one_zero hk
  | false =>
    have c : ¬ 9223372036854775808 ≤ a := fun e => by have := j1.2 e; cases this
    rw [if_neg (by decide)]
    rw [if_neg c] at hk
    cases d2 with
    | true =>
      rw [if_pos rfl, or_neg (by omega)]
      rw [if_pos (j2.1 rfl)] at hk
      generalize a + 9223372036854775808 = u at hk ⊢; generalize 18446744073709551615 - b = v at hk ⊢; exact one_zero hk
    | false =>
      have c' : ¬ 9223372036854775808 ≤ b := fun e => by have := j2.2 e; cases this
      rw [if_neg (by decide), or_neg (by omega), or_neg (by omega)]
      rw [if_neg c'] at hk
      generalize a + 9223372036854775808 = u at hk ⊢; generalize b + 9223372036854775808 = v at hk ⊢; exact one_zero hk

end
end Lf

/-
  The document's floats: made whole.
-/
namespace Lf
open Go Go.Proofs

section
variable {h : Hp} {a : Nat}

theorem whole_ok {Q : Int → Hp → Prop} (ha : a < 18446744073709551616) (hk : Q (wholeD a) h) : firebreakref05_whole_w Tryz.prog (a : Int) Q h := by
  unfold firebreakref05_whole_w
  refine firebreakref05_isNaN_call (isNaN_ok ha ?_)
  rw [andNot_sign ha, and_sign ha]
  unfold wholeD at hk
  dsimp only at hk
  have j1 := sgn_ne (a := a)
  generalize ((((sgn (negD a)) : Nat) : Int) != (0 : Int)) = d1 at *
  cases hn : isNaND a with
  | true =>
    rw [if_pos rfl]
    rw [if_pos hn] at hk
    exact hk
  | false =>
  rw [if_neg (by decide)]
  rw [if_neg (by rw [hn]; decide)] at hk
  have xl : a % 9223372036854775808 < 9223372036854775808 := Nat.mod_lt _ (by decide)
  generalize a % 9223372036854775808 = u at *
  have c1 : decide (((u : Nat) : Int) ≥ (4890909195324358656 : Int)) = true ↔ 4890909195324358656 ≤ u := by rw [decide_eq_true_iff]; omega
  generalize decide (((u : Nat) : Int) ≥ (4890909195324358656 : Int)) = d2 at *
  cases d2 with
  | true =>
    rw [if_pos rfl]
    rw [if_pos (c1.1 rfl)] at hk
    cases d1 with
    | true => rw [if_pos rfl]; rw [if_pos (j1.1 rfl)] at hk; exact hk
    | false => rw [if_neg (by decide)]; rw [if_neg (fun e => by have := j1.2 e; cases this)] at hk; exact hk
  | false =>
  rw [if_neg (by decide)]
  have hu : ¬ 4890909195324358656 ≤ u := fun e => by have := c1.2 e; cases this
  rw [if_neg hu] at hk
  clear c1
  refine firebreakref05_parts_call (parts_ok xl ?_)
  have m1 := partsM_lt xl
  have p1 := partsE_in xl
  have p2 : partsE u ≤ 10 := by unfold partsE; split <;> omega
  generalize partsM u = m at *
  generalize partsE u = e at *
  have hp : ∀ {i : Nat}, i ≤ 10 → m * 2 ^ i ≤ m * 1024 := fun {i} hi => Nat.mul_le_mul_left m (Nat.pow_le_pow_right (n := 2) (by decide) hi)
  refine LoopW2.intro (fun n i h1 => h1 = h ∧ 0 ≤ i ∧ (i = 0 ∨ i ≤ e) ∧ n = ((m * 2 ^ i.toNat : Nat) : Int)) (fun _ i _ => (e - i).toNat) ⟨rfl, by omega, .inl rfl, by simp⟩ ?_
  rintro n i h1 ⟨rfl, i0, i1, rfl⟩
  by_cases hi : i < e
  · rw [if_pos (decide_eq_true hi), wrap64 (by omega) (by omega), wrapU64]
    have := hp (i := i.toNat) (by omega)
    refine ⟨⟨rfl, by omega, by omega, ?_⟩, by omega⟩
    rw [show (i + 1).toNat = i.toNat + 1 by omega, Nat.pow_succ, ← Nat.mul_assoc]
    omega
  · rw [if_neg (fun e => hi (of_decide_eq_true e))]
    have hN : m * 2 ^ i.toNat = m * 2 ^ e.toNat := by
      rcases i1 with rfl | i1
      · rw [show e.toNat = (0 : Int).toNat by omega]
      · rw [show i = e by omega]
    rw [hN]
    have hb := hp (i := e.toNat) (by omega)
    have hgoal : (if 0 ≤ e then m * 2 ^ e.toNat else m / 2 ^ (-e).toNat) = m * 2 ^ e.toNat / 2 ^ (-e).toNat := by
      by_cases h0 : 0 ≤ e
      · rw [if_pos h0, show (-e).toNat = 0 by omega, Nat.pow_zero, Nat.div_one]
      · rw [if_neg h0, show e.toNat = 0 by omega, Nat.pow_zero, Nat.mul_one]
    rw [hgoal] at hk
    generalize m * 2 ^ e.toNat = N at *
    refine LoopW2.intro (fun n1 i1 h2 => h2 = h1 ∧ i1 ≤ 0 ∧ (i1 = 0 ∨ e ≤ i1) ∧ n1 = ((N / 2 ^ (-i1).toNat : Nat) : Int)) (fun _ i1 _ => (i1 + 1074).toNat) ⟨rfl, by omega, .inl rfl, by simp⟩ ?_
    rintro n1 k h2 ⟨rfl, k0, k1, hn1⟩
    intro y hy
    have hle : N / 2 ^ (-k).toNat ≤ N := Nat.div_le_self _ _
    have hD : N / 2 ^ ((-k).toNat + 1) = N / 2 ^ (-k).toNat / 2 := by rw [Nat.pow_succ, Nat.div_div_eq_div_mul]
    have hz : N / 2 ^ (-k).toNat = 0 → e ≤ k → N / 2 ^ (-e).toNat = 0 := fun hz he => by
      rw [show (-e).toNat = (-k).toNat + ((-e).toNat - (-k).toNat) by omega, Nat.pow_add, ← Nat.div_div_eq_div_mul, hz, Nat.zero_div]
    cases y with
    | true =>
      have hy' := hy.symm
      rw [Bool.and_eq_true, decide_eq_true_iff, decide_eq_true_iff] at hy'
      rw [if_pos rfl, wrap64 (by omega) (by omega), wrapU64]
      generalize hg : N / 2 ^ (-k).toNat = g at *
      rw [Int.tdiv_eq_ediv_of_nonneg (by omega)]
      refine ⟨by decide, ⟨rfl, by omega, by omega, ?_⟩, by omega⟩
      rw [show (-(k - 1)).toNat = (-k).toNat + 1 by omega, hD]
      omega
    | false =>
      have hy' : ¬ (k > e ∧ n1 > 0) := fun c => by
        rw [decide_eq_true c.1, decide_eq_true c.2] at hy; cases hy
      rw [if_neg (by decide)]
      have hf : n1 = ((N / 2 ^ (-e).toNat : Nat) : Int) := by
        by_cases hk1 : k > e
        · have h0 : N / 2 ^ (-k).toNat = 0 := by
            generalize N / 2 ^ (-k).toNat = g at *
            omega
          rw [hn1, h0, hz h0 (by omega)]
        · rw [hn1, show (-k).toNat = (-e).toNat by omega]
      rw [hf]
      have hle2 : N / 2 ^ (-e).toNat ≤ N := Nat.div_le_self _ _
      generalize N / 2 ^ (-e).toNat = g at *
      rw [wrap64 (n := ((g : Nat) : Int)) (by omega) (by omega)]
      cases d1 with
      | true =>
        rw [if_pos rfl, wrap64 (by omega) (by omega), Int.zero_sub]
        rw [if_pos (j1.1 rfl)] at hk
        exact hk
      | false =>
        rw [if_neg (by decide)]
        rw [if_neg (fun e => by have := j1.2 e; cases this)] at hk
        exact hk

end
end Lf

/-
  The document's floats: quotients.
-/
namespace Lf
open Go Go.Proofs

section
variable {h : Hp} {a b : Nat}

theorem div_step {X T : Nat} (hT : 0 < T) : (T ≤ X % (2 * T) → X / T = X / (2 * T) * 2 + 1 ∧ X % T = X % (2 * T) - T) ∧ (¬ T ≤ X % (2 * T) → X / T = X / (2 * T) * 2 ∧ X % T = X % (2 * T)) := by
  have h1 := Nat.div_add_mod X (2 * T)
  have h2 := Nat.mod_lt X (show 0 < 2 * T by omega)
  generalize X % (2 * T) = r at *
  generalize X / (2 * T) = q at *
  have e : 2 * T * q = T * (q * 2) := by rw [Nat.mul_comm 2, Nat.mul_assoc, Nat.mul_comm 2]
  refine ⟨fun c => ?_, fun c => ?_⟩
  · exact (Nat.div_mod_unique hT).2 ⟨by rw [Nat.mul_add, Nat.mul_one]; omega, by omega⟩
  · exact (Nat.div_mod_unique hT).2 ⟨by omega, by omega⟩

theorem divLoop_ok {m n : Nat} {Q : Sl → Sl → Hp → Prop} {rest0 q0 : Sl} (hm : m < 2 ^ 181) (hn : 0 < n) (hn2 : n < 9007199254740992) (r0 : Nt h rest0 m) (z0 : Nt h q0 0) (hk : ∀ r q h', h ≤ h' → Nt h' r (m % n) → Nt h' q (m / n) → Q r q h') :
    LoopW3 (α1 := Sl) (α2 := Sl) (α3 := Int) (fun again rest q i h6 =>
     (if (decide (i ≥ (0 : Int))) = true then
     JoinW2 (α1 := Sl) (α2 := Sl) (fun k =>
     CallT Tryz.prog n_firebreakref05_of [(.int .u64 (n : Int))] shSl (fun r6 h7 =>
     CallT Tryz.prog n_firebreakref05_shift [r6.v, (.int .i64 i)] shSl (fun r7 h8 =>
     CallT Tryz.prog n_firebreakref05_times [q.v, (.int .u32 (2 : Int))] shSl (fun r8 h9 =>
     CallT Tryz.prog n_firebreakref05_compare [rest.v, r7.v] (shInt .i64) (fun r9 h10 =>
     (if (decide (r9 ≥ (0 : Int))) = true then
     CallT Tryz.prog n_firebreakref05_less [rest.v, r7.v] shSl (fun r10 h11 =>
     CallT Tryz.prog n_firebreakref05_of [(.int .u64 (1 : Int))] shSl (fun r11 h12 =>
     CallT Tryz.prog n_firebreakref05_sum [r8.v, r11.v] shSl (fun r12 h13 =>
     k r10 r12 h13) h12) h11) h10
     else
     k ⟨rest.base, rest.len, rest.cap⟩ r8 h10)) h9) h8) h7) h6)
     (fun rest1 q1 h7 =>
     again ⟨rest1.base, rest1.len, rest1.cap⟩ ⟨q1.base, q1.len, q1.cap⟩ (IntKind.wrap .i64 (i - (1 : Int))) h7)
     else
     Q rest q h6)) rest0 q0 (184 : Int) h := by
  have big : m < n * 2 ^ 185 := by
    have : 1 * 2 ^ 185 ≤ n * 2 ^ 185 := Nat.mul_le_mul_right _ hn
    omega
  refine LoopW3.intro (fun rest q i h6 => h ≤ h6 ∧ -1 ≤ i ∧ i ≤ 184 ∧ Nt h6 rest (m % (n * 2 ^ (i + 1).toNat)) ∧ Nt h6 q (m / (n * 2 ^ (i + 1).toNat))) (fun _ _ i _ => (i + 1).toNat) ⟨Hp.le_refl h, by omega, by omega, ?_, ?_⟩ ?_
  · rw [show ((184 : Int) + 1).toNat = 185 from rfl, Nat.mod_eq_of_lt big]; exact r0
  · rw [show ((184 : Int) + 1).toNat = 185 from rfl, Nat.div_eq_of_lt big]; exact z0
  rintro rest q i h6 ⟨hl, i0, i1, nr, nq⟩
  by_cases hi : i ≥ 0
  · rw [if_pos (decide_eq_true hi)]
    obtain ⟨j, rfl⟩ := Int.eq_ofNat_of_zero_le hi
    rw [show ((j : Int) + 1).toNat = j + 1 by omega] at nr nq
    have eT : n * 2 ^ (j + 1) = 2 * (n * 2 ^ j) := by rw [Nat.pow_succ, ← Nat.mul_assoc, Nat.mul_comm]
    have hT : 0 < n * 2 ^ j := Nat.mul_pos hn (Nat.two_pow_pos j)
    rw [eT] at nr nq
    have hS := div_step (X := m) hT
    have hmb : m < 2 ^ (32 * 8) := Nat.lt_of_lt_of_le hm (Nat.pow_le_pow_right (by decide) (by decide))
    have hTb : n * 2 ^ j < 2 ^ (32 * 8) := by
      have h1 : n * 2 ^ j < 2 ^ 53 * 2 ^ j := Nat.mul_lt_mul_of_pos_right hn2 (Nat.two_pow_pos j)
      rw [← Nat.pow_add] at h1
      exact Nat.lt_of_lt_of_le h1 (Nat.pow_le_pow_right (by decide) (by omega))
    have lr : rest.len ≤ 8 := nr.len (Nat.lt_of_le_of_lt (Nat.mod_le _ _) hmb)
    have lq : q.len ≤ 8 := nq.len (Nat.lt_of_le_of_lt (Nat.div_le_self _ _) hmb)
    obtain ⟨L, hL⟩ : ∃ L : Nat, L = 9 := ⟨9, rfl⟩
    have lqs : ∀ {x : Nat}, x ≤ m → x * 2 < 2 ^ (32 * L) := fun {x} hx => by
      obtain ⟨M, hM⟩ : ∃ M : Nat, M = 32 * 8 := ⟨_, rfl⟩
      have hx' : x < 2 ^ M := by rw [hM]; exact Nat.lt_of_le_of_lt hx hmb
      have : x * 2 < 2 ^ M * 2 := Nat.mul_lt_mul_of_pos_right hx' (by decide)
      rw [← Nat.pow_succ] at this
      exact Nat.lt_of_lt_of_le this (Nat.pow_le_pow_right (by decide) (by omega))
    have lq2 := lqs (Nat.div_le_self m (2 * (n * 2 ^ j)))
    refine JoinW2.intro (fun r1 q1 h7 => h ≤ h7 ∧ Nt h7 r1 (m % (n * 2 ^ j)) ∧ Nt h7 q1 (m / (n * 2 ^ j))) ?_ ?_
    · refine firebreakref05_of_call (of_ok (Int.natCast_nonneg _) (by clear hm hmb hTb big lqs lq2; omega) fun r6 h7 l7 n6 => ?_)
      rw [Int.toNat_natCast] at n6
      refine firebreakref05_shift_call (shift_ok n6 (Nat.lt_of_le_of_lt (n6.len (L := 2) (by clear hm hmb hTb big lqs lq2; omega)) (by decide)) (by clear hm hmb hTb big lqs lq2; omega) fun r7 h8 l8 n7 => ?_)
      refine firebreakref05_times_call (times_nt (nq.mono (Hp.le_trans l7 l8)) (by clear hm hmb hTb big lqs lq2; omega) (by decide) (by decide) fun r8 h9 l9 n8 => ?_)
      have l69 := Hp.le_trans l7 (Hp.le_trans l8 l9)
      have l7b := n7.len hTb
      refine firebreakref05_compare_call (compare_ok (nr.mono l69) (n7.mono l9) (by clear hm hmb hTb big lqs lq2; omega) (by clear hm hmb hTb big lqs lq2; omega) ?_)
      by_cases c : n * 2 ^ j ≤ m % (2 * (n * 2 ^ j))
      · obtain ⟨e1, e2⟩ := hS.1 c
        rw [if_pos (by unfold cmpN; rw [if_neg (Nat.not_lt.2 c)]; split <;> decide)]
        refine firebreakref05_less_call (less_ok (nr.mono l69) (n7.mono l9) (by clear hm hmb hTb big lqs lq2; omega) c fun r10 h11 l11 n10 => ?_)
        refine firebreakref05_of_call (of_ok (by decide) (by decide) fun r11 h12 l12 n11 => ?_)
        refine firebreakref05_sum_call (sum_ok (n8.mono (Hp.le_trans l11 l12)) n11 (Nat.lt_of_le_of_lt (n8.len lq2) (by omega)) (Nat.lt_of_le_of_lt (n11.len (L := 1) (by decide)) (by decide)) fun r12 h13 l13 n12 => ?_)
        refine ⟨Hp.le_trans hl (Hp.le_trans l69 (Hp.le_trans l11 (Hp.le_trans l12 l13))), ?_, ?_⟩
        · rw [e2]; exact n10.mono (Hp.le_trans l12 l13)
        · rw [e1]; exact n12
      · obtain ⟨e1, e2⟩ := hS.2 c
        rw [if_neg (by unfold cmpN; rw [if_pos (Nat.lt_of_not_le c)]; decide)]
        refine ⟨Hp.le_trans hl l69, ?_, ?_⟩
        · rw [e2]; exact nr.mono l69
        · rw [e1]; exact n8
    · rintro r1 q1 h7 ⟨g1, g2, g3⟩
      clear hm hmb hTb big lqs lq2
      rw [wrap64 (by omega) (by omega)]
      refine ⟨⟨g1, by omega, by omega, ?_, ?_⟩, by omega⟩
      · rw [show ((j : Int) - 1 + 1).toNat = j by omega]; exact g2
      · rw [show ((j : Int) - 1 + 1).toNat = j by omega]; exact g3
  · rw [if_neg (fun e => hi (of_decide_eq_true e))]
    rw [show (i + 1).toNat = 0 by omega, Nat.pow_zero, Nat.mul_one] at nr nq
    exact hk rest q h6 hl nr nq

end
end Lf

/-
  The document's floats: quotients, and what an instruction tells.
-/
namespace Lf
open Go Go.Proofs

section
variable {h : Hp} {a b : Nat}

theorem nt_pos {s : Sl} {x : Nat} (n : Nt h s x) : decide (((s.len : Nat) : Int) > (0 : Int)) = decide (0 < x) := by
  have := n.zero
  by_cases c : x = 0
  · rw [decide_eq_false (by omega), decide_eq_false (by omega)]
  · rw [decide_eq_true (by omega), decide_eq_true (by omega)]

theorem m128 {m : Nat} (hm : m < 9007199254740992) : m * 2 ^ 128 < 2 ^ 181 := by omega

theorem divD_ok {Q : Int → Hp → Prop} (ha : a < 18446744073709551616) (hb : b < 18446744073709551616) (hk : ∀ h', h ≤ h' → Q ((divD a b : Nat) : Int) h') : firebreakref05_div_w Tryz.prog (a : Int) (b : Int) Q h := by
  unfold firebreakref05_div_w
  rw [andNot_sign ha, andNot_sign hb, xor_sign ha hb]
  intro y hy y1 hy1 y2 hy2 y3 hy3 y4 hy4
  unfold divD at hk
  simp only [isNaND_iff] at hk
  have xl : a % 9223372036854775808 < 9223372036854775808 := Nat.mod_lt _ (by decide)
  have yl : b % 9223372036854775808 < 9223372036854775808 := Nat.mod_lt _ (by decide)
  generalize a % 9223372036854775808 = u at *
  generalize b % 9223372036854775808 = v at *
  have c4 : y4 = true ↔ (9218868437227405312 < u ∨ 9218868437227405312 < v ∨ (u = 9218868437227405312 ∧ v = 9218868437227405312) ∨ (u = 0 ∧ v = 0)) := by
    rw [hy4, hy3, hy2, hy1, hy]
    simp only [Bool.or_eq_true, Bool.and_eq_true, decide_eq_true_eq, beq_iff_eq]
    omega
  clear hy4 hy3 hy2 hy1 hy
  cases y4 with
  | true =>
    rw [if_pos rfl]
    rw [if_pos (c4.1 rfl)] at hk
    exact hk h (Hp.le_refl h)
  | false =>
  rw [if_neg (by decide)]
  rw [if_neg (fun e => by have := c4.2 e; cases this)] at hk
  intro y5 hy5
  have c5 : y5 = true ↔ (u = 9218868437227405312 ∨ v = 0) := by
    rw [hy5]
    simp only [Bool.or_eq_true, beq_iff_eq]
    omega
  clear hy5
  cases y5 with
  | true =>
    rw [if_pos rfl, show bitsI .or .u64 ((sgn (negD a ^^ negD b) : Nat) : Int) (9218868437227405312 : Int) = _ from or_sign (a := 9218868437227405312) (by decide)]
    rw [if_pos (c5.1 rfl)] at hk
    exact hk h (Hp.le_refl h)
  | false =>
  rw [if_neg (by decide)]
  rw [if_neg (fun e => by have := c5.2 e; cases this)] at hk
  intro y6 hy6
  have c6 : y6 = true ↔ (v = 9218868437227405312 ∨ u = 0) := by
    rw [hy6]
    simp only [Bool.or_eq_true, beq_iff_eq]
    omega
  clear hy6
  cases y6 with
  | true =>
    rw [if_pos rfl]
    rw [if_pos (c6.1 rfl)] at hk
    exact hk h (Hp.le_refl h)
  | false =>
  rw [if_neg (by decide)]
  rw [if_neg (fun e => by have := c6.2 e; cases this)] at hk
  have v0 : v ≠ 0 := fun e => by have := c5.2 (.inr e); cases this
  have v1 : v < 9218868437227405312 := by
    have n1 : ¬ 9218868437227405312 < v := fun e => by have := c4.2 (.inr (.inl e)); cases this
    have n2 : ¬ v = 9218868437227405312 := fun e => by have := c6.2 (.inl e); cases this
    omega
  have vm : 0 < partsM v := Nat.pos_of_ne_zero fun e => v0 ((partsM_zero v1).1 e)
  clear c4 c5 c6
  have m1 := partsM_lt xl
  have m2 := partsM_lt yl
  have p1 := partsE_in xl
  have p2 := partsE_in yl
  refine firebreakref05_parts_call (parts_ok xl ?_)
  refine firebreakref05_parts_call (parts_ok yl ?_)
  refine firebreakref05_of_call (of_ok (Int.natCast_nonneg _) (by omega) fun r4 h3 l3 n3 => ?_)
  rw [Int.toNat_natCast] at n3
  refine firebreakref05_shift_call (shift_ok (n := 128) n3 (Nat.lt_of_le_of_lt (n3.len (L := 2) (by omega)) (by decide)) (by decide) fun r5 h4 l4 n4 => ?_)
  refine nil32 fun a1 h5 l5 o5 => ?_
  have z0 : Nt h5 ⟨some a1, 0, 0⟩ 0 := O32.nt o5 (fun _ hx => (by cases hx)) rfl (by simp)
  refine divLoop_ok (Q := fun rest q h6 => CallT Tryz.prog n_firebreakref05_rounded [(.int .u64 ((sgn (negD a ^^ negD b) : Nat) : Int)), q.v, (.int .i64 (IntKind.wrap .i64 ((IntKind.wrap .i64 (partsE u - partsE v)) - (128 : Int)))), (.bool (decide (((rest.len : Nat) : Int) > (0 : Int))))] (shInt .u64) (fun r6 h7 => Q r6 h7) h6) (m128 m1) vm m2 (n4.mono l5) z0 fun r q h6 l6 nr nq => ?_
  rw [wrap64 (n := partsE u - partsE v) (by omega) (by omega), wrap64 (by omega) (by omega), nt_pos nr]
  refine firebreakref05_rounded_call (rounded_ok nq (Nat.lt_of_le_of_lt (nq.len (L := 6) (Nat.lt_of_le_of_lt (Nat.div_le_self _ _) (Nat.lt_of_lt_of_le (m128 m1) (Nat.pow_le_pow_right (by decide) (by decide))))) (by decide)) (by omega) (by omega) fun h7 l7 => hk h7 (Hp.le_trans l3 (Hp.le_trans l4 (Hp.le_trans l5 (Hp.le_trans l6 l7)))))

theorem wrap_nat (x : Int) : IntKind.wrap .u64 x = (((IntKind.wrap .u64 x).toNat : Nat) : Int) ∧ (IntKind.wrap .u64 x).toNat < 18446744073709551616 := by rw [wrapU64]; omega

theorem flip_sign {y : Nat} (hy : y < 18446744073709551616) : bitsI .xor .u64 (y : Int) (9223372036854775808 : Int) = (((if 9223372036854775808 ≤ y then y - 9223372036854775808 else y + 9223372036854775808) : Nat) : Int) := by
  have e : bitsI .xor .u64 (y : Int) (9223372036854775808 : Int) = ((y ^^^ 2 ^ 63 : Nat) : Int) := by
    unfold bitsI
    dsimp only
    have : y ^^^ 2 ^ 63 < 2 ^ 64 := Nat.xor_lt_two_pow hy (by decide)
    rw [u64_bits, BitVec.toNat_xor, ofInt64 hy, show (BitVec.ofInt 64 9223372036854775808).toNat = 2 ^ 63 by decide, wrapN (by omega)]
  rw [e]
  have key : y ^^^ 2 ^ 63 = if 9223372036854775808 ≤ y then y - 9223372036854775808 else y + 9223372036854775808 := by
    refine Nat.eq_of_testBit_eq fun i => ?_
    rw [Nat.testBit_xor, Nat.testBit_two_pow]
    by_cases c : 9223372036854775808 ≤ y
    · rw [if_pos c]
      obtain ⟨z, rfl⟩ : ∃ z, y = 2 ^ 63 + z := ⟨y - 2 ^ 63, by omega⟩
      have hz : z < 2 ^ 63 := by omega
      rw [show 2 ^ 63 + z - 9223372036854775808 = z by omega]
      by_cases hi : 63 = i
      · subst hi
        rw [Nat.testBit_two_pow_add_eq, Nat.testBit_lt_two_pow hz]; rfl
      · rw [decide_eq_false hi, Bool.xor_false]
        rcases Nat.lt_or_ge i 63 with h1 | h1
        · rw [Nat.testBit_two_pow_add_gt h1]
        · rw [Nat.testBit_lt_two_pow (Nat.lt_of_lt_of_le (show 2 ^ 63 + z < 2 ^ 64 by omega) (Nat.pow_le_pow_right (by decide) (by omega))), Nat.testBit_lt_two_pow (Nat.lt_of_lt_of_le hz (Nat.pow_le_pow_right (by decide) h1))]
    · rw [if_neg c]
      have hz : y < 2 ^ 63 := by omega
      rw [show y + 9223372036854775808 = 2 ^ 63 + y by omega]
      by_cases hi : 63 = i
      · subst hi
        rw [Nat.testBit_two_pow_add_eq, Nat.testBit_lt_two_pow hz]; rfl
      · rw [decide_eq_false hi, Bool.xor_false]
        rcases Nat.lt_or_ge i 63 with h1 | h1
        · rw [Nat.testBit_two_pow_add_gt h1]
        · rw [Nat.testBit_lt_two_pow (Nat.lt_of_lt_of_le hz (Nat.pow_le_pow_right (by decide) h1)), Nat.testBit_lt_two_pow (Nat.lt_of_lt_of_le (show 2 ^ 63 + y < 2 ^ 64 by omega) (Nat.pow_le_pow_right (by decide) (by omega)))]
  rw [key]

theorem refFlt_ok {op b c : Int} {Q : Int → Int → Hp → Prop} (b0 : -9223372036854775808 ≤ b) (b1 : b < 9223372036854775808) (hop : 15 ≤ op ∧ op ≤ 21) (hk : ∀ h', h ≤ h' → Q (fltD op b c) 0 h') : firebreakref05_Do_w Tryz.prog op b c Q h := by
  unfold firebreakref05_Do_w
  obtain ⟨ex, lx⟩ := wrap_nat b
  obtain ⟨ey, ly⟩ := wrap_nat c
  unfold fltD at hk
  dsimp only at hk
  rw [ex, ey]
  rw [← ex] at ex
  generalize (IntKind.wrap .u64 b).toNat = x at *
  generalize (IntKind.wrap .u64 c).toNat = y at *
  rcases (show op = 15 ∨ op = 16 ∨ op = 17 ∨ op = 18 ∨ op = 19 ∨ op = 20 ∨ op = 21 by omega) with rfl | rfl | rfl | rfl | rfl | rfl | rfl
  · exact firebreakref05_add_call (add_ok lx ly fun h' hl => hk h' hl)
  · refine firebreakref05_isNaN_call (isNaN_ok ly ?_)
    have hk' : ∀ h', h ≤ h' → Q (if isNaND y then IntKind.wrap .i64 9221120237041090560 else IntKind.wrap .i64 (addD x (if 9223372036854775808 ≤ y then y - 9223372036854775808 else y + 9223372036854775808) : Int)) 0 h' := hk
    cases hn : isNaND y with
    | true =>
      rw [if_pos rfl]
      rw [if_pos hn] at hk'
      exact hk' h (Hp.le_refl h)
    | false =>
      rw [if_neg (by decide), flip_sign ly]
      rw [if_neg (by rw [hn]; decide)] at hk'
      exact firebreakref05_add_call (add_ok lx (by split <;> omega) fun h' hl => hk' h' hl)
  · exact firebreakref05_mul_call (mul_ok lx ly fun h' hl => hk h' hl)
  · exact firebreakref05_div_call (divD_ok lx ly fun h' hl => hk h' hl)
  · exact firebreakref05_below_call (below_ok lx ly (hk h (Hp.le_refl h)))
  · exact firebreakref05_float_call (floatR_ok b0 b1 fun h' hl => hk h' hl)
  · exact firebreakref05_whole_call (whole_ok lx (hk h (Hp.le_refl h)))

end
end Lf

/-
  Floats: whole numbers there and back.
-/
namespace Lf
open Ieee

theorem val_edge {k : Nat} (hk : k = 1074) : valD 4890909195324358656 = 9223372036854775808 * 2 ^ k := by
  rw [show 4890909195324358656 = (11 + k + 1) * 4503599627370496 + 0 by omega, val_at (11 + k) 0 (by omega), pow_add', ← Nat.mul_assoc, Nat.zero_add]

/-- The float of a whole number above 0. -/
theorem whole_rung {m : Nat} (h0 : m ≠ 0) (h1 : m ≤ 9223372036854775808) :
    rungD m 0 false ≤ 4890909195324358656 ∧ ∃ w, valD (rungD m 0 false) = w * 2 ^ 1074 ∧ m ≤ w + 512 ∧ w ≤ m + 512 ∧ (m ≤ 9007199254740992 → w = m) ∧ w ≤ 9223372036854775808 := by
  have hT : valD 4890909195324358656 = 9223372036854775808 * 2 ^ 1074 := val_edge (k := 1074) rfl
  have hself : ∀ E : Nat, E = 1074 → 9223372036854775808 * 2 ^ ((0 : Int) + 1074 + ((0 : Nat) : Int)).toNat = valD 4890909195324358656 * 2 ^ 0 := fun E hE => by
    rw [val_edge hE, Nat.pow_zero, Nat.mul_one, show ((0 : Int) + 1074 + ((0 : Nat) : Int)).toNat = E by omega]
  have hr : rungD m 0 false ≤ 4890909195324358656 := by
    have e : rungD 9223372036854775808 0 false = 4890909195324358656 := rung_self (K := 0) (by omega) (by omega) (by omega) (hself 1074 rfl)
    have := rung_mono (m := m) (n := 9223372036854775808) (e := 0) (f := 0) (K := 0) h0 (by omega) (by omega) (by omega) (Nat.mul_le_mul_right _ h1)
    rw [e] at this
    exact this
  refine ⟨hr, ?_⟩
  have hv := val_le hr
  rw [hT] at hv
  obtain ⟨q, u, ⟨a1, -⟩, ⟨a2, -⟩, a3, h⟩ := rung_form (e := 0) (K := 0) h0 (by omega)
  rw [show ((0 : Int) + 1074 + ((0 : Nat) : Int)).toNat = 1074 from rfl, show u + 0 = u from rfl] at a1 a2 a3
  have hp := Nat.two_pow_pos 1074
  have hval : valD (rungD m 0 false) = q * 2 ^ u := by
    rcases h with ⟨b1, b2, b3⟩ | ⟨b1, b2, b3⟩
    · rw [b3, val_small b1, b2, Nat.pow_zero, Nat.mul_one]
    · have b4 : rungD m 0 false = (u + 1) * 4503599627370496 + (q - 4503599627370496) := by omega
      rw [b4]
      rcases Nat.lt_or_ge q 9007199254740992 with c | c
      · rw [val_at u _ (by omega), Nat.sub_add_cancel b1]
      · have c : q = 9007199254740992 := by omega
        subst c
        rw [show (u + 1) * 4503599627370496 + (9007199254740992 - 4503599627370496) = (u + 1 + 1) * 4503599627370496 + 0 by omega, val_at (u + 1) 0 (by omega), Nat.pow_succ]
        generalize 2 ^ u = g
        omega
  rw [hval] at hv ⊢
  have hu : u ≤ 1085 ∧ (m < 9223372036854775808 → u ≤ 1084) ∧ (m ≤ 9007199254740992 → u ≤ 1075) ∧ (m < 9007199254740992 → u ≤ 1074) := by
    rcases a3 with a3 | a3
    · omega
    · have key : ∀ k, m < 2 ^ k → u + 52 < k + 1074 := fun k hk => by
        have h2 : 2 ^ (u + 52) < 2 ^ (k + 1074) := by
          rw [pow_add', pow_add', show (2 : Nat) ^ 52 = 4503599627370496 by decide, Nat.mul_comm (2 ^ u)]
          exact Nat.lt_of_le_of_lt a3 (Nat.mul_lt_mul_of_pos_right hk hp)
        exact (Nat.pow_lt_pow_iff_right (by decide)).1 h2
      have k1 := key 64 (by omega)
      refine ⟨by omega, fun hm => ?_, fun hm => ?_, fun hm => ?_⟩
      · have := key 63 (by omega); omega
      · have := key 54 (by omega); omega
      · have := key 53 (by omega); omega
  rcases Nat.lt_or_ge u 1074 with hlt | hge
  · obtain ⟨d, hd⟩ : ∃ d, 1074 = u + d := ⟨1074 - u, by omega⟩
    have hP := Nat.two_pow_pos u
    have e1 : 2 * (m * 2 ^ 1074) = 2 * (m * 2 ^ d) * 2 ^ u := by rw [hd, pow_add', Nat.mul_comm (2 ^ u), ← Nat.mul_assoc, ← Nat.mul_assoc, ← Nat.mul_assoc, Nat.mul_assoc]
    rw [e1] at a1 a2
    have b1 := Nat.le_of_mul_le_mul_right a1 hP
    have b2 := Nat.le_of_mul_le_mul_right a2 hP
    have b3 : q = m * 2 ^ d := by omega
    refine ⟨m, ?_, by omega, by omega, fun _ => rfl, h1⟩
    rw [b3, hd, pow_add', Nat.mul_comm (2 ^ u), ← Nat.mul_assoc]
  · obtain ⟨d, hd⟩ : ∃ d, u = d + 1074 := ⟨u - 1074, by omega⟩
    rw [hd, pow_add'] at a1 a2 hv ⊢
    rw [← Nat.mul_assoc 2, ← Nat.mul_assoc (2 * q + 1)] at a1
    rw [← Nat.mul_assoc 2, ← Nat.mul_assoc (2 * q - 1)] at a2
    rw [← Nat.mul_assoc] at hv ⊢
    have b1 := Nat.le_of_mul_le_mul_right a1 hp
    have b2 := Nat.le_of_mul_le_mul_right a2 hp
    have b3 := Nat.le_of_mul_le_mul_right hv hp
    have e2 : (2 * q + 1) * 2 ^ d = 2 * (q * 2 ^ d) + 2 ^ d := by rw [Nat.succ_mul, Nat.mul_assoc]
    have e3 : (2 * q - 1) * 2 ^ d = 2 * (q * 2 ^ d) - 2 ^ d := by rw [Nat.sub_mul, Nat.mul_assoc, Nat.one_mul]
    rw [e2] at b1
    rw [e3] at b2
    refine ⟨q * 2 ^ d, rfl, ?_, ?_, ?_, b3⟩
    · by_cases hm : m < 9223372036854775808
      · have : 2 ^ d ≤ 2 ^ 10 := Nat.pow_le_pow_right (by decide) (by omega)
        omega
      · have : 2 ^ d ≤ 2 ^ 11 := Nat.pow_le_pow_right (by decide) (by omega)
        have e4 : 2 ^ 52 * 2 ^ 11 = 9223372036854775808 := by decide
        rcases a3 with a3 | a3
        · omega
        · have hq : 4503599627370496 ≤ q := by
            rcases h with ⟨c1, c2, c3⟩ | ⟨c1, c2, c3⟩
            · omega
            · exact c1
          rcases Nat.lt_or_ge d 11 with hd' | hd'
          · have : 2 ^ d ≤ 2 ^ 10 := Nat.pow_le_pow_right (by decide) (by omega)
            omega
          · have : d = 11 := by omega
            subst this
            omega
    · by_cases hm : m < 9223372036854775808
      · have : 2 ^ d ≤ 2 ^ 10 := Nat.pow_le_pow_right (by decide) (by omega)
        omega
      · omega
    · intro hm
      by_cases hm' : m < 9007199254740992
      · have : d = 0 := by have := hu.2.2.2 hm'; omega
        subst this
        rw [Nat.pow_zero] at *
        omega
      · have : d ≤ 1 := by have := hu.2.2.1 hm; omega
        have hq : 4503599627370496 ≤ q := by
          rcases h with ⟨c1, c2, c3⟩ | ⟨c1, c2, c3⟩
          · omega
          · exact c1
        rcases (show d = 0 ∨ d = 1 by omega) with rfl | rfl
        · rw [Nat.pow_zero] at *
          omega
        · rw [Nat.pow_one] at *
          omega

/-- The rung of a whole number. -/
def rungN (m : Nat) : Nat := if m = 0 then 0 else rungD m 0 false

theorem toFloatD_eq {n : Int} : toFloatD n = sgn (decide (n < 0)) + rungN n.natAbs := by
  unfold toFloatD roundedD rungN
  split <;> rfl

theorem rungN_le {m : Nat} (h1 : m ≤ 9223372036854775808) : rungN m ≤ 4890909195324358656 := by
  unfold rungN
  split
  · omega
  · rename_i h; exact (whole_rung h h1).1

theorem rungN_val {m : Nat} (h1 : m ≤ 9223372036854775808) : ∃ w, valD (rungN m) = w * 2 ^ 1074 ∧ m ≤ w + 512 ∧ w ≤ m + 512 ∧ (m ≤ 9007199254740992 → w = m) ∧ w ≤ 9223372036854775808 := by
  unfold rungN
  split
  · rename_i h
    exact ⟨0, by simp only [val_zero, Nat.zero_mul], by omega, by omega, fun _ => h.symm, by omega⟩
  · rename_i h; exact (whole_rung h h1).2

theorem rungN_mono {m n : Nat} (h : m ≤ n) : rungN m ≤ rungN n := by
  unfold rungN
  split
  · omega
  · rw [if_neg (by omega)]
    exact rung_mono (K := 0) (by omega) (by omega) (by omega) (by omega) (Nat.mul_le_mul_right _ h)

theorem rungN_lt {m n : Nat} (h : m < n) (hn : n ≤ 9007199254740992) : rungN m < rungN n := by
  have h1 := rungN_mono (Nat.le_of_lt h)
  rcases Nat.lt_or_eq_of_le h1 with h2 | h2
  · exact h2
  · exfalso
    obtain ⟨w, a1, -, -, a2, -⟩ := rungN_val (m := m) (by omega)
    obtain ⟨v, b1, -, -, b2, -⟩ := rungN_val (m := n) (by omega)
    have a2 := a2 (by omega)
    have b2 := b2 hn
    rw [h2, b1] at a1
    have := Nat.eq_of_mul_eq_mul_right (Nat.two_pow_pos 1074) a1
    omega

theorem rz_whole {n : Int} (h1 : -9223372036854775808 ≤ n) (h2 : n < 9223372036854775808) : toFloatD n < 18446744073709551616 ∧ toFloatD n % 9223372036854775808 = rungN n.natAbs ∧ negD (toFloatD n) = decide (n < 0) ∧ rzD (toFloatD n) = if n < 0 then -(rungN n.natAbs : Int) else rungN n.natAbs := by
  have hl := rungN_le (m := n.natAbs) (by omega)
  rw [toFloatD_eq]
  have key : ∀ s : Bool, sgn s + rungN n.natAbs < 18446744073709551616 ∧ (sgn s + rungN n.natAbs) % 9223372036854775808 = rungN n.natAbs ∧ negD (sgn s + rungN n.natAbs) = s := fun s => by
    unfold negD
    cases s with
    | true =>
      rw [show sgn true = 9223372036854775808 from rfl]
      exact ⟨by omega, by omega, decide_eq_true (by omega)⟩
    | false =>
      rw [show sgn false = 0 from rfl]
      exact ⟨by omega, by omega, decide_eq_false (by omega)⟩
  obtain ⟨k1, k2, k3⟩ := key (decide (n < 0))
  refine ⟨k1, k2, k3, ?_⟩
  unfold rzD
  rw [k2, k3]
  by_cases h : n < 0
  · rw [if_pos (decide_eq_true h), if_pos h]
  · rw [if_neg (by simpa using h), if_neg h]

theorem whole_nn {n : Int} (h1 : -9223372036854775808 ≤ n) (h2 : n < 9223372036854775808) : ¬ isNaND (toFloatD n) = true := by
  have hl := rungN_le (m := n.natAbs) (by omega)
  have := (rz_whole h1 h2).2.1
  exact nan_not (by omega)

/-- A whole number, there and back. -/
theorem whole_back {n : Int} (h1 : -9223372036854775808 ≤ n) (h2 : n < 9223372036854775808) :
    (-9007199254740992 ≤ n ∧ n ≤ 9007199254740992 → wholeD (toFloatD n) = n) ∧ wholeD (toFloatD n) - n ≤ 512 ∧ n - wholeD (toFloatD n) ≤ 512 ∧ -9223372036854775808 ≤ wholeD (toFloatD n) ∧ wholeD (toFloatD n) < 9223372036854775808 := by
  have hl := rungN_le (m := n.natAbs) (by omega)
  obtain ⟨a1, a2, a3, -⟩ := rz_whole h1 h2
  have nn := whole_nn h1 h2
  have hs : 9223372036854775808 ≤ toFloatD n ↔ n < 0 := by
    have : decide (9223372036854775808 ≤ toFloatD n) = decide (n < 0) := a3
    exact decide_eq_decide.1 this
  obtain ⟨w, b1, b2, b3, b4, b5⟩ := rungN_val (m := n.natAbs) (by omega)
  unfold wholeD
  dsimp only
  rw [if_neg nn, a2]
  by_cases hT : 4890909195324358656 ≤ rungN n.natAbs
  · rw [if_pos hT]
    have hT : rungN n.natAbs = 4890909195324358656 := by omega
    have hw : w = 9223372036854775808 := by
      have e1 : valD 4890909195324358656 = 9223372036854775808 * 2 ^ 1074 := val_edge (k := 1074) rfl
      rw [hT, e1] at b1
      exact (Nat.eq_of_mul_eq_mul_right (Nat.two_pow_pos 1074) b1).symm
    by_cases hn : n < 0
    · rw [if_pos (hs.2 hn)]
      omega
    · rw [if_neg (fun h => hn (hs.1 h))]
      omega
  · rw [if_neg hT]
    have hw : (if 0 ≤ partsE (rungN n.natAbs) then partsM (rungN n.natAbs) * 2 ^ (partsE (rungN n.natAbs)).toNat else partsM (rungN n.natAbs) / 2 ^ (-partsE (rungN n.natAbs)).toNat) = w := by
      unfold valD at b1
      have hE := partsE_ge (rungN n.natAbs)
      generalize partsE (rungN n.natAbs) = E at *
      generalize partsM (rungN n.natAbs) = M at *
      by_cases hE0 : 0 ≤ E
      · rw [if_pos hE0]
        rw [show (E + 1074).toNat = E.toNat + 1074 by omega, pow_add', ← Nat.mul_assoc] at b1
        exact Nat.eq_of_mul_eq_mul_right (Nat.two_pow_pos 1074) b1
      · rw [if_neg hE0]
        obtain ⟨d, hd⟩ : ∃ d : Nat, -E = d := ⟨(-E).toNat, by omega⟩
        rw [show (-E).toNat = d by omega]
        rw [show 1074 = d + (E + 1074).toNat by omega, pow_add', ← Nat.mul_assoc] at b1
        have b1' : M = w * 2 ^ d := Nat.eq_of_mul_eq_mul_right (Nat.two_pow_pos (E + 1074).toNat) b1
        rw [b1', Nat.mul_div_cancel _ (Nat.two_pow_pos d)]
    have hw63 : w < 9223372036854775808 := by
      have e1 : valD 4890909195324358656 = 9223372036854775808 * 2 ^ 1074 := val_edge (k := 1074) rfl
      have := val_lt (show rungN n.natAbs < 4890909195324358656 by omega)
      rw [e1, b1] at this
      have fin : ∀ E w : Nat, w * 2 ^ E < 9223372036854775808 * 2 ^ E → w < 9223372036854775808 := fun E w h => Nat.lt_of_mul_lt_mul_right h
      exact fin 1074 w this
    rw [hw]
    by_cases hn : n < 0
    · rw [if_pos (hs.2 hn)]
      omega
    · rw [if_neg (fun h => hn (hs.1 h))]
      omega

/-- Which of two is below hangs on the numbers alone. -/
theorem whole_below {n m : Int} (h1 : -9223372036854775808 ≤ n) (h2 : n < 9223372036854775808) (k1 : -9223372036854775808 ≤ m) (k2 : m < 9223372036854775808) :
    (n ≤ m → belowD (toFloatD m) (toFloatD n) ≠ 1) ∧ (n < m → -9007199254740992 ≤ n → m ≤ 9007199254740992 → belowD (toFloatD n) (toFloatD m) = 1) := by
  obtain ⟨a1, -, -, a4⟩ := rz_whole h1 h2
  obtain ⟨b1, -, -, b4⟩ := rz_whole k1 k2
  rw [ne_eq, below_rz b1 a1 (whole_nn k1 k2) (whole_nn h1 h2), below_rz a1 b1 (whole_nn h1 h2) (whole_nn k1 k2), a4, b4]
  refine ⟨fun h => ?_, fun h l1 l2 => ?_⟩
  · by_cases hn : n < 0 <;> by_cases hm : m < 0
    · rw [if_pos hn, if_pos hm]
      have := rungN_mono (m := m.natAbs) (n := n.natAbs) (by omega)
      omega
    · rw [if_pos hn, if_neg hm]
      omega
    · omega
    · rw [if_neg hn, if_neg hm]
      have := rungN_mono (m := n.natAbs) (n := m.natAbs) (by omega)
      omega
  · by_cases hn : n < 0 <;> by_cases hm : m < 0
    · rw [if_pos hn, if_pos hm]
      have := rungN_lt (m := m.natAbs) (n := n.natAbs) (by omega) (by omega)
      omega
    · rw [if_pos hn, if_neg hm]
      have := rungN_lt (m := 0) (n := n.natAbs) (by omega) (by omega)
      omega
    · omega
    · rw [if_neg hn, if_neg hm]
      have := rungN_lt (m := n.natAbs) (n := m.natAbs) (by omega) (by omega)
      omega
end Lf

/-
  Floats: what the statements ask.
-/
namespace Lf
open Go Go.Proofs

/-- A number's bits; bits as a number. -/
def uN (a : Int) : Nat := (IntKind.wrap .u64 a).toNat
def iN (w : Nat) : Int := IntKind.wrap .i64 (w : Int)

theorem uN_lt (a : Int) : uN a < 18446744073709551616 := (wrap_nat a).2
theorem wrapI (x : Int) : IntKind.wrap .i64 x = (x + 9223372036854775808) % 18446744073709551616 - 9223372036854775808 := by
  unfold IntKind.wrap
  simp only [IntKind.signed, IntKind.bits]
  simp
  first | omega | (split <;> omega)
theorem uN_iN {w : Nat} (h : w < 18446744073709551616) : uN (iN w) = w := by unfold uN iN; rw [wrapI, wrapU64]; omega
theorem iN_uN {a : Int} (h0 : -9223372036854775808 ≤ a) (h1 : a < 9223372036854775808) : iN (uN a) = a := by unfold uN iN; rw [wrapU64, wrapI]; omega

theorem fltD_add {a b : Int} : fltD 15 a b = iN (addD (uN a) (uN b)) := rfl
theorem fltD_mul {a b : Int} : fltD 17 a b = iN (mulD (uN a) (uN b)) := rfl
theorem fltD_div {a b : Int} : fltD 18 a b = iN (divD (uN a) (uN b)) := rfl
theorem fltD_below {a b : Int} : fltD 19 a b = belowD (uN a) (uN b) := rfl
theorem fltD_float {a b : Int} : fltD 20 a b = iN (toFloatD a) := rfl
theorem fltD_whole {a b : Int} : fltD 21 a b = wholeD (uN a) := rfl
def flipN (y : Nat) : Nat := if 9223372036854775808 ≤ y then y - 9223372036854775808 else y + 9223372036854775808
theorem flipN_lt {y : Nat} (h : y < 18446744073709551616) : flipN y < 18446744073709551616 := by unfold flipN; split <;> omega
theorem fltD_sub {a b : Int} : fltD 16 a b = iN (if isNaND (uN b) = true then 9221120237041090560 else addD (uN a) (flipN (uN b))) := by
  show (if isNaND (uN b) = true then IntKind.wrap .i64 9221120237041090560 else IntKind.wrap .i64 ((addD (uN a) (flipN (uN b)) : Nat) : Int)) = _
  split <;> rfl

theorem ofInt_u (b : Int) : BitVec.ofInt 64 b = BitVec.ofInt 64 ((uN b : Nat) : Int) := by
  apply BitVec.eq_of_toNat_eq
  rw [ofInt64 (uN_lt b), BitVec.toNat_ofInt]
  unfold uN
  rw [wrapU64]
  rfl

theorem xor_flip (b : Int) : uN (bitsI .xor .i64 b (-9223372036854775808 : Int)) = flipN (uN b) := by
  have h1 := flip_sign (uN_lt b)
  have h2 : (BitVec.ofInt 64 ((uN b : Nat) : Int) ^^^ BitVec.ofInt 64 9223372036854775808).toNat = flipN (uN b) := by
    have : bitsI .xor .u64 ((uN b : Nat) : Int) (9223372036854775808 : Int) = IntKind.wrap .u64 ((BitVec.ofInt 64 ((uN b : Nat) : Int) ^^^ BitVec.ofInt 64 9223372036854775808).toNat : Int) := rfl
    rw [this, wrapN (BitVec.isLt _)] at h1
    exact Int.ofNat_inj.1 h1
  have h3 : bitsI .xor .i64 b (-9223372036854775808 : Int) = iN (flipN (uN b)) := by
    rw [← h2, ← ofInt_u]
    rfl
  rw [h3, uN_iN (flipN_lt (uN_lt b))]

theorem andNot_mod (a : Int) : bitsI .andNot .i64 a (-9223372036854775808 : Int) = ((uN a % 9223372036854775808 : Nat) : Int) := by
  have h1 := andNot_sign (uN_lt a)
  have h2 : (BitVec.ofInt 64 ((uN a : Nat) : Int) &&& ~~~ BitVec.ofInt 64 9223372036854775808).toNat = uN a % 9223372036854775808 := by
    have : bitsI .andNot .u64 ((uN a : Nat) : Int) (9223372036854775808 : Int) = IntKind.wrap .u64 ((BitVec.ofInt 64 ((uN a : Nat) : Int) &&& ~~~ BitVec.ofInt 64 9223372036854775808).toNat : Int) := rfl
    rw [this, wrapN (BitVec.isLt _)] at h1
    exact Int.ofNat_inj.1 h1
  have h3 : bitsI .andNot .i64 a (-9223372036854775808 : Int) = iN (uN a % 9223372036854775808) := by
    rw [← h2, ← ofInt_u]
    rfl
  rw [h3]
  unfold iN
  rw [wrap64 (by omega) (by omega)]

section
variable {h : Hp}

theorem do_ok {op b c : Int} {Q : Int → Hp → Prop} (hop : 15 ≤ op ∧ op ≤ 21) (hq : Q (fltD op b c) h) : firebreaklaw05_do_w Tryz.prog op b c Q h := by
  unfold firebreaklaw05_do_w
  refine flt_Do_call (fltDo_ok (fun _ => ?_) fun hh => absurd hop hh)
  rw [flt_doc]
  exact hq

theorem lawNaN_ok {a : Int} {Q : Bool → Hp → Prop} (hq : Q (isNaND (uN a)) h) : firebreaklaw05_isNaN_w Tryz.prog a Q h := by
  unfold firebreaklaw05_isNaN_w
  have e : decide ((bitsI .andNot .u64 (IntKind.wrap .u64 a) (9223372036854775808 : Int)) > (9218868437227405312 : Int)) = isNaND (uN a) := by
    rw [(wrap_nat a).1, show (IntKind.wrap .u64 a).toNat = uN a from rfl, andNot_sign (uN_lt a)]
    unfold isNaND
    exact decide_eq_decide.2 (by omega)
  rw [e]
  exact hq

theorem refOther_ok {op b c : Int} {Q : Int → Int → Hp → Prop} (hop : ¬ (15 ≤ op ∧ op ≤ 21)) (hq : Q 0 9 h) : firebreakref05_Do_w Tryz.prog op b c Q h := by
  unfold firebreakref05_Do_w
  have ne : ∀ n : Int, 15 ≤ n → n ≤ 21 → ¬ ((op == n) = true) := fun n h0 h1 hh => by
    have := beq_iff_eq.1 hh
    omega
  exact iteF (ne 15 (by decide) (by decide)) (iteF (ne 16 (by decide) (by decide)) (iteF (ne 17 (by decide) (by decide)) (iteF (ne 18 (by decide) (by decide)) (iteF (ne 19 (by decide) (by decide)) (iteF (ne 20 (by decide) (by decide)) (iteF (ne 21 (by decide) (by decide)) hq))))))

/-- The program and the document: the same. -/
theorem both_ok {op b c : Int} {K : Int → Int → Int → Int → Hp → Prop} (b0 : -9223372036854775808 ≤ b) (b1 : b < 9223372036854775808) (hk : ∀ x e h', h ≤ h' → K x e x e h') :
    Call2 Tryz.prog n_flt_Do [(.int .i64 op), (.int .i64 b), (.int .i64 c)] (shInt .i64) (shInt .i64) (fun r r1 h1 => Call2 Tryz.prog n_firebreakref05_Do [(.int .i64 op), (.int .i64 b), (.int .i64 c)] (shInt .i64) (shInt .i64) (fun r2 r3 h2 => K r r1 r2 r3 h2) h1) h := by
  by_cases hop : 15 ≤ op ∧ op ≤ 21
  · refine flt_Do_call (fltDo_ok (fun _ => ?_) fun hh => absurd hop hh)
    rw [flt_doc]
    exact firebreakref05_Do_call (refFlt_ok b0 b1 hop fun h' hl => hk _ _ h' hl)
  · exact flt_Do_call (fltDo_ok (fun hh => absurd hh hop) fun _ => firebreakref05_Do_call (refOther_ok hop (hk _ _ h (Hp.le_refl h))))

theorem fltNames_ok {Q : Bool → Hp → Prop} (env : FEnv h) (hq : ∀ h', h ≤ h' → Q true h') : firebreaklaw05_FltNames_w Tryz.prog Q h := by
  unfold firebreaklaw05_FltNames_w
  exact effT (firebreaklaw05_fixed_call (fixed_ok env fun h' hl => letW (hq h' hl)))

theorem fltDoes_ok {op b c : Int} {Q : Bool → Hp → Prop} (env : FEnv h) (_ : -9223372036854775808 ≤ op ∧ op ≤ 9223372036854775807) (hb : -9223372036854775808 ≤ b ∧ b ≤ 9223372036854775807) (hc : -9223372036854775808 ≤ c ∧ c ≤ 9223372036854775807) (hq : ∀ h', h ≤ h' → Q true h') : firebreaklaw05_FltDoes_w Tryz.prog op b c Q h := by
  unfold firebreaklaw05_FltDoes_w
  have same : ∀ {x e : Int}, ((x != x) || (e != e)) = false := fun {x e} => by simp
  refine both_ok hb.1 (by omega) fun x e h1 l1 => letW ?_
  rw [same]
  refine iteF (by decide) (LoopW1.intro (fun k h' => h ≤ h' ∧ 14 ≤ k ∧ k ≤ 23) (fun k _ => (23 - k).toNat) ⟨l1, by decide, by decide⟩ ?_)
  rintro k h2 ⟨l2, k0, k1⟩
  by_cases hk : k ≤ 22
  · refine iteT (decide_eq_true hk) (both_ok hb.1 (by omega) fun x e h3 l3 => letW ?_)
    rw [same]
    refine iteF (by decide) (both_ok hc.1 (by omega) fun x e h4 l4 => letW ?_)
    rw [same]
    refine iteF (by decide) ?_
    rw [wrap64 (n := k + 1) (by omega) (by omega)]
    exact ⟨⟨Hp.le_trans l2 (Hp.le_trans l3 l4), by omega, by omega⟩, by omega⟩
  · exact iteF (fun hh => hk (of_decide_eq_true hh)) (firebreaklaw05_fixed_call (fixed_ok (env.mono l2) fun h' hl => hq h' (Hp.le_trans l2 hl)))

theorem fltWhole_ok {n m : Int} {Q : Bool → Hp → Prop} (env : FEnv h) (hn : -9223372036854775808 ≤ n ∧ n ≤ 9223372036854775807) (hm : -9223372036854775808 ≤ m ∧ m ≤ 9223372036854775807) (hq : ∀ h', h ≤ h' → Q true h') : firebreaklaw05_FltWhole_w Tryz.prog n m Q h := by
  unfold firebreaklaw05_FltWhole_w
  have op20 : (15 : Int) ≤ 20 ∧ (20 : Int) ≤ 21 := by decide
  have op21 : (15 : Int) ≤ 21 ∧ (21 : Int) ≤ 21 := by decide
  have op19 : (15 : Int) ≤ 19 ∧ (19 : Int) ≤ 21 := by decide
  obtain ⟨a1, -, -, -⟩ := rz_whole hn.1 (show n < 9223372036854775808 by omega)
  obtain ⟨b1, -, -, -⟩ := rz_whole hm.1 (show m < 9223372036854775808 by omega)
  obtain ⟨w1, w2, w3, w4, w5⟩ := whole_back hn.1 (show n < 9223372036854775808 by omega)
  obtain ⟨c1, c2⟩ := whole_below hn.1 (show n < 9223372036854775808 by omega) hm.1 (show m < 9223372036854775808 by omega)
  refine firebreaklaw05_do_call (do_ok op20 ?_)
  refine firebreaklaw05_do_call (do_ok op20 ?_)
  rw [fltD_float, fltD_float]
  refine firebreaklaw05_do_call (do_ok op21 ?_)
  rw [fltD_whole, uN_iN a1]
  generalize hX : wholeD (toFloatD n) = X at *
  refine letW (letW (iteF (fun hh => ?_) ?_))
  · rw [Bool.and_eq_true, Bool.and_eq_true] at hh
    exact bne_iff_ne.1 hh.2 (w1 ⟨of_decide_eq_true hh.1.1, of_decide_eq_true hh.1.2⟩)
  refine JoinW1.intro (fun off k => k = h ∧ 0 ≤ off ∧ off ≤ 512) ?_ ?_
  · by_cases hlt : X < n
    · refine iteT (decide_eq_true hlt) ⟨rfl, ?_⟩
      rw [wrap64 (by omega) (by omega), wrapU64]
      omega
    · refine iteF (fun hh => hlt (of_decide_eq_true hh)) ⟨rfl, ?_⟩
      rw [wrap64 (by omega) (by omega), wrapU64]
      omega
  rintro off h ⟨rfl, o0, o1⟩
  have e1 : decide (off > (512 : Int)) = false := decide_eq_false (by omega)
  rw [e1]
  have low : ∀ {K : Int → Hp → Prop} (_ : ∀ x, (n ≤ m → x ≠ 1) → K x h), EffC (some ((!false) && decide (n ≤ m))) (CallT Tryz.prog n_firebreaklaw05_do [(.int .i64 (19 : Int)), (.int .i64 (iN (toFloatD m))), (.int .i64 (iN (toFloatD n)))] (shInt .i64)) K h := fun {K} hK => by
    by_cases hle : n ≤ m
    · refine effB (by rw [decide_eq_true hle]; rfl) (firebreaklaw05_do_call (do_ok op19 ?_))
      rw [fltD_below, uN_iN a1, uN_iN b1]
      exact hK _ c1
    · exact effF (by rw [decide_eq_false hle]; rfl) (0 : Int) (hK 0 fun hh => absurd hh hle)
  refine low fun x hx => letW ?_
  have e2 : ((decide (n ≤ m)) && (x == (1 : Int))) = false := by
    by_cases hle : n ≤ m
    · rw [decide_eq_true hle, Bool.true_and, Bool.eq_false_iff]
      exact fun hh => hx hle (beq_iff_eq.1 hh)
    · rw [decide_eq_false hle]; rfl
  rw [e2]
  refine letW (letW (letW ?_))
  generalize hB : (((decide (n < m)) && (decide (n ≥ (-9007199254740992 : Int)))) && (decide (m ≤ (9007199254740992 : Int)))) = B
  have up : ∀ {K : Int → Hp → Prop} (_ : ∀ x, (B = true → x = 1) → K x h), EffC (some ((!(false || false)) && B)) (CallT Tryz.prog n_firebreaklaw05_do [(.int .i64 (19 : Int)), (.int .i64 (iN (toFloatD n))), (.int .i64 (iN (toFloatD m)))] (shInt .i64)) K h := fun {K} hK => by
    cases hb : B with
    | true =>
      rw [hb, Bool.and_eq_true, Bool.and_eq_true] at hB
      refine effB rfl (firebreaklaw05_do_call (do_ok op19 ?_))
      rw [fltD_below, uN_iN a1, uN_iN b1]
      exact hK _ fun _ => c2 (of_decide_eq_true hB.1.1) (of_decide_eq_true hB.1.2) (of_decide_eq_true hB.2)
    | false => exact effF rfl (0 : Int) (hK 0 fun hh => by rw [hb] at hh; cases hh)
  refine up fun z hz => letW ?_
  have e3 : (B && (z != (1 : Int))) = false := by
    cases hb : B with
    | true => rw [hz hb]; rfl
    | false => rfl
  rw [e3]
  refine letW (iteF (by decide) ?_)
  refine firebreaklaw05_do_call (do_ok op20 ?_)
  rw [fltD_float]
  refine effB (beq_iff_eq.2 rfl) (firebreaklaw05_do_call (do_ok op21 ?_))
  rw [fltD_whole, uN_iN a1, hX]
  refine letW (effB (by simp) (firebreaklaw05_fixed_call (fixed_ok env fun h' hl => letW ?_)))
  have := hq h' hl
  simpa using this
end
end Lf

/-
  Floats: what follows without the document.
-/
namespace Lf
open Go Go.Proofs

section
variable {h : Hp}

theorem fltFollows_ok {a b : Int} {Q : Bool → Hp → Prop} (env : FEnv h) (ha : -9223372036854775808 ≤ a ∧ a ≤ 9223372036854775807) (hb : -9223372036854775808 ≤ b ∧ b ≤ 9223372036854775807) (hq : ∀ h', h ≤ h' → Q true h') : firebreaklaw05_FltFollows_w Tryz.prog a b Q h := by
  have lx := uN_lt a
  have ly := uN_lt b
  have ex := iN_uN ha.1 (show a < 9223372036854775808 by omega)
  have oA := add_out lx ly
  have oM := mul_out (a := uN a) (b := uN b)
  have oD := div_out (a := uN a) (b := uN b)
  have oF := add_out lx (flipN_lt ly)
  have nz : isNaND (flipN (uN b)) = isNaND (uN b) := by
    have fm : flipN (uN b) % 9223372036854775808 = uN b % 9223372036854775808 := by
      unfold flipN
      split <;> omega
    unfold isNaND
    rw [fm]
  have oS : OutD (uN a) (uN b) (if isNaND (uN b) = true then 9221120237041090560 else addD (uN a) (flipN (uN b))) := by
    split
    · exact outD_nan
    · refine ⟨oF.1, oF.2.1, fun e => oF.2.2 ?_⟩
      rw [nz]; exact e
  have nanI : iN 9221120237041090560 = 9221120237041090560 := by decide
  have op15 : (15 : Int) ≤ 15 ∧ (15 : Int) ≤ 21 := by decide
  have op16 : (15 : Int) ≤ 16 ∧ (16 : Int) ≤ 21 := by decide
  have op17 : (15 : Int) ≤ 17 ∧ (17 : Int) ≤ 21 := by decide
  have op18 : (15 : Int) ≤ 18 ∧ (18 : Int) ≤ 21 := by decide
  have op19 : (15 : Int) ≤ 19 ∧ (19 : Int) ≤ 21 := by decide
  have op21 : (15 : Int) ≤ 21 ∧ (21 : Int) ≤ 21 := by decide
  unfold firebreaklaw05_FltFollows_w
  refine firebreaklaw05_do_call (do_ok op15 (firebreaklaw05_do_call (do_ok op16 (firebreaklaw05_do_call (do_ok op17 (firebreaklaw05_do_call (do_ok op18 (firebreaklaw05_do_call (do_ok op15 ?_)))))))))
  rw [fltD_add, fltD_sub, fltD_mul, fltD_div, fltD_add, addD_comm ly lx]
  have ne : ∀ x : Int, (x != x) = false := fun x => by simp
  rw [ne (iN (addD (uN a) (uN b)))]
  refine effT (firebreaklaw05_do_call (do_ok op17 ?_))
  rw [fltD_mul, mulD_comm (a := uN b), ne]
  refine letW (effT (firebreaklaw05_isNaN_call (lawNaN_ok ?_)))
  -- the sum with the sign turned
  have turned : ∀ {K : Int → Hp → Prop} (_ : ∀ x, (isNaND (uN b) = false → x = iN (if isNaND (uN b) = true then 9221120237041090560 else addD (uN a) (flipN (uN b)))) → K x h),
      EffC (some ((!(false || false)) && (!isNaND (uN b)))) (CallT Tryz.prog n_firebreaklaw05_do [(.int .i64 (15 : Int)), (.int .i64 a), (.int .i64 (bitsI .xor .i64 b (-9223372036854775808 : Int)))] (shInt .i64)) K h := fun {K} hK => by
    cases hn : isNaND (uN b) with
    | true => exact effF rfl (0 : Int) (hK 0 fun e => by rw [hn] at e; cases e)
    | false =>
      refine effB rfl (firebreaklaw05_do_call (do_ok op15 ?_))
      rw [fltD_add, xor_flip]
      exact hK _ fun _ => by rw [if_neg (by rw [hn]; decide)]
  refine turned fun x7 h7 => letW ?_
  have y1 : ((!isNaND (uN b)) && (iN (if isNaND (uN b) = true then 9221120237041090560 else addD (uN a) (flipN (uN b))) != x7)) = false := by
    cases hn : isNaND (uN b) with
    | true => rfl
    | false => rw [h7 hn, hn, ne]; rfl
  rw [y1]
  refine letW (iteF (by decide) ?_)
  -- the four
  refine newF (enc := fun x => cellsL ((shInt .i64).enc x)) (xs := [iN (addD (uN a) (uN b)), iN (if isNaND (uN b) = true then 9221120237041090560 else addD (uN a) (flipN (uN b))), iN (mulD (uN a) (uN b)), iN (divD (uN a) (uN b))]) (sz := 1) rfl (fun _ => rfl) fun ab h9 _ l9 _ own => ?_
  have row := own.rw (fun _ => rfl)
  have four : ∀ v ∈ [iN (addD (uN a) (uN b)), iN (if isNaND (uN b) = true then 9221120237041090560 else addD (uN a) (flipN (uN b))), iN (mulD (uN a) (uN b)), iN (divD (uN a) (uN b))], ∃ w, OutD (uN a) (uN b) w ∧ v = iN w := fun v hv => by
    simp only [List.mem_cons, List.not_mem_nil, or_false] at hv
    rcases hv with rfl | rfl | rfl | rfl
    · exact ⟨_, oA, rfl⟩
    · exact ⟨_, oS, rfl⟩
    · exact ⟨_, oM, rfl⟩
    · exact ⟨_, oD, rfl⟩
  have vl0 : [iN (addD (uN a) (uN b)), iN (if isNaND (uN b) = true then 9221120237041090560 else addD (uN a) (flipN (uN b))), iN (mulD (uN a) (uN b)), iN (divD (uN a) (uN b))].length = 4 := rfl
  generalize [iN (addD (uN a) (uN b)), iN (if isNaND (uN b) = true then 9221120237041090560 else addD (uN a) (flipN (uN b))), iN (mulD (uN a) (uN b)), iN (divD (uN a) (uN b))] = vs at *
  have vl : vs.length = 4 := vl0
  have env9 := env.mono l9
  refine LoopW1.intro (fun t k => k = h9 ∧ 0 ≤ t ∧ t ≤ 4) (fun t _ => (4 - t).toNat) ⟨rfl, by decide, by decide⟩ ?_
  rintro t k ⟨rfl, t0, t4⟩
  by_cases ht : t < 4
  · refine iteT (decide_eq_true ht) ?_
    have inb := Rs.get (sh := shInt .i64) row (fun _ => rfl) (by decide) t0 (by omega) (K := fun x => CallT Tryz.prog n_firebreaklaw05_isNaN [(.int .i64 x)] shBool (fun r8 h11 =>
      LetW (r8 && (x != (9221120237041090560 : Int))) fun y3 =>
      EffC (some (!y3)) (CallT Tryz.prog n_firebreaklaw05_isNaN [(.int .i64 a)] shBool) (fun r9 h12 =>
      EffC (some ((!y3) && (!r9))) (CallT Tryz.prog n_firebreaklaw05_isNaN [(.int .i64 b)] shBool) (fun r10 h13 =>
      LetW (r9 || r10) fun y4 =>
      LetW (y4 && (x != (9221120237041090560 : Int))) fun y5 =>
      LetW (y3 || y5) fun y6 =>
      (if y6 = true then
      Q false h13
      else
      ((IntKind.wrap .i64 (t + (1 : Int))) |> fun t' => (h13 = k ∧ 0 ≤ t' ∧ t' ≤ 4) ∧ (4 - t').toNat < (4 - t).toNat))) h12) h11) k) fun v hv => ?_
    · rw [vl] at inb
      exact inb
    obtain ⟨w, ow, rfl⟩ := four v (List.mem_of_getElem? hv)
    refine firebreaklaw05_isNaN_call (lawNaN_ok (letW ?_))
    rw [uN_iN ow.1]
    have y3 : (isNaND w && (iN w != (9221120237041090560 : Int))) = false := by
      cases hn : isNaND w with
      | true => rw [ow.2.1 hn, nanI, ne]; rfl
      | false => rfl
    rw [y3]
    refine effT (firebreaklaw05_isNaN_call (lawNaN_ok ?_))
    have other : ∀ {K : Bool → Hp → Prop} (_ : ∀ r, ((isNaND (uN a) || r) = true → isNaND (uN a) = true ∨ isNaND (uN b) = true) → K r k),
        EffC (some ((!false) && (!isNaND (uN a)))) (CallT Tryz.prog n_firebreaklaw05_isNaN [(.int .i64 b)] shBool) K k := fun {K} hK => by
      cases hn : isNaND (uN a) with
      | true => exact effF rfl true (hK true fun _ => .inl hn)
      | false => exact effB rfl (firebreaklaw05_isNaN_call (lawNaN_ok (hK _ fun e => .inr (by rw [hn] at e; exact e))))
    refine other fun r hr => letW (letW (letW ?_))
    have y5 : (false || ((isNaND (uN a) || r) && (iN w != (9221120237041090560 : Int)))) = false := by
      cases hn : (isNaND (uN a) || r) with
      | true => rw [ow.2.2 (hr hn), nanI, ne]; rfl
      | false => rfl
    rw [y5]
    refine iteF (by decide) ?_
    dsimp only
    rw [wrap64 (n := t + 1) (by omega) (by omega)]
    exact ⟨⟨rfl, by omega, by omega⟩, by omega⟩
  · refine iteF (fun hh => ht (of_decide_eq_true hh)) ?_
    refine firebreaklaw05_do_call (do_ok op19 (firebreaklaw05_do_call (do_ok op19 ?_)))
    rw [fltD_below, fltD_below]
    obtain ⟨b1, b2, b3, b4⟩ := below_bounds (a := uN a) (b := uN b)
    have df : uN a % 9223372036854775808 < 9218868437227405312 → uN b % 9223372036854775808 < 9218868437227405312 → (belowD (uN a) (uN b) = 1 ↔ belowD (addD (uN a) (flipN (uN b))) 0 = 1) := fun fa fb => diff_sign lx ly fa fb
    generalize belowD (uN a) (uN b) = L at *
    generalize belowD (uN b) (uN a) = M at *
    rw [decide_eq_false (show ¬ L < 0 by omega), decide_eq_false (show ¬ M < 0 by omega)]
    rw [wrap64 (n := L + M) (by omega) (by omega), decide_eq_false (show ¬ L + M > 1 by omega)]
    refine letW (letW (effT (firebreaklaw05_isNaN_call (lawNaN_ok ?_))))
    have other : ∀ {K : Bool → Hp → Prop} (_ : ∀ r, ((isNaND (uN a) || r) = true → isNaND (uN a) = true ∨ isNaND (uN b) = true) → K r k),
        EffC (some ((!((false || false) || false)) && (!isNaND (uN a)))) (CallT Tryz.prog n_firebreaklaw05_isNaN [(.int .i64 b)] shBool) K k := fun {K} hK => by
      cases hn : isNaND (uN a) with
      | true => exact effF rfl true (hK true fun _ => .inl hn)
      | false => exact effB rfl (firebreaklaw05_isNaN_call (lawNaN_ok (hK _ fun e => .inr (by rw [hn] at e; exact e))))
    refine other fun r hr => letW (letW (letW ?_))
    have y7 : (((false || false) || false) || ((isNaND (uN a) || r) && decide (L + M > 0))) = false := by
      cases hn : (isNaND (uN a) || r) with
      | true => rw [decide_eq_false (show ¬ L + M > 0 by have := b4 (hr hn); omega)]; rfl
      | false => rfl
    rw [y7]
    refine iteF (by decide) (firebreaklaw05_isNaN_call (lawNaN_ok ?_))
    by_cases na : isNaND (uN a) = true
    · refine iteT na (firebreaklaw05_do_call (do_ok op21 ?_))
      rw [fltD_whole, show wholeD (uN a) = 0 by unfold wholeD; dsimp only; rw [if_pos na]]
      exact effT (firebreaklaw05_fixed_call (fixed_ok env9 fun h' hl => letW (hq h' (Hp.le_trans l9 hl))))
    · refine iteF na (firebreaklaw05_do_call (do_ok op17 ?_))
      rw [fltD_mul, show uN 4607182418800017408 = 4607182418800017408 by decide, mul_one_D lx na, ex, ne]
      refine effT (firebreaklaw05_do_call (do_ok op18 ?_))
      rw [fltD_div, show uN 4607182418800017408 = 4607182418800017408 by decide, div_one_D lx na, ex, ne]
      refine letW (effT (firebreaklaw05_do_call (do_ok op15 ?_)))
      rw [fltD_add, show uN (-9223372036854775808) = 9223372036854775808 by decide, add_zero_D lx na, ex, ne]
      refine letW (iteF (by decide) (firebreaklaw05_isNaN_call (lawNaN_ok (letW (letW ?_)))))
      rw [andNot_mod, andNot_mod]
      have last : ∀ {K : Int → Hp → Prop} (_ : ∀ x, (((!isNaND (uN b)) && (((uN a % 9223372036854775808 : Nat) : Int) != (9218868437227405312 : Int)) && (((uN b % 9223372036854775808 : Nat) : Int) != (9218868437227405312 : Int))) = true → (L = 1 ↔ x = 1)) → K x k),
          EffC (some ((!isNaND (uN b)) && (((uN a % 9223372036854775808 : Nat) : Int) != (9218868437227405312 : Int)) && (((uN b % 9223372036854775808 : Nat) : Int) != (9218868437227405312 : Int)))) (CallT Tryz.prog n_firebreaklaw05_do [(.int .i64 (19 : Int)), (.int .i64 (iN (if isNaND (uN b) = true then 9221120237041090560 else addD (uN a) (flipN (uN b))))), (.int .i64 (0 : Int))] (shInt .i64)) K k := fun {K} hK => by
        cases hc : ((!isNaND (uN b)) && (((uN a % 9223372036854775808 : Nat) : Int) != (9218868437227405312 : Int)) && (((uN b % 9223372036854775808 : Nat) : Int) != (9218868437227405312 : Int))) with
        | false => exact effF rfl (0 : Int) (hK 0 fun e => by rw [hc] at e; cases e)
        | true =>
          refine effB rfl (firebreaklaw05_do_call (do_ok op19 ?_))
          rw [Bool.and_eq_true, Bool.and_eq_true] at hc
          obtain ⟨⟨c1, c2⟩, c3⟩ := hc
          have c1 : isNaND (uN b) = false := by simpa using c1
          have c2 := bne_iff_ne.1 c2
          have c3 := bne_iff_ne.1 c3
          have na' : ¬ 9218868437227405312 < uN a % 9223372036854775808 := fun h => na (decide_eq_true h)
          have nb' : ¬ 9218868437227405312 < uN b % 9223372036854775808 := of_decide_eq_false c1
          have d := df (by omega) (by omega)
          rw [fltD_below, if_neg (by rw [c1]; decide), uN_iN oF.1, show uN 0 = 0 by decide]
          exact hK _ fun _ => d
      refine last fun x hx => letW ?_
      generalize ((!isNaND (uN b)) && (((uN a % 9223372036854775808 : Nat) : Int) != (9218868437227405312 : Int)) && (((uN b % 9223372036854775808 : Nat) : Int) != (9218868437227405312 : Int))) = C at hx ⊢
      have y12 : (C && (!((L == (1 : Int)) == (x == (1 : Int))))) = false := by
        cases C with
        | false => rfl
        | true =>
          have hx := hx rfl
          by_cases hL : L = 1
          · rw [hL, hx.1 hL]; rfl
          · have : ¬ x = 1 := fun e => hL (hx.2 e)
            rw [beq_eq_false_iff_ne.2 hL, beq_eq_false_iff_ne.2 this]; rfl
      rw [y12]
      exact iteF (by decide) (firebreaklaw05_fixed_call (fixed_ok env9 fun h' hl => hq h' (Hp.le_trans l9 hl)))
end
end Lf

