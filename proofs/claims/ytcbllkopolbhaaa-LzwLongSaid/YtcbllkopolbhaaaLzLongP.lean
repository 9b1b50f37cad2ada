/-
  LzwLong, the plain part: the bytes that the statement draws bear no seven in a row twice; so the table comes to be full. No program is in sight here.
-/
import Derived.Test.YtcbllkopolbhaaaLzBack
namespace Go.Proofs.Ytcbllkopolbhaaa.Lz
open Go.RowKit Go.Maps

/-! ### the numbers drawn -/
def lcg (x : Nat) : Nat := (x * 1664525 % 4294967296 + 1013904223) % 4294967296
def xs (x : Nat) : Nat → Nat
  | 0 => x
  | k + 1 => lcg (xs x k)
theorem lcg_lt (x : Nat) : lcg x < 4294967296 := Nat.mod_lt _ (by omega)
theorem xs_lt (x : Nat) (h : x < 4294967296) : ∀ k, xs x k < 4294967296
  | 0 => h
  | _ + 1 => lcg_lt _
theorem lcg_diff (x y : Nat) : ∃ e : Int, (lcg x : Int) - lcg y = 1664525 * ((x : Int) - y) - 4294967296 * e := by
  unfold lcg
  exact ⟨((x * 1664525 / 4294967296 : Nat) : Int) + (((x * 1664525 % 4294967296 + 1013904223) / 4294967296 : Nat) : Int) - ((y * 1664525 / 4294967296 : Nat) : Int) - (((y * 1664525 % 4294967296 + 1013904223) / 4294967296 : Nat) : Int), by omega⟩
theorem dual1 (v0 e1 e2 e3 e4 e5 e6 v1 v2 v3 v4 v5 v6 : Int) (h1 : v1 = 1664525 * v0 - 4294967296 * e1) (h2 : v2 = 1664525 * v1 - 4294967296 * e2) (h3 : v3 = 1664525 * v2 - 4294967296 * e3) (h4 : v4 = 1664525 * v3 - 4294967296 * e4) (h5 : v5 = 1664525 * v4 - 4294967296 * e5) (h6 : v6 = 1664525 * v5 - 4294967296 * e6) : ∃ z : Int, (-2) * v0 + (-5) * v1 + (5) * v2 + (2) * v3 + (10) * v4 + (8) * v5 + (10) * v6 = 4294967296 * z := by
  refine ⟨(49520187628511097585292083288) * v0 + (-127776744930979685677231683711370) * e1 + (-76764689584704156247116555) * e2 + (-46118075477811481502) * e3 + (-27706448072460) * e4 + (-16645258) * e5 + (-10) * e6, ?_⟩
  subst h1 h2 h3 h4 h5 h6
  simp only [Int.mul_sub, ← Int.mul_assoc, Int.reduceMul]
  omega
theorem dual2 (v0 e1 e2 e3 e4 e5 e6 v1 v2 v3 v4 v5 v6 : Int) (h1 : v1 = 1664525 * v0 - 4294967296 * e1) (h2 : v2 = 1664525 * v1 - 4294967296 * e2) (h3 : v3 = 1664525 * v2 - 4294967296 * e3) (h4 : v4 = 1664525 * v3 - 4294967296 * e4) (h5 : v5 = 1664525 * v4 - 4294967296 * e5) (h6 : v6 = 1664525 * v5 - 4294967296 * e6) : ∃ z : Int, (-1) * v0 + (6) * v1 + (11) * v2 + (-5) * v3 + (2) * v4 + (11) * v5 + (-8) * v6 = 4294967296 * z := by
  refine ⟨(-39616098337221211049855283206) * v0 + (102221262374241949491081399740219) * e1 + (61411671422322854562761989) * e2 + (36894412173036064080) * e3 + (22165129495223) * e4 + (13316189) * e5 + (8) * e6, ?_⟩
  subst h1 h2 h3 h4 h5 h6
  simp only [Int.mul_sub, ← Int.mul_assoc, Int.reduceMul]
  omega
theorem dual3 (v0 e1 e2 e3 e4 e5 e6 v1 v2 v3 v4 v5 v6 : Int) (h1 : v1 = 1664525 * v0 - 4294967296 * e1) (h2 : v2 = 1664525 * v1 - 4294967296 * e2) (h3 : v3 = 1664525 * v2 - 4294967296 * e3) (h4 : v4 = 1664525 * v3 - 4294967296 * e4) (h5 : v5 = 1664525 * v4 - 4294967296 * e5) (h6 : v6 = 1664525 * v5 - 4294967296 * e6) : ∃ z : Int, (-16) * v0 + (7) * v1 + (15) * v2 + (2) * v3 + (-4) * v4 + (-5) * v5 + (1) * v6 = 4294967296 * z := by
  refine ⟨(4952001507652241892536317354) * v0 + (-12777629969576349210450206231632) * e1 + (-7676442209985641075051565) * e2 + (-4611791478040666902) * e3 + (-2770635152996) * e4 + (-1664520) * e5 + (-1) * e6, ?_⟩
  subst h1 h2 h3 h4 h5 h6
  simp only [Int.mul_sub, ← Int.mul_assoc, Int.reduceMul]
  omega
theorem dual4 (v0 e1 e2 e3 e4 e5 e6 v1 v2 v3 v4 v5 v6 : Int) (h1 : v1 = 1664525 * v0 - 4294967296 * e1) (h2 : v2 = 1664525 * v1 - 4294967296 * e2) (h3 : v3 = 1664525 * v2 - 4294967296 * e3) (h4 : v4 = 1664525 * v3 - 4294967296 * e4) (h5 : v5 = 1664525 * v4 - 4294967296 * e5) (h6 : v6 = 1664525 * v5 - 4294967296 * e6) : ∃ z : Int, (13) * v0 + (-5) * v1 + (-1) * v2 + (21) * v3 + (-6) * v4 + (7) * v5 + (-9) * v6 = 4294967296 * z := by
  refine ⟨(-44568126620189621669831338247) * v0 + (114998961432061061498348482363905) * e1 + (69088155138589724695242476) * e2 + (41506228586887985879) * e3 + (24935779628956) * e4 + (14980718) * e5 + (9) * e6, ?_⟩
  subst h1 h2 h3 h4 h5 h6
  simp only [Int.mul_sub, ← Int.mul_assoc, Int.reduceMul]
  omega
theorem dual5 (v0 e1 e2 e3 e4 e5 e6 v1 v2 v3 v4 v5 v6 : Int) (h1 : v1 = 1664525 * v0 - 4294967296 * e1) (h2 : v2 = 1664525 * v1 - 4294967296 * e2) (h3 : v3 = 1664525 * v2 - 4294967296 * e3) (h4 : v4 = 1664525 * v3 - 4294967296 * e4) (h5 : v5 = 1664525 * v4 - 4294967296 * e5) (h6 : v6 = 1664525 * v5 - 4294967296 * e6) : ∃ z : Int, (-15) * v0 + (-14) * v1 + (3) * v2 + (7) * v3 + (4) * v4 + (6) * v5 + (-19) * v6 = 4294967296 * z := by
  refine ⟨(-94088293423435745526664644815) * v0 + (242775652627691627938542794755189) * e1 + (145852812440601149239898947) * e2 + (87624284670161847518) * e3 + (52642216049721) * e4 + (31625969) * e5 + (19) * e6, ?_⟩
  subst h1 h2 h3 h4 h5 h6
  simp only [Int.mul_sub, ← Int.mul_assoc, Int.reduceMul]
  omega
theorem dual6 (v0 e1 e2 e3 e4 e5 e6 v1 v2 v3 v4 v5 v6 : Int) (h1 : v1 = 1664525 * v0 - 4294967296 * e1) (h2 : v2 = 1664525 * v1 - 4294967296 * e2) (h3 : v3 = 1664525 * v2 - 4294967296 * e3) (h4 : v4 = 1664525 * v3 - 4294967296 * e4) (h5 : v5 = 1664525 * v4 - 4294967296 * e5) (h6 : v6 = 1664525 * v5 - 4294967296 * e6) : ∃ z : Int, (-2) * v1 + (-4) * v2 + (3) * v3 + (28) * v4 + (-12) * v5 + (-9) * v6 = 4294967296 * z := by
  refine ⟨(-44568183145751041629373453675) * v0 + (114999107284744371611176483684352) * e1 + (69088242762796816876392054) * e2 + (41506281229057428922) * e3 + (24935811254897) * e4 + (14980737) * e5 + (9) * e6, ?_⟩
  subst h1 h2 h3 h4 h5 h6
  simp only [Int.mul_sub, ← Int.mul_assoc, Int.reduceMul]
  omega
theorem dual7 (v0 e1 e2 e3 e4 e5 e6 v1 v2 v3 v4 v5 v6 : Int) (h1 : v1 = 1664525 * v0 - 4294967296 * e1) (h2 : v2 = 1664525 * v1 - 4294967296 * e2) (h3 : v3 = 1664525 * v2 - 4294967296 * e3) (h4 : v4 = 1664525 * v3 - 4294967296 * e4) (h5 : v5 = 1664525 * v4 - 4294967296 * e5) (h6 : v6 = 1664525 * v5 - 4294967296 * e6) : ∃ z : Int, (-15) * v0 + (14) * v1 + (-16) * v2 + (22) * v3 + (3) * v4 + (-3) * v5 + (-9) * v6 = 4294967296 * z := by
  refine ⟨(-44568156370501003556400762115) * v0 + (114999038196672245481396172934261) * e1 + (69088201256618101549328591) * e2 + (41506256293307761403) * e3 + (24935796274197) * e4 + (14980728) * e5 + (9) * e6, ?_⟩
  subst h1 h2 h3 h4 h5 h6
  simp only [Int.mul_sub, ← Int.mul_assoc, Int.reduceMul]
  omega
theorem d1 (v0 v1 v2 v3 v4 v5 v6 e1 e2 e3 e4 e5 e6 : Int) (h1 : v1 = 1664525 * v0 - 4294967296 * e1) (h2 : v2 = 1664525 * v1 - 4294967296 * e2) (h3 : v3 = 1664525 * v2 - 4294967296 * e3)
    (h4 : v4 = 1664525 * v3 - 4294967296 * e4) (h5 : v5 = 1664525 * v4 - 4294967296 * e5) (h6 : v6 = 1664525 * v5 - 4294967296 * e6)
    (b0 : -16777216 < v0 ∧ v0 < 16777216) (b1 : -16777216 < v1 ∧ v1 < 16777216) (b2 : -16777216 < v2 ∧ v2 < 16777216) (b3 : -16777216 < v3 ∧ v3 < 16777216) (b4 : -16777216 < v4 ∧ v4 < 16777216) (b5 : -16777216 < v5 ∧ v5 < 16777216) (b6 : -16777216 < v6 ∧ v6 < 16777216) : (-2) * v0 + (-5) * v1 + (5) * v2 + (2) * v3 + (10) * v4 + (8) * v5 + (10) * v6 = 0 := by
  obtain ⟨z, hz⟩ := dual1 v0 e1 e2 e3 e4 e5 e6 v1 v2 v3 v4 v5 v6 h1 h2 h3 h4 h5 h6
  clear h1 h2 h3 h4 h5 h6
  omega
theorem d2 (v0 v1 v2 v3 v4 v5 v6 e1 e2 e3 e4 e5 e6 : Int) (h1 : v1 = 1664525 * v0 - 4294967296 * e1) (h2 : v2 = 1664525 * v1 - 4294967296 * e2) (h3 : v3 = 1664525 * v2 - 4294967296 * e3)
    (h4 : v4 = 1664525 * v3 - 4294967296 * e4) (h5 : v5 = 1664525 * v4 - 4294967296 * e5) (h6 : v6 = 1664525 * v5 - 4294967296 * e6)
    (b0 : -16777216 < v0 ∧ v0 < 16777216) (b1 : -16777216 < v1 ∧ v1 < 16777216) (b2 : -16777216 < v2 ∧ v2 < 16777216) (b3 : -16777216 < v3 ∧ v3 < 16777216) (b4 : -16777216 < v4 ∧ v4 < 16777216) (b5 : -16777216 < v5 ∧ v5 < 16777216) (b6 : -16777216 < v6 ∧ v6 < 16777216) : (-1) * v0 + (6) * v1 + (11) * v2 + (-5) * v3 + (2) * v4 + (11) * v5 + (-8) * v6 = 0 := by
  obtain ⟨z, hz⟩ := dual2 v0 e1 e2 e3 e4 e5 e6 v1 v2 v3 v4 v5 v6 h1 h2 h3 h4 h5 h6
  clear h1 h2 h3 h4 h5 h6
  omega
theorem d3 (v0 v1 v2 v3 v4 v5 v6 e1 e2 e3 e4 e5 e6 : Int) (h1 : v1 = 1664525 * v0 - 4294967296 * e1) (h2 : v2 = 1664525 * v1 - 4294967296 * e2) (h3 : v3 = 1664525 * v2 - 4294967296 * e3)
    (h4 : v4 = 1664525 * v3 - 4294967296 * e4) (h5 : v5 = 1664525 * v4 - 4294967296 * e5) (h6 : v6 = 1664525 * v5 - 4294967296 * e6)
    (b0 : -16777216 < v0 ∧ v0 < 16777216) (b1 : -16777216 < v1 ∧ v1 < 16777216) (b2 : -16777216 < v2 ∧ v2 < 16777216) (b3 : -16777216 < v3 ∧ v3 < 16777216) (b4 : -16777216 < v4 ∧ v4 < 16777216) (b5 : -16777216 < v5 ∧ v5 < 16777216) (b6 : -16777216 < v6 ∧ v6 < 16777216) : (-16) * v0 + (7) * v1 + (15) * v2 + (2) * v3 + (-4) * v4 + (-5) * v5 + (1) * v6 = 0 := by
  obtain ⟨z, hz⟩ := dual3 v0 e1 e2 e3 e4 e5 e6 v1 v2 v3 v4 v5 v6 h1 h2 h3 h4 h5 h6
  clear h1 h2 h3 h4 h5 h6
  omega
theorem d4 (v0 v1 v2 v3 v4 v5 v6 e1 e2 e3 e4 e5 e6 : Int) (h1 : v1 = 1664525 * v0 - 4294967296 * e1) (h2 : v2 = 1664525 * v1 - 4294967296 * e2) (h3 : v3 = 1664525 * v2 - 4294967296 * e3)
    (h4 : v4 = 1664525 * v3 - 4294967296 * e4) (h5 : v5 = 1664525 * v4 - 4294967296 * e5) (h6 : v6 = 1664525 * v5 - 4294967296 * e6)
    (b0 : -16777216 < v0 ∧ v0 < 16777216) (b1 : -16777216 < v1 ∧ v1 < 16777216) (b2 : -16777216 < v2 ∧ v2 < 16777216) (b3 : -16777216 < v3 ∧ v3 < 16777216) (b4 : -16777216 < v4 ∧ v4 < 16777216) (b5 : -16777216 < v5 ∧ v5 < 16777216) (b6 : -16777216 < v6 ∧ v6 < 16777216) : (13) * v0 + (-5) * v1 + (-1) * v2 + (21) * v3 + (-6) * v4 + (7) * v5 + (-9) * v6 = 0 := by
  obtain ⟨z, hz⟩ := dual4 v0 e1 e2 e3 e4 e5 e6 v1 v2 v3 v4 v5 v6 h1 h2 h3 h4 h5 h6
  clear h1 h2 h3 h4 h5 h6
  omega
theorem d5 (v0 v1 v2 v3 v4 v5 v6 e1 e2 e3 e4 e5 e6 : Int) (h1 : v1 = 1664525 * v0 - 4294967296 * e1) (h2 : v2 = 1664525 * v1 - 4294967296 * e2) (h3 : v3 = 1664525 * v2 - 4294967296 * e3)
    (h4 : v4 = 1664525 * v3 - 4294967296 * e4) (h5 : v5 = 1664525 * v4 - 4294967296 * e5) (h6 : v6 = 1664525 * v5 - 4294967296 * e6)
    (b0 : -16777216 < v0 ∧ v0 < 16777216) (b1 : -16777216 < v1 ∧ v1 < 16777216) (b2 : -16777216 < v2 ∧ v2 < 16777216) (b3 : -16777216 < v3 ∧ v3 < 16777216) (b4 : -16777216 < v4 ∧ v4 < 16777216) (b5 : -16777216 < v5 ∧ v5 < 16777216) (b6 : -16777216 < v6 ∧ v6 < 16777216) : (-15) * v0 + (-14) * v1 + (3) * v2 + (7) * v3 + (4) * v4 + (6) * v5 + (-19) * v6 = 0 := by
  obtain ⟨z, hz⟩ := dual5 v0 e1 e2 e3 e4 e5 e6 v1 v2 v3 v4 v5 v6 h1 h2 h3 h4 h5 h6
  clear h1 h2 h3 h4 h5 h6
  omega
theorem d6 (v0 v1 v2 v3 v4 v5 v6 e1 e2 e3 e4 e5 e6 : Int) (h1 : v1 = 1664525 * v0 - 4294967296 * e1) (h2 : v2 = 1664525 * v1 - 4294967296 * e2) (h3 : v3 = 1664525 * v2 - 4294967296 * e3)
    (h4 : v4 = 1664525 * v3 - 4294967296 * e4) (h5 : v5 = 1664525 * v4 - 4294967296 * e5) (h6 : v6 = 1664525 * v5 - 4294967296 * e6)
    (_b0 : -16777216 < v0 ∧ v0 < 16777216) (b1 : -16777216 < v1 ∧ v1 < 16777216) (b2 : -16777216 < v2 ∧ v2 < 16777216) (b3 : -16777216 < v3 ∧ v3 < 16777216) (b4 : -16777216 < v4 ∧ v4 < 16777216) (b5 : -16777216 < v5 ∧ v5 < 16777216) (b6 : -16777216 < v6 ∧ v6 < 16777216) : (-2) * v1 + (-4) * v2 + (3) * v3 + (28) * v4 + (-12) * v5 + (-9) * v6 = 0 := by
  obtain ⟨z, hz⟩ := dual6 v0 e1 e2 e3 e4 e5 e6 v1 v2 v3 v4 v5 v6 h1 h2 h3 h4 h5 h6
  clear h1 h2 h3 h4 h5 h6
  omega
theorem d7 (v0 v1 v2 v3 v4 v5 v6 e1 e2 e3 e4 e5 e6 : Int) (h1 : v1 = 1664525 * v0 - 4294967296 * e1) (h2 : v2 = 1664525 * v1 - 4294967296 * e2) (h3 : v3 = 1664525 * v2 - 4294967296 * e3)
    (h4 : v4 = 1664525 * v3 - 4294967296 * e4) (h5 : v5 = 1664525 * v4 - 4294967296 * e5) (h6 : v6 = 1664525 * v5 - 4294967296 * e6)
    (b0 : -16777216 < v0 ∧ v0 < 16777216) (b1 : -16777216 < v1 ∧ v1 < 16777216) (b2 : -16777216 < v2 ∧ v2 < 16777216) (b3 : -16777216 < v3 ∧ v3 < 16777216) (b4 : -16777216 < v4 ∧ v4 < 16777216) (b5 : -16777216 < v5 ∧ v5 < 16777216) (b6 : -16777216 < v6 ∧ v6 < 16777216) : (-15) * v0 + (14) * v1 + (-16) * v2 + (22) * v3 + (3) * v4 + (-3) * v5 + (-9) * v6 = 0 := by
  obtain ⟨z, hz⟩ := dual7 v0 e1 e2 e3 e4 e5 e6 v1 v2 v3 v4 v5 v6 h1 h2 h3 h4 h5 h6
  clear h1 h2 h3 h4 h5 h6
  omega
theorem ident (v0 v1 v2 v3 v4 v5 v6 : Int) : 4294967296 * v0 = (-49632019) * ((-2) * v0 + (-5) * v1 + (5) * v2 + (2) * v3 + (10) * v4 + (8) * v5 + (10) * v6) + (40046287) * ((-1) * v0 + (6) * v1 + (11) * v2 + (-5) * v3 + (2) * v4 + (11) * v5 + (-8) * v6) + (-39045027) * ((-16) * v0 + (7) * v1 + (15) * v2 + (2) * v3 + (-4) * v4 + (-5) * v5 + (1) * v6) + (104182026) * ((13) * v0 + (-5) * v1 + (-1) * v2 + (21) * v3 + (-6) * v4 + (7) * v5 + (-9) * v6) + (-89781477) * ((-15) * v0 + (-14) * v1 + (3) * v2 + (7) * v3 + (4) * v4 + (6) * v5 + (-19) * v6) + (50937632) * ((-2) * v1 + (-4) * v2 + (3) * v3 + (28) * v4 + (-12) * v5 + (-9) * v6) + (-60662708) * ((-15) * v0 + (14) * v1 + (-16) * v2 + (22) * v3 + (3) * v4 + (-3) * v5 + (-9) * v6) := by
  omega
theorem solve7 (v0 v1 v2 v3 v4 v5 v6 : Int) (k1 : (-2) * v0 + (-5) * v1 + (5) * v2 + (2) * v3 + (10) * v4 + (8) * v5 + (10) * v6 = 0) (k2 : (-1) * v0 + (6) * v1 + (11) * v2 + (-5) * v3 + (2) * v4 + (11) * v5 + (-8) * v6 = 0) (k3 : (-16) * v0 + (7) * v1 + (15) * v2 + (2) * v3 + (-4) * v4 + (-5) * v5 + (1) * v6 = 0) (k4 : (13) * v0 + (-5) * v1 + (-1) * v2 + (21) * v3 + (-6) * v4 + (7) * v5 + (-9) * v6 = 0) (k5 : (-15) * v0 + (-14) * v1 + (3) * v2 + (7) * v3 + (4) * v4 + (6) * v5 + (-19) * v6 = 0) (k6 : (-2) * v1 + (-4) * v2 + (3) * v3 + (28) * v4 + (-12) * v5 + (-9) * v6 = 0) (k7 : (-15) * v0 + (14) * v1 + (-16) * v2 + (22) * v3 + (3) * v4 + (-3) * v5 + (-9) * v6 = 0) : v0 = 0 := by
  have h := ident v0 v1 v2 v3 v4 v5 v6
  rw [k1, k2, k3, k4, k5, k6, k7] at h
  clear k1 k2 k3 k4 k5 k6 k7
  omega
theorem lattice (v0 v1 v2 v3 v4 v5 v6 e1 e2 e3 e4 e5 e6 : Int) (h1 : v1 = 1664525 * v0 - 4294967296 * e1) (h2 : v2 = 1664525 * v1 - 4294967296 * e2) (h3 : v3 = 1664525 * v2 - 4294967296 * e3)
    (h4 : v4 = 1664525 * v3 - 4294967296 * e4) (h5 : v5 = 1664525 * v4 - 4294967296 * e5) (h6 : v6 = 1664525 * v5 - 4294967296 * e6)
    (b0 : -16777216 < v0 ∧ v0 < 16777216) (b1 : -16777216 < v1 ∧ v1 < 16777216) (b2 : -16777216 < v2 ∧ v2 < 16777216) (b3 : -16777216 < v3 ∧ v3 < 16777216) (b4 : -16777216 < v4 ∧ v4 < 16777216) (b5 : -16777216 < v5 ∧ v5 < 16777216) (b6 : -16777216 < v6 ∧ v6 < 16777216) : v0 = 0 := by
  have k1 := d1 v0 v1 v2 v3 v4 v5 v6 e1 e2 e3 e4 e5 e6 h1 h2 h3 h4 h5 h6 b0 b1 b2 b3 b4 b5 b6
  have k2 := d2 v0 v1 v2 v3 v4 v5 v6 e1 e2 e3 e4 e5 e6 h1 h2 h3 h4 h5 h6 b0 b1 b2 b3 b4 b5 b6
  have k3 := d3 v0 v1 v2 v3 v4 v5 v6 e1 e2 e3 e4 e5 e6 h1 h2 h3 h4 h5 h6 b0 b1 b2 b3 b4 b5 b6
  have k4 := d4 v0 v1 v2 v3 v4 v5 v6 e1 e2 e3 e4 e5 e6 h1 h2 h3 h4 h5 h6 b0 b1 b2 b3 b4 b5 b6
  have k5 := d5 v0 v1 v2 v3 v4 v5 v6 e1 e2 e3 e4 e5 e6 h1 h2 h3 h4 h5 h6 b0 b1 b2 b3 b4 b5 b6
  have k6 := d6 v0 v1 v2 v3 v4 v5 v6 e1 e2 e3 e4 e5 e6 h1 h2 h3 h4 h5 h6 b0 b1 b2 b3 b4 b5 b6
  have k7 := d7 v0 v1 v2 v3 v4 v5 v6 e1 e2 e3 e4 e5 e6 h1 h2 h3 h4 h5 h6 b0 b1 b2 b3 b4 b5 b6
  clear h1 h2 h3 h4 h5 h6 b0 b1 b2 b3 b4 b5 b6
  exact solve7 v0 v1 v2 v3 v4 v5 v6 k1 k2 k3 k4 k5 k6 k7
theorem top_diff (x y : Nat) (h : x / 16777216 = y / 16777216) : -16777216 < (x : Int) - y ∧ (x : Int) - y < 16777216 := by omega
theorem seven (x p q : Nat) (h : ∀ j, j < 7 → xs x (p + j) / 16777216 = xs x (q + j) / 16777216) : xs x p = xs x q := by
  obtain ⟨e1, h1⟩ := lcg_diff (xs x p) (xs x q)
  obtain ⟨e2, h2⟩ := lcg_diff (xs x (p + 1)) (xs x (q + 1))
  obtain ⟨e3, h3⟩ := lcg_diff (xs x (p + 2)) (xs x (q + 2))
  obtain ⟨e4, h4⟩ := lcg_diff (xs x (p + 3)) (xs x (q + 3))
  obtain ⟨e5, h5⟩ := lcg_diff (xs x (p + 4)) (xs x (q + 4))
  obtain ⟨e6, h6⟩ := lcg_diff (xs x (p + 5)) (xs x (q + 5))
  have := lattice _ _ _ _ _ _ _ _ _ _ _ _ _ h1 h2 h3 h4 h5 h6 (top_diff _ _ (h 0 (by omega))) (top_diff _ _ (h 1 (by omega))) (top_diff _ _ (h 2 (by omega))) (top_diff _ _ (h 3 (by omega)))
    (top_diff _ _ (h 4 (by omega))) (top_diff _ _ (h 5 (by omega))) (top_diff _ _ (h 6 (by omega)))
  omega
/-! ### they do not come again -/
def sk : Nat → Nat
  | 0 => 0
  | k + 1 => (1664525 * sk k + 1) % 4294967296
theorem xs_sk (x n : Nat) (hx : x < 4294967296) : ∀ k, (xs x (n + k)) % 4294967296 = (xs x n + sk k * (1664524 * xs x n + 1013904223)) % 4294967296
  | 0 => by simp [sk]
  | k + 1 => by
    have ih := xs_sk x n hx k
    have e1 : xs x (n + (k + 1)) % 4294967296 = (1664525 * (xs x (n + k) % 4294967296) + 1013904223) % 4294967296 := by
      show lcg (xs x (n + k)) % 4294967296 = _
      unfold lcg
      omega
    rw [e1, ih, sk]
    generalize xs x n = X
    generalize sk k = S
    have h3 : ∀ D : Nat, (1664525 * S + 1) * D = 1664525 * (S * D) + D := fun D => by rw [Nat.add_mul (1664525 * S) 1 D, Nat.one_mul, Nat.mul_assoc]
    generalize hD : 1664524 * X + 1013904223 = D
    have h1 : ∀ Y : Nat, (1664525 * (Y % 4294967296) + 1013904223) % 4294967296 = (1664525 * Y + 1013904223) % 4294967296 := fun Y => by omega
    have h2 : (X + (1664525 * S + 1) % 4294967296 * D) % 4294967296 = (X + (1664525 * S + 1) * D) % 4294967296 := by
      have h4 : ((1664525 * S + 1) % 4294967296 * D) % 4294967296 = ((1664525 * S + 1) * D) % 4294967296 := by
        generalize 1664525 * S + 1 = U
        rw [Nat.mul_mod, Nat.mod_mod, ← Nat.mul_mod]
      omega
    rw [h1, h2, h3]
    generalize S * D = Z
    omega
def chk : Nat → Nat → Bool
  | 0, _ => true
  | n + 1, s => ((1664525 * s + 1) % 4294967296 != 0) && chk n ((1664525 * s + 1) % 4294967296)
theorem chk_ok : chk 24100 0 = true := by decide +kernel
theorem chk_sk : ∀ n k s, sk k = s → chk n s = true → ∀ j, k < j → j ≤ k + n → sk j ≠ 0
  | 0, _, _, _, _, j, h1, h2 => by omega
  | n + 1, k, s, hs, hc, j, h1, h2 => by
    simp only [chk, Bool.and_eq_true, bne_iff_ne, ne_eq] at hc
    have hk : sk (k + 1) = (1664525 * s + 1) % 4294967296 := by rw [sk, hs]
    by_cases hj : j = k + 1
    · rw [hj, hk]; exact hc.1
    · exact chk_sk n (k + 1) _ hk hc.2 j (by omega) (by omega)
theorem sk_lt : ∀ k, sk k < 4294967296
  | 0 => by simp [sk]
  | _ + 1 => Nat.mod_lt _ (by omega)
theorem apart (x n k : Nat) (hx : x < 4294967296) (h0 : 0 < k) (hk : k ≤ 24100) : xs x (n + k) ≠ xs x n := fun h => by
  have h1 := xs_sk x n hx k
  rw [h] at h1
  have hs := chk_sk 24100 0 0 rfl chk_ok k h0 (by omega)
  have hl := sk_lt k
  generalize xs x n = X at h1
  generalize sk k = S at *
  have hd : 4294967296 ∣ S * (1664524 * X + 1013904223) := by
    generalize S * (1664524 * X + 1013904223) = Z at h1
    omega
  have hco : Nat.Coprime 4294967296 (1664524 * X + 1013904223) := by
    have : Nat.Coprime (2 ^ 32) (1664524 * X + 1013904223) := by
      refine Nat.Coprime.pow_left 32 ?_
      have ho : (1664524 * X + 1013904223) % 2 = 1 := by omega
      generalize 1664524 * X + 1013904223 = D at ho
      show Nat.gcd 2 D = 1
      rw [Nat.gcd_rec, ho]
      exact Nat.gcd_one_left 2
    exact this
  have := Nat.Coprime.dvd_of_dvd_mul_right hco hd
  have := Nat.le_of_dvd (by omega) this
  omega

/-! ### a text without seven bytes twice -/
def NoRep (T : List Nat) : Prop := ∀ q p, q < p → p + 7 ≤ T.length → (T.drop q).take 7 ≠ (T.drop p).take 7
/-- each of the table's strings stands in the text ahead of a place -/
def Occ (T : List Nat) (pos : Nat) (tb : List (Nat × Nat)) : Prop := ∀ i, i < tb.length → ∃ q, q < pos ∧ strOf (strs tb) (i + 258) = (T.drop q).take (strOf (strs tb) (i + 258)).length
theorem full (T : List Nat) (hN : NoRep T) (hT : ∀ x ∈ T, x < 256) : ∀ (f : Nat) (tb : List (Nat × Nat)) (known pos : Nat), (T.drop pos).length ≤ f → WF tb → Occ T pos tb → known < 4094 → 6 * (4093 - known) < (T.drop pos).length →
    256 ∈ codesF f tb known (T.drop pos) := by
  intro f
  induction f with
  | zero => intro tb known pos hl _ _ _ h; omega
  | succ f ih =>
    intro tb known pos hl hw ho hk h
    cases hd : T.drop pos with
    | nil => rw [hd] at h; simp at h
    | cons c r =>
      rw [hd] at hl h
      have hc : c < 256 := hT c (List.mem_of_mem_drop (by rw [hd]; simp))
      have hst := ext_str hw r c (.inl hc)
      obtain ⟨hok, hsp⟩ := hst
      have hsp' : strOf (strs tb) (ext tb c r).1 ++ (ext tb c r).2 = c :: r := by rw [hsp]; simp [strOf, hc]
      obtain ⟨b1, _, _⟩ := strOf_bound tb hw _ hok
      have hcr : T.drop pos = strOf (strs tb) (ext tb c r).1 ++ (ext tb c r).2 := hd.trans hsp'.symm
      have hTl : (T.drop pos).length = T.length - pos := List.length_drop
      have hsum : (T.drop pos).length = (strOf (strs tb) (ext tb c r).1).length + (ext tb c r).2.length := by rw [hcr, List.length_append]
      rw [← hd] at h hl
      have hE : codesF (f + 1) tb known (c :: r) = (ext tb c r).1 :: (if known + 1 = 4094 then 256 :: codesF f [] 257 (ext tb c r).2 else codesF f (grow tb (ext tb c r).1 (ext tb c r).2) (known + 1) (ext tb c r).2) := by
        conv => lhs; unfold codesF
        simp only
        split <;> rfl
      rw [hE]
      generalize (ext tb c r).1 = row at *
      generalize (ext tb c r).2 = rest at *
      have htk : (T.drop pos).take (strOf (strs tb) row).length = strOf (strs tb) row := by rw [hcr]; simp
      have hlen : (strOf (strs tb) row).length ≤ 6 := by
        refine Nat.le_of_not_lt fun h7 => ?_
        have hge : ¬ row < 256 := fun h => by simp [strOf, h] at h7
        obtain ⟨i, rfl, hi⟩ : ∃ i, row = i + 258 ∧ i < tb.length := by
          rcases hok with h | h
          · exact absurd h hge
          · exact ⟨row - 258, by omega, by omega⟩
        obtain ⟨q, hq, hs⟩ := ho i hi
        refine hN q pos hq (by omega) ?_
        have e1 : ((T.drop q).take (strOf (strs tb) (i + 258)).length).take 7 = ((T.drop pos).take (strOf (strs tb) (i + 258)).length).take 7 := by rw [htk, ← hs]
        rwa [List.take_take, List.take_take, Nat.min_eq_left (by omega)] at e1
      have hrest : T.drop (pos + (strOf (strs tb) row).length) = rest := by rw [← List.drop_drop, hcr]; simp
      by_cases hfull : known + 1 = 4094
      · rw [if_pos hfull]; simp
      · rw [if_neg hfull]
        cases hrr : rest with
        | nil => rw [hrr] at hsum; simp at hsum; omega
        | cons d rr =>
          have hg : grow tb row (d :: rr) = tb ++ [(row, d)] := rfl
          have hdT : d < 256 := hT d (List.mem_of_mem_drop (by rw [hrest, hrr]; simp))
          rw [hg]
          rw [← hrr, ← hrest]
          refine List.mem_cons_of_mem _ (ih (tb ++ [(row, d)]) (known + 1) (pos + (strOf (strs tb) row).length) (by rw [hrest]; omega) (hw.snoc hok hdT) ?_ (by omega) (by rw [hrest]; omega))
          intro i hi
          by_cases hil : i < tb.length
          · obtain ⟨q, hq, hs⟩ := ho i hil
            rw [strs_snoc, strOf_snoc _ _ _ (.inr (by rw [strs_len]; omega))]
            exact ⟨q, by omega, hs⟩
          · obtain rfl : i = tb.length := by simp at hi; omega
            have hat := strs_at (tb ++ [(row, d)]) (hw.snoc hok hdT) tb.length (by simp)
            have e : (tb ++ [(row, d)])[tb.length]'(by simp) = (row, d) := by simp
            rw [e, strs_snoc, strOf_snoc _ _ row (by rw [strs_len]; exact hok), ← strs_snoc] at hat
            refine ⟨pos, by omega, ?_⟩
            rw [hat, List.length_append, List.length_singleton, hcr, hrr]
            simp [List.take_append]
            rw [List.take_of_length_le (by omega)]
/-- the bytes drawn, each turned by one byte -/
def drawn (c x n : Nat) : List Nat := (List.range n).map fun i => c ^^^ (xs x (i + 1) / 16777216)
theorem drawn_norep (c x n : Nat) (hx : x < 4294967296) (hn : n ≤ 24000) : NoRep (drawn c x n) := fun q p hq hp h => by
  have hl : (drawn c x n).length = n := by simp [drawn]
  rw [hl] at hp
  have hj : ∀ j, j < 7 → xs x (p + 1 + j) / 16777216 = xs x (q + 1 + j) / 16777216 := fun j hj => by
    have h1 := congrArg (fun l : List Nat => l[j]?) h
    simp only [List.getElem?_take, if_pos hj, List.getElem?_drop, drawn, List.getElem?_map] at h1
    rw [List.getElem?_range (by omega), List.getElem?_range (by omega)] at h1
    simp only [Option.map_some, Option.some.injEq] at h1
    have h2 := congrArg (c ^^^ ·) h1
    simp only [← Nat.xor_assoc, Nat.xor_self, Nat.zero_xor] at h2
    rw [show p + 1 + j = p + j + 1 by omega, show q + 1 + j = q + j + 1 by omega]
    exact h2.symm
  have := seven x (p + 1) (q + 1) hj
  have ha := apart x (q + 1) (p - q) hx (by omega) (by omega)
  rw [show q + 1 + (p - q) = p + 1 by omega] at ha
  exact ha this
theorem drawn_lt (c x n : Nat) (hc : c < 256) (hx : x < 4294967296) : ∀ y ∈ drawn c x n, y < 256 := fun y hy => by
  obtain ⟨i, _, rfl⟩ := List.mem_map.1 hy
  have := xs_lt x hx (i + 1)
  exact Nat.xor_lt_two_pow (n := 8) (by omega) (by omega)
theorem drawn_clears (c x : Nat) (hc : c < 256) (hx : x < 4294967296) : 2 ≤ (codes (drawn c x 24000)).count 256 := by
  have hl : (drawn c x 24000).length = 24000 := by simp [drawn]
  have := full (drawn c x 24000) (drawn_norep c x 24000 hx (by omega)) (drawn_lt c x 24000 hc hx) 24000 [] 257 0 (by rw [List.drop_zero, hl]; omega) WF.nil (fun i h => by cases h) (by omega) (by rw [List.drop_zero, hl]; omega)
  rw [List.drop_zero] at this
  have h1 := List.count_pos_iff.2 this
  rw [codes, hl, List.count_cons]
  simp
  omega
end Go.Proofs.Ytcbllkopolbhaaa.Lz
