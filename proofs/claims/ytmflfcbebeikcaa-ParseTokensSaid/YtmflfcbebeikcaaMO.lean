/- Fixed pieces of text: what the parser says of them. No condition. -/
import Derived.Test.YtmflfcbebeikcaaML
import Derived.KernelRfl
import Derived.Test.YtmflfcbebeikcaaMN
set_option linter.unusedVariables false
set_option linter.unusedSectionVars false
set_option linter.unnecessarySimpa false
set_option linter.unusedSimpArgs false
set_option maxRecDepth 100000
set_option maxHeartbeats 4000000
namespace Go.Proofs.Ytmflfcbebeikcaa.Q
open Go.RowKit
def vx (n : UInt8) (pl : Int) : Ex := ⟨4, [97], [n], 0, [], pl⟩
theorem evA : exprS [97, 46, 120, 32, 43, 32, 50, 32, 42, 32, 97, 46, 121] = (⟨8, [], [], 0, [vx 120 0, ⟨7, [], [], 2, [vx 121 10], 6⟩], 0⟩, 0, 0) := by kernel_rfl
theorem evB : parseS [116, 104, 114, 101, 97, 100, 32, 116, 32, 49, 32, 123, 32, 115, 107, 105, 112, 32, 125] = (⟨[], []⟩, 40, 18) := by kernel_rfl
theorem evC : parseS [116, 104, 114, 101, 97, 100, 32, 116, 32, 42, 32, 123, 32, 115, 107, 105, 112, 59, 32, 125] = (⟨[], [⟨[116], true, 0, [⟨1, [], [], 0, ex0, [], 13⟩], 7⟩]⟩, 0, 0) := by kernel_rfl
variable [Amb]
theorem num04_c (n : Int) : PFun Try.prog 16 [iv n] [] (iv n) [] := by
  refine fn_sem pok 4 0 Try.func16 (by kernel_rfl) rfl rfl rfl rfl ?_
  refine SWp.go pok (by kernel_rfl) ?_
  exact fin1 rfl
theorem live04_c : PFun Try.prog 12 [] [] (.d (.bool true)) [] := by
  have c1 := exprTop_c [97, 46, 120, 32, 43, 32, 50, 32, 42, 32, 97, 46, 121] (by decide)
  rw [evA] at c1
  have c2 := parse_c [116, 104, 114, 101, 97, 100, 32, 116, 32, 49, 32, 123, 32, 115, 107, 105, 112, 32, 125] (by decide)
  rw [evB] at c2
  have c3 := parse_c [116, 104, 114, 101, 97, 100, 32, 116, 32, 42, 32, 123, 32, 115, 107, 105, 112, 59, 32, 125] (by decide)
  rw [evC] at c3
  refine fn_sem pok 95 0 Try.func12 (by kernel_rfl) rfl rfl rfl rfl ?_
  refine SWp.go pok (by kernel_rfl) ?_
  refine PFun.call c1 ?_
  refine PFun.call c2 ?_
  refine PFun.call c3 ?_
  refine PFun.call (num04_c 0) ?_
  refine PIdx.map' (l := [vx 120 0, ⟨7, [], [], 2, [vx 121 10], 6⟩]) (f := Ex.e) rfl rfl ?_
  refine PIdx.map' (l := [vx 120 0, ⟨7, [], [], 2, [vx 121 10], 6⟩]) (f := Ex.e) rfl rfl ?_
  refine PFun.call (num04_c 40) ?_
  refine PFun.call (num04_c 0) ?_
  refine PIdx.map (l := [⟨[116], true, 0, [⟨1, [], [], 0, ex0, [], 13⟩], 7⟩]) (f := Ro.c) (i := 0) rfl ?_
  refine PIdx.map (l := [⟨[116], true, 0, [⟨1, [], [], 0, ex0, [], 13⟩], 7⟩]) (f := Ro.c) (i := 0) rfl ?_
  exact fin1 rfl
end Go.Proofs.Ytmflfcbebeikcaa.Q

namespace Go.Proofs.Ytmflfcbebeikcaa.Q
open Go.RowKit
variable [Amb]
/-- A sign behind which anything may stand. -/
theorem fol_any {x rest : Str} (h : x.length = 1) (hx : ∀ t ∈ twos, t.head? ≠ x.head?) : fol 4 x rest := by
  intro b hb
  refine ⟨fun e => absurd e (by decide), fun e => absurd e (by decide), fun _ _ hm => ?_⟩
  cases x with
  | nil => cases h
  | cons c l => exact hx _ hm rfl
def folB (k : Int) (x : Str) (b : UInt8) : Bool := (!(k == 1 || k == 3) || !inNameS b.toNat) && (!(k == 2) || !isDig b.toNat) && (!(k == 4 && x.length == 1) || !twos.contains (x ++ [b]))
theorem fol_hd {k : Int} {x : Str} {b : UInt8} {l : Str} (h : folB k x b = true) : fol k x (b :: l) := by
  intro c hc
  injection hc with hc
  subst hc
  unfold folB at h
  simp only [Bool.and_eq_true, Bool.or_eq_true, Bool.not_eq_true', beq_iff_eq, Bool.or_eq_false_iff, Bool.and_eq_false_iff] at h
  obtain ⟨⟨h1, h2⟩, h3⟩ := h
  refine ⟨fun e => ?_, fun e => ?_, fun e f hm => ?_⟩
  · rcases h1 with ⟨a, b⟩ | h1
    · rcases e with rfl | rfl
      · exact absurd a (by decide)
      · exact absurd b (by decide)
    · exact h1
  · rcases h2 with h2 | h2
    · subst e; exact absurd h2 (by decide)
    · exact h2
  · rcases h3 with (h3 | h3) | h3
    · subst e; exact absurd h3 (by decide)
    · rw [f] at h3; exact absurd h3 (by decide)
    · have : twos.contains (x ++ [b]) = true := List.contains_iff_mem.2 hm
      rw [this] at h3; cases h3
def repS (w : Str) : Nat → Str
  | 0 => []
  | n + 1 => repS w n ++ w
theorem repS_comm (w : Str) : ∀ n : Nat, repS w (n + 1) = w ++ repS w n
  | 0 => by simp [repS]
  | n + 1 => by
    show repS w (n + 1) ++ w = w ++ (repS w n ++ w)
    rw [repS_comm w n, List.append_assoc]
theorem repS_len (w : Str) : ∀ n : Nat, (repS w n).length = n * w.length
  | 0 => by simp [repS]
  | n + 1 => by rw [repS, List.length_append, repS_len w n, Nat.succ_mul]
def repT (f : Nat → List Tk) (len : Nat) : Nat → Nat → List Tk
  | 0, _ => []
  | n + 1, a => f a ++ repT f len n (a + len)
theorem Lx.rep {w : Str} {f : Nat → List Tk} (p : Str → Prop) (hp : ∀ rest, p rest → p (w ++ rest)) (h : ∀ (a : Nat) (rest : Str) (us : List Tk), p rest → Lx rest (a + w.length) us → Lx (w ++ rest) a (f a ++ us)) :
    ∀ (n a : Nat) (rest : Str) (us : List Tk), p rest → Lx rest (a + n * w.length) us → p (repS w n ++ rest) ∧ Lx (repS w n ++ rest) a (repT f w.length n a ++ us)
  | 0, a, rest, us, hr, g => ⟨hr, by simpa [repS, repT] using g⟩
  | n + 1, a, rest, us, hr, g => by
    rw [repS_comm, repT, List.append_assoc, List.append_assoc]
    have := Lx.rep p hp h n (a + w.length) rest us hr ?_
    exact ⟨hp _ this.1, h a _ _ this.1 this.2⟩
    rwa [Nat.add_assoc, Nat.add_comm w.length, ← Nat.succ_mul]
def pMon : Str := [109, 111, 110, 105, 116, 111, 114, 32, 109, 32, 123, 32, 125]
def pMonT (a : Nat) : List Tk := [⟨3, [109, 111, 110, 105, 116, 111, 114], 0, ((a + 0 : Nat) : Int)⟩, ⟨1, [109], 0, ((a + 8 : Nat) : Int)⟩, ⟨4, [123], 0, ((a + 10 : Nat) : Int)⟩, ⟨4, [125], 0, ((a + 12 : Nat) : Int)⟩]
theorem pMon_lx (a : Nat) (rest : Str) (us : List Tk) (h : Lx rest (a + 13) us) : Lx (pMon ++ rest) a (pMonT a ++ us) := by
  have h0 : Lx rest (a + 13) us := h
  have h1 : Lx ([125] ++ rest) (a + 12) ([⟨4, [125], 0, ((a + 12 : Nat) : Int)⟩] ++ us) := Lx.put (k := 4) (x := [125]) (v := 0) (rest := rest) ⟨by decide, by kernel_rfl⟩ (fol_any (by decide) (by decide)) h0
  have h2 : Lx ([32, 125] ++ rest) (a + 11) ([⟨4, [125], 0, ((a + 12 : Nat) : Int)⟩] ++ us) := Lx.blank (rest := ([125] ++ rest)) (by kernel_rfl) h1
  have h3 : Lx ([123, 32, 125] ++ rest) (a + 10) ([⟨4, [123], 0, ((a + 10 : Nat) : Int)⟩, ⟨4, [125], 0, ((a + 12 : Nat) : Int)⟩] ++ us) := Lx.put (k := 4) (x := [123]) (v := 0) (rest := ([32, 125] ++ rest)) ⟨by decide, by kernel_rfl⟩ (fol_hd (by decide)) h2
  have h4 : Lx ([32, 123, 32, 125] ++ rest) (a + 9) ([⟨4, [123], 0, ((a + 10 : Nat) : Int)⟩, ⟨4, [125], 0, ((a + 12 : Nat) : Int)⟩] ++ us) := Lx.blank (rest := ([123, 32, 125] ++ rest)) (by kernel_rfl) h3
  have h5 : Lx ([109, 32, 123, 32, 125] ++ rest) (a + 8) ([⟨1, [109], 0, ((a + 8 : Nat) : Int)⟩, ⟨4, [123], 0, ((a + 10 : Nat) : Int)⟩, ⟨4, [125], 0, ((a + 12 : Nat) : Int)⟩] ++ us) := Lx.put (k := 1) (x := [109]) (v := 0) (rest := ([32, 123, 32, 125] ++ rest)) ⟨by decide, by kernel_rfl⟩ (fol_hd (by decide)) h4
  have h6 : Lx ([32, 109, 32, 123, 32, 125] ++ rest) (a + 7) ([⟨1, [109], 0, ((a + 8 : Nat) : Int)⟩, ⟨4, [123], 0, ((a + 10 : Nat) : Int)⟩, ⟨4, [125], 0, ((a + 12 : Nat) : Int)⟩] ++ us) := Lx.blank (rest := ([109, 32, 123, 32, 125] ++ rest)) (by kernel_rfl) h5
  have h7 : Lx ([109, 111, 110, 105, 116, 111, 114, 32, 109, 32, 123, 32, 125] ++ rest) (a + 0) ([⟨3, [109, 111, 110, 105, 116, 111, 114], 0, ((a + 0 : Nat) : Int)⟩, ⟨1, [109], 0, ((a + 8 : Nat) : Int)⟩, ⟨4, [123], 0, ((a + 10 : Nat) : Int)⟩, ⟨4, [125], 0, ((a + 12 : Nat) : Int)⟩] ++ us) := Lx.put (k := 3) (x := [109, 111, 110, 105, 116, 111, 114]) (v := 0) (rest := ([32, 109, 32, 123, 32, 125] ++ rest)) ⟨by decide, by kernel_rfl⟩ (fol_hd (by decide)) h6
  exact h7
def pVar : Str := [118, 97, 114, 32, 118, 32, 58, 32, 105, 110, 116, 32, 61, 32, 48, 59]
def pVarT (a : Nat) : List Tk := [⟨3, [118, 97, 114], 0, ((a + 0 : Nat) : Int)⟩, ⟨1, [118], 0, ((a + 4 : Nat) : Int)⟩, ⟨4, [58], 0, ((a + 6 : Nat) : Int)⟩, ⟨3, [105, 110, 116], 0, ((a + 8 : Nat) : Int)⟩, ⟨4, [61], 0, ((a + 12 : Nat) : Int)⟩, ⟨2, [48], 0, ((a + 14 : Nat) : Int)⟩, ⟨4, [59], 0, ((a + 15 : Nat) : Int)⟩]
theorem pVar_lx (a : Nat) (rest : Str) (us : List Tk) (h : Lx rest (a + 16) us) : Lx (pVar ++ rest) a (pVarT a ++ us) := by
  have h0 : Lx rest (a + 16) us := h
  have h1 : Lx ([59] ++ rest) (a + 15) ([⟨4, [59], 0, ((a + 15 : Nat) : Int)⟩] ++ us) := Lx.put (k := 4) (x := [59]) (v := 0) (rest := rest) ⟨by decide, by kernel_rfl⟩ (fol_any (by decide) (by decide)) h0
  have h2 : Lx ([48, 59] ++ rest) (a + 14) ([⟨2, [48], 0, ((a + 14 : Nat) : Int)⟩, ⟨4, [59], 0, ((a + 15 : Nat) : Int)⟩] ++ us) := Lx.put (k := 2) (x := [48]) (v := 0) (rest := ([59] ++ rest)) ⟨by decide, by kernel_rfl⟩ (fol_hd (by decide)) h1
  have h3 : Lx ([32, 48, 59] ++ rest) (a + 13) ([⟨2, [48], 0, ((a + 14 : Nat) : Int)⟩, ⟨4, [59], 0, ((a + 15 : Nat) : Int)⟩] ++ us) := Lx.blank (rest := ([48, 59] ++ rest)) (by kernel_rfl) h2
  have h4 : Lx ([61, 32, 48, 59] ++ rest) (a + 12) ([⟨4, [61], 0, ((a + 12 : Nat) : Int)⟩, ⟨2, [48], 0, ((a + 14 : Nat) : Int)⟩, ⟨4, [59], 0, ((a + 15 : Nat) : Int)⟩] ++ us) := Lx.put (k := 4) (x := [61]) (v := 0) (rest := ([32, 48, 59] ++ rest)) ⟨by decide, by kernel_rfl⟩ (fol_hd (by decide)) h3
  have h5 : Lx ([32, 61, 32, 48, 59] ++ rest) (a + 11) ([⟨4, [61], 0, ((a + 12 : Nat) : Int)⟩, ⟨2, [48], 0, ((a + 14 : Nat) : Int)⟩, ⟨4, [59], 0, ((a + 15 : Nat) : Int)⟩] ++ us) := Lx.blank (rest := ([61, 32, 48, 59] ++ rest)) (by kernel_rfl) h4
  have h6 : Lx ([105, 110, 116, 32, 61, 32, 48, 59] ++ rest) (a + 8) ([⟨3, [105, 110, 116], 0, ((a + 8 : Nat) : Int)⟩, ⟨4, [61], 0, ((a + 12 : Nat) : Int)⟩, ⟨2, [48], 0, ((a + 14 : Nat) : Int)⟩, ⟨4, [59], 0, ((a + 15 : Nat) : Int)⟩] ++ us) := Lx.put (k := 3) (x := [105, 110, 116]) (v := 0) (rest := ([32, 61, 32, 48, 59] ++ rest)) ⟨by decide, by kernel_rfl⟩ (fol_hd (by decide)) h5
  have h7 : Lx ([32, 105, 110, 116, 32, 61, 32, 48, 59] ++ rest) (a + 7) ([⟨3, [105, 110, 116], 0, ((a + 8 : Nat) : Int)⟩, ⟨4, [61], 0, ((a + 12 : Nat) : Int)⟩, ⟨2, [48], 0, ((a + 14 : Nat) : Int)⟩, ⟨4, [59], 0, ((a + 15 : Nat) : Int)⟩] ++ us) := Lx.blank (rest := ([105, 110, 116, 32, 61, 32, 48, 59] ++ rest)) (by kernel_rfl) h6
  have h8 : Lx ([58, 32, 105, 110, 116, 32, 61, 32, 48, 59] ++ rest) (a + 6) ([⟨4, [58], 0, ((a + 6 : Nat) : Int)⟩, ⟨3, [105, 110, 116], 0, ((a + 8 : Nat) : Int)⟩, ⟨4, [61], 0, ((a + 12 : Nat) : Int)⟩, ⟨2, [48], 0, ((a + 14 : Nat) : Int)⟩, ⟨4, [59], 0, ((a + 15 : Nat) : Int)⟩] ++ us) := Lx.put (k := 4) (x := [58]) (v := 0) (rest := ([32, 105, 110, 116, 32, 61, 32, 48, 59] ++ rest)) ⟨by decide, by kernel_rfl⟩ (fol_hd (by decide)) h7
  have h9 : Lx ([32, 58, 32, 105, 110, 116, 32, 61, 32, 48, 59] ++ rest) (a + 5) ([⟨4, [58], 0, ((a + 6 : Nat) : Int)⟩, ⟨3, [105, 110, 116], 0, ((a + 8 : Nat) : Int)⟩, ⟨4, [61], 0, ((a + 12 : Nat) : Int)⟩, ⟨2, [48], 0, ((a + 14 : Nat) : Int)⟩, ⟨4, [59], 0, ((a + 15 : Nat) : Int)⟩] ++ us) := Lx.blank (rest := ([58, 32, 105, 110, 116, 32, 61, 32, 48, 59] ++ rest)) (by kernel_rfl) h8
  have h10 : Lx ([118, 32, 58, 32, 105, 110, 116, 32, 61, 32, 48, 59] ++ rest) (a + 4) ([⟨1, [118], 0, ((a + 4 : Nat) : Int)⟩, ⟨4, [58], 0, ((a + 6 : Nat) : Int)⟩, ⟨3, [105, 110, 116], 0, ((a + 8 : Nat) : Int)⟩, ⟨4, [61], 0, ((a + 12 : Nat) : Int)⟩, ⟨2, [48], 0, ((a + 14 : Nat) : Int)⟩, ⟨4, [59], 0, ((a + 15 : Nat) : Int)⟩] ++ us) := Lx.put (k := 1) (x := [118]) (v := 0) (rest := ([32, 58, 32, 105, 110, 116, 32, 61, 32, 48, 59] ++ rest)) ⟨by decide, by kernel_rfl⟩ (fol_hd (by decide)) h9
  have h11 : Lx ([32, 118, 32, 58, 32, 105, 110, 116, 32, 61, 32, 48, 59] ++ rest) (a + 3) ([⟨1, [118], 0, ((a + 4 : Nat) : Int)⟩, ⟨4, [58], 0, ((a + 6 : Nat) : Int)⟩, ⟨3, [105, 110, 116], 0, ((a + 8 : Nat) : Int)⟩, ⟨4, [61], 0, ((a + 12 : Nat) : Int)⟩, ⟨2, [48], 0, ((a + 14 : Nat) : Int)⟩, ⟨4, [59], 0, ((a + 15 : Nat) : Int)⟩] ++ us) := Lx.blank (rest := ([118, 32, 58, 32, 105, 110, 116, 32, 61, 32, 48, 59] ++ rest)) (by kernel_rfl) h10
  have h12 : Lx ([118, 97, 114, 32, 118, 32, 58, 32, 105, 110, 116, 32, 61, 32, 48, 59] ++ rest) (a + 0) ([⟨3, [118, 97, 114], 0, ((a + 0 : Nat) : Int)⟩, ⟨1, [118], 0, ((a + 4 : Nat) : Int)⟩, ⟨4, [58], 0, ((a + 6 : Nat) : Int)⟩, ⟨3, [105, 110, 116], 0, ((a + 8 : Nat) : Int)⟩, ⟨4, [61], 0, ((a + 12 : Nat) : Int)⟩, ⟨2, [48], 0, ((a + 14 : Nat) : Int)⟩, ⟨4, [59], 0, ((a + 15 : Nat) : Int)⟩] ++ us) := Lx.put (k := 3) (x := [118, 97, 114]) (v := 0) (rest := ([32, 118, 32, 58, 32, 105, 110, 116, 32, 61, 32, 48, 59] ++ rest)) ⟨by decide, by kernel_rfl⟩ (fol_hd (by decide)) h11
  exact h12
def pMeth : Str := [109, 101, 116, 104, 111, 100, 32, 102, 32, 123, 32, 125]
def pMethT (a : Nat) : List Tk := [⟨3, [109, 101, 116, 104, 111, 100], 0, ((a + 0 : Nat) : Int)⟩, ⟨1, [102], 0, ((a + 7 : Nat) : Int)⟩, ⟨4, [123], 0, ((a + 9 : Nat) : Int)⟩, ⟨4, [125], 0, ((a + 11 : Nat) : Int)⟩]
theorem pMeth_lx (a : Nat) (rest : Str) (us : List Tk) (h : Lx rest (a + 12) us) : Lx (pMeth ++ rest) a (pMethT a ++ us) := by
  have h0 : Lx rest (a + 12) us := h
  have h1 : Lx ([125] ++ rest) (a + 11) ([⟨4, [125], 0, ((a + 11 : Nat) : Int)⟩] ++ us) := Lx.put (k := 4) (x := [125]) (v := 0) (rest := rest) ⟨by decide, by kernel_rfl⟩ (fol_any (by decide) (by decide)) h0
  have h2 : Lx ([32, 125] ++ rest) (a + 10) ([⟨4, [125], 0, ((a + 11 : Nat) : Int)⟩] ++ us) := Lx.blank (rest := ([125] ++ rest)) (by kernel_rfl) h1
  have h3 : Lx ([123, 32, 125] ++ rest) (a + 9) ([⟨4, [123], 0, ((a + 9 : Nat) : Int)⟩, ⟨4, [125], 0, ((a + 11 : Nat) : Int)⟩] ++ us) := Lx.put (k := 4) (x := [123]) (v := 0) (rest := ([32, 125] ++ rest)) ⟨by decide, by kernel_rfl⟩ (fol_hd (by decide)) h2
  have h4 : Lx ([32, 123, 32, 125] ++ rest) (a + 8) ([⟨4, [123], 0, ((a + 9 : Nat) : Int)⟩, ⟨4, [125], 0, ((a + 11 : Nat) : Int)⟩] ++ us) := Lx.blank (rest := ([123, 32, 125] ++ rest)) (by kernel_rfl) h3
  have h5 : Lx ([102, 32, 123, 32, 125] ++ rest) (a + 7) ([⟨1, [102], 0, ((a + 7 : Nat) : Int)⟩, ⟨4, [123], 0, ((a + 9 : Nat) : Int)⟩, ⟨4, [125], 0, ((a + 11 : Nat) : Int)⟩] ++ us) := Lx.put (k := 1) (x := [102]) (v := 0) (rest := ([32, 123, 32, 125] ++ rest)) ⟨by decide, by kernel_rfl⟩ (fol_hd (by decide)) h4
  have h6 : Lx ([32, 102, 32, 123, 32, 125] ++ rest) (a + 6) ([⟨1, [102], 0, ((a + 7 : Nat) : Int)⟩, ⟨4, [123], 0, ((a + 9 : Nat) : Int)⟩, ⟨4, [125], 0, ((a + 11 : Nat) : Int)⟩] ++ us) := Lx.blank (rest := ([102, 32, 123, 32, 125] ++ rest)) (by kernel_rfl) h5
  have h7 : Lx ([109, 101, 116, 104, 111, 100, 32, 102, 32, 123, 32, 125] ++ rest) (a + 0) ([⟨3, [109, 101, 116, 104, 111, 100], 0, ((a + 0 : Nat) : Int)⟩, ⟨1, [102], 0, ((a + 7 : Nat) : Int)⟩, ⟨4, [123], 0, ((a + 9 : Nat) : Int)⟩, ⟨4, [125], 0, ((a + 11 : Nat) : Int)⟩] ++ us) := Lx.put (k := 3) (x := [109, 101, 116, 104, 111, 100]) (v := 0) (rest := ([32, 102, 32, 123, 32, 125] ++ rest)) ⟨by decide, by kernel_rfl⟩ (fol_hd (by decide)) h6
  exact h7
def pThr : Str := [116, 104, 114, 101, 97, 100, 32, 116, 32, 42, 32, 123, 32, 125]
def pThrT (a : Nat) : List Tk := [⟨3, [116, 104, 114, 101, 97, 100], 0, ((a + 0 : Nat) : Int)⟩, ⟨1, [116], 0, ((a + 7 : Nat) : Int)⟩, ⟨4, [42], 0, ((a + 9 : Nat) : Int)⟩, ⟨4, [123], 0, ((a + 11 : Nat) : Int)⟩, ⟨4, [125], 0, ((a + 13 : Nat) : Int)⟩]
theorem pThr_lx (a : Nat) (rest : Str) (us : List Tk) (h : Lx rest (a + 14) us) : Lx (pThr ++ rest) a (pThrT a ++ us) := by
  have h0 : Lx rest (a + 14) us := h
  have h1 : Lx ([125] ++ rest) (a + 13) ([⟨4, [125], 0, ((a + 13 : Nat) : Int)⟩] ++ us) := Lx.put (k := 4) (x := [125]) (v := 0) (rest := rest) ⟨by decide, by kernel_rfl⟩ (fol_any (by decide) (by decide)) h0
  have h2 : Lx ([32, 125] ++ rest) (a + 12) ([⟨4, [125], 0, ((a + 13 : Nat) : Int)⟩] ++ us) := Lx.blank (rest := ([125] ++ rest)) (by kernel_rfl) h1
  have h3 : Lx ([123, 32, 125] ++ rest) (a + 11) ([⟨4, [123], 0, ((a + 11 : Nat) : Int)⟩, ⟨4, [125], 0, ((a + 13 : Nat) : Int)⟩] ++ us) := Lx.put (k := 4) (x := [123]) (v := 0) (rest := ([32, 125] ++ rest)) ⟨by decide, by kernel_rfl⟩ (fol_hd (by decide)) h2
  have h4 : Lx ([32, 123, 32, 125] ++ rest) (a + 10) ([⟨4, [123], 0, ((a + 11 : Nat) : Int)⟩, ⟨4, [125], 0, ((a + 13 : Nat) : Int)⟩] ++ us) := Lx.blank (rest := ([123, 32, 125] ++ rest)) (by kernel_rfl) h3
  have h5 : Lx ([42, 32, 123, 32, 125] ++ rest) (a + 9) ([⟨4, [42], 0, ((a + 9 : Nat) : Int)⟩, ⟨4, [123], 0, ((a + 11 : Nat) : Int)⟩, ⟨4, [125], 0, ((a + 13 : Nat) : Int)⟩] ++ us) := Lx.put (k := 4) (x := [42]) (v := 0) (rest := ([32, 123, 32, 125] ++ rest)) ⟨by decide, by kernel_rfl⟩ (fol_hd (by decide)) h4
  have h6 : Lx ([32, 42, 32, 123, 32, 125] ++ rest) (a + 8) ([⟨4, [42], 0, ((a + 9 : Nat) : Int)⟩, ⟨4, [123], 0, ((a + 11 : Nat) : Int)⟩, ⟨4, [125], 0, ((a + 13 : Nat) : Int)⟩] ++ us) := Lx.blank (rest := ([42, 32, 123, 32, 125] ++ rest)) (by kernel_rfl) h5
  have h7 : Lx ([116, 32, 42, 32, 123, 32, 125] ++ rest) (a + 7) ([⟨1, [116], 0, ((a + 7 : Nat) : Int)⟩, ⟨4, [42], 0, ((a + 9 : Nat) : Int)⟩, ⟨4, [123], 0, ((a + 11 : Nat) : Int)⟩, ⟨4, [125], 0, ((a + 13 : Nat) : Int)⟩] ++ us) := Lx.put (k := 1) (x := [116]) (v := 0) (rest := ([32, 42, 32, 123, 32, 125] ++ rest)) ⟨by decide, by kernel_rfl⟩ (fol_hd (by decide)) h6
  have h8 : Lx ([32, 116, 32, 42, 32, 123, 32, 125] ++ rest) (a + 6) ([⟨1, [116], 0, ((a + 7 : Nat) : Int)⟩, ⟨4, [42], 0, ((a + 9 : Nat) : Int)⟩, ⟨4, [123], 0, ((a + 11 : Nat) : Int)⟩, ⟨4, [125], 0, ((a + 13 : Nat) : Int)⟩] ++ us) := Lx.blank (rest := ([116, 32, 42, 32, 123, 32, 125] ++ rest)) (by kernel_rfl) h7
  have h9 : Lx ([116, 104, 114, 101, 97, 100, 32, 116, 32, 42, 32, 123, 32, 125] ++ rest) (a + 0) ([⟨3, [116, 104, 114, 101, 97, 100], 0, ((a + 0 : Nat) : Int)⟩, ⟨1, [116], 0, ((a + 7 : Nat) : Int)⟩, ⟨4, [42], 0, ((a + 9 : Nat) : Int)⟩, ⟨4, [123], 0, ((a + 11 : Nat) : Int)⟩, ⟨4, [125], 0, ((a + 13 : Nat) : Int)⟩] ++ us) := Lx.put (k := 3) (x := [116, 104, 114, 101, 97, 100]) (v := 0) (rest := ([32, 116, 32, 42, 32, 123, 32, 125] ++ rest)) ⟨by decide, by kernel_rfl⟩ (fol_hd (by decide)) h8
  exact h9
def pOr : Str := [32, 111, 114, 32, 123, 32, 125]
def pOrT (a : Nat) : List Tk := [⟨3, [111, 114], 0, ((a + 1 : Nat) : Int)⟩, ⟨4, [123], 0, ((a + 4 : Nat) : Int)⟩, ⟨4, [125], 0, ((a + 6 : Nat) : Int)⟩]
theorem pOr_lx (a : Nat) (rest : Str) (us : List Tk) (h : Lx rest (a + 7) us) : Lx (pOr ++ rest) a (pOrT a ++ us) := by
  have h0 : Lx rest (a + 7) us := h
  have h1 : Lx ([125] ++ rest) (a + 6) ([⟨4, [125], 0, ((a + 6 : Nat) : Int)⟩] ++ us) := Lx.put (k := 4) (x := [125]) (v := 0) (rest := rest) ⟨by decide, by kernel_rfl⟩ (fol_any (by decide) (by decide)) h0
  have h2 : Lx ([32, 125] ++ rest) (a + 5) ([⟨4, [125], 0, ((a + 6 : Nat) : Int)⟩] ++ us) := Lx.blank (rest := ([125] ++ rest)) (by kernel_rfl) h1
  have h3 : Lx ([123, 32, 125] ++ rest) (a + 4) ([⟨4, [123], 0, ((a + 4 : Nat) : Int)⟩, ⟨4, [125], 0, ((a + 6 : Nat) : Int)⟩] ++ us) := Lx.put (k := 4) (x := [123]) (v := 0) (rest := ([32, 125] ++ rest)) ⟨by decide, by kernel_rfl⟩ (fol_hd (by decide)) h2
  have h4 : Lx ([32, 123, 32, 125] ++ rest) (a + 3) ([⟨4, [123], 0, ((a + 4 : Nat) : Int)⟩, ⟨4, [125], 0, ((a + 6 : Nat) : Int)⟩] ++ us) := Lx.blank (rest := ([123, 32, 125] ++ rest)) (by kernel_rfl) h3
  have h5 : Lx ([111, 114, 32, 123, 32, 125] ++ rest) (a + 1) ([⟨3, [111, 114], 0, ((a + 1 : Nat) : Int)⟩, ⟨4, [123], 0, ((a + 4 : Nat) : Int)⟩, ⟨4, [125], 0, ((a + 6 : Nat) : Int)⟩] ++ us) := Lx.put (k := 3) (x := [111, 114]) (v := 0) (rest := ([32, 123, 32, 125] ++ rest)) ⟨by decide, by kernel_rfl⟩ (fol_hd (by decide)) h4
  have h6 : Lx ([32, 111, 114, 32, 123, 32, 125] ++ rest) (a + 0) ([⟨3, [111, 114], 0, ((a + 1 : Nat) : Int)⟩, ⟨4, [123], 0, ((a + 4 : Nat) : Int)⟩, ⟨4, [125], 0, ((a + 6 : Nat) : Int)⟩] ++ us) := Lx.blank (rest := ([111, 114, 32, 123, 32, 125] ++ rest)) (by kernel_rfl) h5
  exact h6
def pHead : Str := [109, 111, 110, 105, 116, 111, 114, 32, 109, 32, 123]
def pHeadT (a : Nat) : List Tk := [⟨3, [109, 111, 110, 105, 116, 111, 114], 0, ((a + 0 : Nat) : Int)⟩, ⟨1, [109], 0, ((a + 8 : Nat) : Int)⟩, ⟨4, [123], 0, ((a + 10 : Nat) : Int)⟩]
theorem pHead_lx (a : Nat) (rest : Str) (us : List Tk) (h : Lx rest (a + 11) us) : Lx (pHead ++ rest) a (pHeadT a ++ us) := by
  have h0 : Lx rest (a + 11) us := h
  have h1 : Lx ([123] ++ rest) (a + 10) ([⟨4, [123], 0, ((a + 10 : Nat) : Int)⟩] ++ us) := Lx.put (k := 4) (x := [123]) (v := 0) (rest := rest) ⟨by decide, by kernel_rfl⟩ (fol_any (by decide) (by decide)) h0
  have h2 : Lx ([32, 123] ++ rest) (a + 9) ([⟨4, [123], 0, ((a + 10 : Nat) : Int)⟩] ++ us) := Lx.blank (rest := ([123] ++ rest)) (by kernel_rfl) h1
  have h3 : Lx ([109, 32, 123] ++ rest) (a + 8) ([⟨1, [109], 0, ((a + 8 : Nat) : Int)⟩, ⟨4, [123], 0, ((a + 10 : Nat) : Int)⟩] ++ us) := Lx.put (k := 1) (x := [109]) (v := 0) (rest := ([32, 123] ++ rest)) ⟨by decide, by kernel_rfl⟩ (fol_hd (by decide)) h2
  have h4 : Lx ([32, 109, 32, 123] ++ rest) (a + 7) ([⟨1, [109], 0, ((a + 8 : Nat) : Int)⟩, ⟨4, [123], 0, ((a + 10 : Nat) : Int)⟩] ++ us) := Lx.blank (rest := ([109, 32, 123] ++ rest)) (by kernel_rfl) h3
  have h5 : Lx ([109, 111, 110, 105, 116, 111, 114, 32, 109, 32, 123] ++ rest) (a + 0) ([⟨3, [109, 111, 110, 105, 116, 111, 114], 0, ((a + 0 : Nat) : Int)⟩, ⟨1, [109], 0, ((a + 8 : Nat) : Int)⟩, ⟨4, [123], 0, ((a + 10 : Nat) : Int)⟩] ++ us) := Lx.put (k := 3) (x := [109, 111, 110, 105, 116, 111, 114]) (v := 0) (rest := ([32, 109, 32, 123] ++ rest)) ⟨by decide, by kernel_rfl⟩ (fol_hd (by decide)) h4
  exact h5
def pCho : Str := [116, 104, 114, 101, 97, 100, 32, 116, 32, 42, 32, 123, 32, 99, 104, 111, 111, 115, 101, 32, 123, 32, 125]
def pChoT (a : Nat) : List Tk := [⟨3, [116, 104, 114, 101, 97, 100], 0, ((a + 0 : Nat) : Int)⟩, ⟨1, [116], 0, ((a + 7 : Nat) : Int)⟩, ⟨4, [42], 0, ((a + 9 : Nat) : Int)⟩, ⟨4, [123], 0, ((a + 11 : Nat) : Int)⟩, ⟨3, [99, 104, 111, 111, 115, 101], 0, ((a + 13 : Nat) : Int)⟩, ⟨4, [123], 0, ((a + 20 : Nat) : Int)⟩, ⟨4, [125], 0, ((a + 22 : Nat) : Int)⟩]
theorem pCho_lx (a : Nat) (rest : Str) (us : List Tk) (h : Lx rest (a + 23) us) : Lx (pCho ++ rest) a (pChoT a ++ us) := by
  have h0 : Lx rest (a + 23) us := h
  have h1 : Lx ([125] ++ rest) (a + 22) ([⟨4, [125], 0, ((a + 22 : Nat) : Int)⟩] ++ us) := Lx.put (k := 4) (x := [125]) (v := 0) (rest := rest) ⟨by decide, by kernel_rfl⟩ (fol_any (by decide) (by decide)) h0
  have h2 : Lx ([32, 125] ++ rest) (a + 21) ([⟨4, [125], 0, ((a + 22 : Nat) : Int)⟩] ++ us) := Lx.blank (rest := ([125] ++ rest)) (by kernel_rfl) h1
  have h3 : Lx ([123, 32, 125] ++ rest) (a + 20) ([⟨4, [123], 0, ((a + 20 : Nat) : Int)⟩, ⟨4, [125], 0, ((a + 22 : Nat) : Int)⟩] ++ us) := Lx.put (k := 4) (x := [123]) (v := 0) (rest := ([32, 125] ++ rest)) ⟨by decide, by kernel_rfl⟩ (fol_hd (by decide)) h2
  have h4 : Lx ([32, 123, 32, 125] ++ rest) (a + 19) ([⟨4, [123], 0, ((a + 20 : Nat) : Int)⟩, ⟨4, [125], 0, ((a + 22 : Nat) : Int)⟩] ++ us) := Lx.blank (rest := ([123, 32, 125] ++ rest)) (by kernel_rfl) h3
  have h5 : Lx ([99, 104, 111, 111, 115, 101, 32, 123, 32, 125] ++ rest) (a + 13) ([⟨3, [99, 104, 111, 111, 115, 101], 0, ((a + 13 : Nat) : Int)⟩, ⟨4, [123], 0, ((a + 20 : Nat) : Int)⟩, ⟨4, [125], 0, ((a + 22 : Nat) : Int)⟩] ++ us) := Lx.put (k := 3) (x := [99, 104, 111, 111, 115, 101]) (v := 0) (rest := ([32, 123, 32, 125] ++ rest)) ⟨by decide, by kernel_rfl⟩ (fol_hd (by decide)) h4
  have h6 : Lx ([32, 99, 104, 111, 111, 115, 101, 32, 123, 32, 125] ++ rest) (a + 12) ([⟨3, [99, 104, 111, 111, 115, 101], 0, ((a + 13 : Nat) : Int)⟩, ⟨4, [123], 0, ((a + 20 : Nat) : Int)⟩, ⟨4, [125], 0, ((a + 22 : Nat) : Int)⟩] ++ us) := Lx.blank (rest := ([99, 104, 111, 111, 115, 101, 32, 123, 32, 125] ++ rest)) (by kernel_rfl) h5
  have h7 : Lx ([123, 32, 99, 104, 111, 111, 115, 101, 32, 123, 32, 125] ++ rest) (a + 11) ([⟨4, [123], 0, ((a + 11 : Nat) : Int)⟩, ⟨3, [99, 104, 111, 111, 115, 101], 0, ((a + 13 : Nat) : Int)⟩, ⟨4, [123], 0, ((a + 20 : Nat) : Int)⟩, ⟨4, [125], 0, ((a + 22 : Nat) : Int)⟩] ++ us) := Lx.put (k := 4) (x := [123]) (v := 0) (rest := ([32, 99, 104, 111, 111, 115, 101, 32, 123, 32, 125] ++ rest)) ⟨by decide, by kernel_rfl⟩ (fol_hd (by decide)) h6
  have h8 : Lx ([32, 123, 32, 99, 104, 111, 111, 115, 101, 32, 123, 32, 125] ++ rest) (a + 10) ([⟨4, [123], 0, ((a + 11 : Nat) : Int)⟩, ⟨3, [99, 104, 111, 111, 115, 101], 0, ((a + 13 : Nat) : Int)⟩, ⟨4, [123], 0, ((a + 20 : Nat) : Int)⟩, ⟨4, [125], 0, ((a + 22 : Nat) : Int)⟩] ++ us) := Lx.blank (rest := ([123, 32, 99, 104, 111, 111, 115, 101, 32, 123, 32, 125] ++ rest)) (by kernel_rfl) h7
  have h9 : Lx ([42, 32, 123, 32, 99, 104, 111, 111, 115, 101, 32, 123, 32, 125] ++ rest) (a + 9) ([⟨4, [42], 0, ((a + 9 : Nat) : Int)⟩, ⟨4, [123], 0, ((a + 11 : Nat) : Int)⟩, ⟨3, [99, 104, 111, 111, 115, 101], 0, ((a + 13 : Nat) : Int)⟩, ⟨4, [123], 0, ((a + 20 : Nat) : Int)⟩, ⟨4, [125], 0, ((a + 22 : Nat) : Int)⟩] ++ us) := Lx.put (k := 4) (x := [42]) (v := 0) (rest := ([32, 123, 32, 99, 104, 111, 111, 115, 101, 32, 123, 32, 125] ++ rest)) ⟨by decide, by kernel_rfl⟩ (fol_hd (by decide)) h8
  have h10 : Lx ([32, 42, 32, 123, 32, 99, 104, 111, 111, 115, 101, 32, 123, 32, 125] ++ rest) (a + 8) ([⟨4, [42], 0, ((a + 9 : Nat) : Int)⟩, ⟨4, [123], 0, ((a + 11 : Nat) : Int)⟩, ⟨3, [99, 104, 111, 111, 115, 101], 0, ((a + 13 : Nat) : Int)⟩, ⟨4, [123], 0, ((a + 20 : Nat) : Int)⟩, ⟨4, [125], 0, ((a + 22 : Nat) : Int)⟩] ++ us) := Lx.blank (rest := ([42, 32, 123, 32, 99, 104, 111, 111, 115, 101, 32, 123, 32, 125] ++ rest)) (by kernel_rfl) h9
  have h11 : Lx ([116, 32, 42, 32, 123, 32, 99, 104, 111, 111, 115, 101, 32, 123, 32, 125] ++ rest) (a + 7) ([⟨1, [116], 0, ((a + 7 : Nat) : Int)⟩, ⟨4, [42], 0, ((a + 9 : Nat) : Int)⟩, ⟨4, [123], 0, ((a + 11 : Nat) : Int)⟩, ⟨3, [99, 104, 111, 111, 115, 101], 0, ((a + 13 : Nat) : Int)⟩, ⟨4, [123], 0, ((a + 20 : Nat) : Int)⟩, ⟨4, [125], 0, ((a + 22 : Nat) : Int)⟩] ++ us) := Lx.put (k := 1) (x := [116]) (v := 0) (rest := ([32, 42, 32, 123, 32, 99, 104, 111, 111, 115, 101, 32, 123, 32, 125] ++ rest)) ⟨by decide, by kernel_rfl⟩ (fol_hd (by decide)) h10
  have h12 : Lx ([32, 116, 32, 42, 32, 123, 32, 99, 104, 111, 111, 115, 101, 32, 123, 32, 125] ++ rest) (a + 6) ([⟨1, [116], 0, ((a + 7 : Nat) : Int)⟩, ⟨4, [42], 0, ((a + 9 : Nat) : Int)⟩, ⟨4, [123], 0, ((a + 11 : Nat) : Int)⟩, ⟨3, [99, 104, 111, 111, 115, 101], 0, ((a + 13 : Nat) : Int)⟩, ⟨4, [123], 0, ((a + 20 : Nat) : Int)⟩, ⟨4, [125], 0, ((a + 22 : Nat) : Int)⟩] ++ us) := Lx.blank (rest := ([116, 32, 42, 32, 123, 32, 99, 104, 111, 111, 115, 101, 32, 123, 32, 125] ++ rest)) (by kernel_rfl) h11
  have h13 : Lx ([116, 104, 114, 101, 97, 100, 32, 116, 32, 42, 32, 123, 32, 99, 104, 111, 111, 115, 101, 32, 123, 32, 125] ++ rest) (a + 0) ([⟨3, [116, 104, 114, 101, 97, 100], 0, ((a + 0 : Nat) : Int)⟩, ⟨1, [116], 0, ((a + 7 : Nat) : Int)⟩, ⟨4, [42], 0, ((a + 9 : Nat) : Int)⟩, ⟨4, [123], 0, ((a + 11 : Nat) : Int)⟩, ⟨3, [99, 104, 111, 111, 115, 101], 0, ((a + 13 : Nat) : Int)⟩, ⟨4, [123], 0, ((a + 20 : Nat) : Int)⟩, ⟨4, [125], 0, ((a + 22 : Nat) : Int)⟩] ++ us) := Lx.put (k := 3) (x := [116, 104, 114, 101, 97, 100]) (v := 0) (rest := ([32, 116, 32, 42, 32, 123, 32, 99, 104, 111, 111, 115, 101, 32, 123, 32, 125] ++ rest)) ⟨by decide, by kernel_rfl⟩ (fol_hd (by decide)) h12
  exact h13
def pShut : Str := [125]
def pShutT (a : Nat) : List Tk := [⟨4, [125], 0, ((a + 0 : Nat) : Int)⟩]
theorem pShut_lx (a : Nat) (rest : Str) (us : List Tk) (h : Lx rest (a + 1) us) : Lx (pShut ++ rest) a (pShutT a ++ us) := by
  have h0 : Lx rest (a + 1) us := h
  have h1 : Lx ([125] ++ rest) (a + 0) ([⟨4, [125], 0, ((a + 0 : Nat) : Int)⟩] ++ us) := Lx.put (k := 4) (x := [125]) (v := 0) (rest := rest) ⟨by decide, by kernel_rfl⟩ (fol_any (by decide) (by decide)) h0
  exact h1
def pPar : Str := [40]
def pParT (a : Nat) : List Tk := [⟨4, [40], 0, ((a + 0 : Nat) : Int)⟩]
theorem pPar_lx (a : Nat) (rest : Str) (us : List Tk) (h : Lx rest (a + 1) us) : Lx (pPar ++ rest) a (pParT a ++ us) := by
  have h0 : Lx rest (a + 1) us := h
  have h1 : Lx ([40] ++ rest) (a + 0) ([⟨4, [40], 0, ((a + 0 : Nat) : Int)⟩] ++ us) := Lx.put (k := 4) (x := [40]) (v := 0) (rest := rest) ⟨by decide, by kernel_rfl⟩ (fol_any (by decide) (by decide)) h0
  exact h1
def pNot : Str := [33]
def pNotT (a : Nat) : List Tk := [⟨4, [33], 0, ((a + 0 : Nat) : Int)⟩]
theorem pNot_lx (a : Nat) (rest : Str) (us : List Tk) (hf : fol 4 [33] rest) (h : Lx rest (a + 1) us) : Lx (pNot ++ rest) a (pNotT a ++ us) := by
  have h0 : Lx rest (a + 1) us := h
  have h1 : Lx ([33] ++ rest) (a + 0) ([⟨4, [33], 0, ((a + 0 : Nat) : Int)⟩] ++ us) := Lx.put (k := 4) (x := [33]) (v := 0) (rest := rest) ⟨by decide, by kernel_rfl⟩ hf h0
  exact h1
def pNeg : Str := [45]
def pNegT (a : Nat) : List Tk := [⟨4, [45], 0, ((a + 0 : Nat) : Int)⟩]
theorem pNeg_lx (a : Nat) (rest : Str) (us : List Tk) (h : Lx rest (a + 1) us) : Lx (pNeg ++ rest) a (pNegT a ++ us) := by
  have h0 : Lx rest (a + 1) us := h
  have h1 : Lx ([45] ++ rest) (a + 0) ([⟨4, [45], 0, ((a + 0 : Nat) : Int)⟩] ++ us) := Lx.put (k := 4) (x := [45]) (v := 0) (rest := rest) ⟨by decide, by kernel_rfl⟩ (fol_any (by decide) (by decide)) h0
  exact h1
def pMul : Str := [50, 32, 42, 32]
def pMulT (a : Nat) : List Tk := [⟨2, [50], 2, ((a + 0 : Nat) : Int)⟩, ⟨4, [42], 0, ((a + 2 : Nat) : Int)⟩]
theorem pMul_lx (a : Nat) (rest : Str) (us : List Tk) (h : Lx rest (a + 4) us) : Lx (pMul ++ rest) a (pMulT a ++ us) := by
  have h0 : Lx rest (a + 4) us := h
  have h1 : Lx ([32] ++ rest) (a + 3) ([] ++ us) := Lx.blank (rest := rest) (by kernel_rfl) h0
  have h2 : Lx ([42, 32] ++ rest) (a + 2) ([⟨4, [42], 0, ((a + 2 : Nat) : Int)⟩] ++ us) := Lx.put (k := 4) (x := [42]) (v := 0) (rest := ([32] ++ rest)) ⟨by decide, by kernel_rfl⟩ (fol_hd (by decide)) h1
  have h3 : Lx ([32, 42, 32] ++ rest) (a + 1) ([⟨4, [42], 0, ((a + 2 : Nat) : Int)⟩] ++ us) := Lx.blank (rest := ([42, 32] ++ rest)) (by kernel_rfl) h2
  have h4 : Lx ([50, 32, 42, 32] ++ rest) (a + 0) ([⟨2, [50], 2, ((a + 0 : Nat) : Int)⟩, ⟨4, [42], 0, ((a + 2 : Nat) : Int)⟩] ++ us) := Lx.put (k := 2) (x := [50]) (v := 2) (rest := ([32, 42, 32] ++ rest)) ⟨by decide, by kernel_rfl⟩ (fol_hd (by decide)) h3
  exact h4
def pRap : Str := [41]
def pRapT (a : Nat) : List Tk := [⟨4, [41], 0, ((a + 0 : Nat) : Int)⟩]
theorem pRap_lx (a : Nat) (rest : Str) (us : List Tk) (h : Lx rest (a + 1) us) : Lx (pRap ++ rest) a (pRapT a ++ us) := by
  have h0 : Lx rest (a + 1) us := h
  have h1 : Lx ([41] ++ rest) (a + 0) ([⟨4, [41], 0, ((a + 0 : Nat) : Int)⟩] ++ us) := Lx.put (k := 4) (x := [41]) (v := 0) (rest := rest) ⟨by decide, by kernel_rfl⟩ (fol_any (by decide) (by decide)) h0
  exact h1
def pRole : Str := [116, 104, 114, 101, 97, 100, 32, 114, 32, 42, 32]
def pRoleT (a : Nat) : List Tk := [⟨3, [116, 104, 114, 101, 97, 100], 0, ((a + 0 : Nat) : Int)⟩, ⟨1, [114], 0, ((a + 7 : Nat) : Int)⟩, ⟨4, [42], 0, ((a + 9 : Nat) : Int)⟩]
theorem pRole_lx (a : Nat) (rest : Str) (us : List Tk) (h : Lx rest (a + 11) us) : Lx (pRole ++ rest) a (pRoleT a ++ us) := by
  have h0 : Lx rest (a + 11) us := h
  have h1 : Lx ([32] ++ rest) (a + 10) ([] ++ us) := Lx.blank (rest := rest) (by kernel_rfl) h0
  have h2 : Lx ([42, 32] ++ rest) (a + 9) ([⟨4, [42], 0, ((a + 9 : Nat) : Int)⟩] ++ us) := Lx.put (k := 4) (x := [42]) (v := 0) (rest := ([32] ++ rest)) ⟨by decide, by kernel_rfl⟩ (fol_hd (by decide)) h1
  have h3 : Lx ([32, 42, 32] ++ rest) (a + 8) ([⟨4, [42], 0, ((a + 9 : Nat) : Int)⟩] ++ us) := Lx.blank (rest := ([42, 32] ++ rest)) (by kernel_rfl) h2
  have h4 : Lx ([114, 32, 42, 32] ++ rest) (a + 7) ([⟨1, [114], 0, ((a + 7 : Nat) : Int)⟩, ⟨4, [42], 0, ((a + 9 : Nat) : Int)⟩] ++ us) := Lx.put (k := 1) (x := [114]) (v := 0) (rest := ([32, 42, 32] ++ rest)) ⟨by decide, by kernel_rfl⟩ (fol_hd (by decide)) h3
  have h5 : Lx ([32, 114, 32, 42, 32] ++ rest) (a + 6) ([⟨1, [114], 0, ((a + 7 : Nat) : Int)⟩, ⟨4, [42], 0, ((a + 9 : Nat) : Int)⟩] ++ us) := Lx.blank (rest := ([114, 32, 42, 32] ++ rest)) (by kernel_rfl) h4
  have h6 : Lx ([116, 104, 114, 101, 97, 100, 32, 114, 32, 42, 32] ++ rest) (a + 0) ([⟨3, [116, 104, 114, 101, 97, 100], 0, ((a + 0 : Nat) : Int)⟩, ⟨1, [114], 0, ((a + 7 : Nat) : Int)⟩, ⟨4, [42], 0, ((a + 9 : Nat) : Int)⟩] ++ us) := Lx.put (k := 3) (x := [116, 104, 114, 101, 97, 100]) (v := 0) (rest := ([32, 114, 32, 42, 32] ++ rest)) ⟨by decide, by kernel_rfl⟩ (fol_hd (by decide)) h5
  exact h6
def pLoop : Str := [123, 32, 108, 111, 111, 112, 32]
def pLoopT (a : Nat) : List Tk := [⟨4, [123], 0, ((a + 0 : Nat) : Int)⟩, ⟨3, [108, 111, 111, 112], 0, ((a + 2 : Nat) : Int)⟩]
theorem pLoop_lx (a : Nat) (rest : Str) (us : List Tk) (h : Lx rest (a + 7) us) : Lx (pLoop ++ rest) a (pLoopT a ++ us) := by
  have h0 : Lx rest (a + 7) us := h
  have h1 : Lx ([32] ++ rest) (a + 6) ([] ++ us) := Lx.blank (rest := rest) (by kernel_rfl) h0
  have h2 : Lx ([108, 111, 111, 112, 32] ++ rest) (a + 2) ([⟨3, [108, 111, 111, 112], 0, ((a + 2 : Nat) : Int)⟩] ++ us) := Lx.put (k := 3) (x := [108, 111, 111, 112]) (v := 0) (rest := ([32] ++ rest)) ⟨by decide, by kernel_rfl⟩ (fol_hd (by decide)) h1
  have h3 : Lx ([32, 108, 111, 111, 112, 32] ++ rest) (a + 1) ([⟨3, [108, 111, 111, 112], 0, ((a + 2 : Nat) : Int)⟩] ++ us) := Lx.blank (rest := ([108, 111, 111, 112, 32] ++ rest)) (by kernel_rfl) h2
  have h4 : Lx ([123, 32, 108, 111, 111, 112, 32] ++ rest) (a + 0) ([⟨4, [123], 0, ((a + 0 : Nat) : Int)⟩, ⟨3, [108, 111, 111, 112], 0, ((a + 2 : Nat) : Int)⟩] ++ us) := Lx.put (k := 4) (x := [123]) (v := 0) (rest := ([32, 108, 111, 111, 112, 32] ++ rest)) ⟨by decide, by kernel_rfl⟩ (fol_hd (by decide)) h3
  exact h4
def pOpen : Str := [123]
def pOpenT (a : Nat) : List Tk := [⟨4, [123], 0, ((a + 0 : Nat) : Int)⟩]
theorem pOpen_lx (a : Nat) (rest : Str) (us : List Tk) (h : Lx rest (a + 1) us) : Lx (pOpen ++ rest) a (pOpenT a ++ us) := by
  have h0 : Lx rest (a + 1) us := h
  have h1 : Lx ([123] ++ rest) (a + 0) ([⟨4, [123], 0, ((a + 0 : Nat) : Int)⟩] ++ us) := Lx.put (k := 4) (x := [123]) (v := 0) (rest := rest) ⟨by decide, by kernel_rfl⟩ (fol_any (by decide) (by decide)) h0
  exact h1
end Go.Proofs.Ytmflfcbebeikcaa.Q
