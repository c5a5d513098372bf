/- Many monitors, variables, methods, threads, branches, and many levels: what the parser says of them. No condition. -/
import Derived.Test.YtmflfcbebeikcaaMO
import Derived.Test.YtmflfcbebeikcaaMN
set_option linter.unusedVariables false
set_option linter.unusedSectionVars false
set_option linter.unnecessarySimpa false
set_option linter.unusedSimpArgs false
set_option maxRecDepth 100000
set_option maxHeartbeats 4000000
namespace Go.Proofs.Ytmflfcbebeikcaa.Q
open Go.RowKit
variable [Amb]
/-! ### many -/
def mOne : Nat → Str
  | 0 => pMon
  | 1 => pVar
  | 2 => pMeth
  | 3 => pThr
  | _ => pOr
def mOneT : Nat → Nat → List Tk
  | 0 => pMonT
  | 1 => pVarT
  | 2 => pMethT
  | 3 => pThrT
  | _ => pOrT
def mHead : Nat → Str
  | 0 => []
  | 1 => pHead
  | 2 => pHead
  | 3 => []
  | _ => pCho
def mHeadT : Nat → Nat → List Tk
  | 0, _ => []
  | 1, a => pHeadT a
  | 2, a => pHeadT a
  | 3, _ => []
  | _, a => pChoT a
def mTail : Nat → Str
  | 0 => []
  | 3 => []
  | _ => pShut
def mTailT : Nat → Nat → List Tk
  | 0, _ => []
  | 3, _ => []
  | _, a => pShutT a
def mMost : Nat → Int
  | 0 => 8
  | 1 => 16
  | 2 => 16
  | 3 => 8
  | _ => 7
theorem mOne_lx (k : Nat) (a : Nat) (rest : Str) (us : List Tk) (h : Lx rest (a + (mOne k).length) us) : Lx (mOne k ++ rest) a (mOneT k a ++ us) := by
  match k with
  | 0 => exact pMon_lx a rest us h
  | 1 => exact pVar_lx a rest us h
  | 2 => exact pMeth_lx a rest us h
  | 3 => exact pThr_lx a rest us h
  | n + 4 => exact pOr_lx a rest us h
theorem mHead_lx (k : Nat) (a : Nat) (rest : Str) (us : List Tk) (h : Lx rest (a + (mHead k).length) us) : Lx (mHead k ++ rest) a (mHeadT k a ++ us) := by
  match k with
  | 0 => exact h
  | 1 => exact pHead_lx a rest us h
  | 2 => exact pHead_lx a rest us h
  | 3 => exact h
  | n + 4 => exact pCho_lx a rest us h
theorem mTail_lx (k : Nat) (a : Nat) : Lx (mTail k) a (mTailT k a) := by
  have e := pShut_lx a [] [] (.nil _)
  match k with
  | 0 => exact .nil _
  | 1 => exact e
  | 2 => exact e
  | 3 => exact .nil _
  | n + 4 => exact e
def manyS (k n : Nat) : Str := mHead k ++ repS (mOne k) n ++ mTail k
def manyL (k n : Nat) : Nat := (mHead k).length + n * (mOne k).length + (mTail k).length
def manyT (k n : Nat) : List Tk := mHeadT k 0 ++ (repT (mOneT k) (mOne k).length n (mHead k).length ++ mTailT k ((mHead k).length + n * (mOne k).length)) ++ [⟨5, [], 0, (manyL k n : Nat)⟩]
theorem many_len (k n : Nat) : (manyS k n).length = manyL k n := by
  unfold manyS manyL
  rw [List.length_append, List.length_append, repS_len]
theorem many_small {k n : Nat} (hn : n ≤ 30) : (manyS k n).length ≤ 20000 := by
  rw [many_len]
  unfold manyL
  have h1 : (mHead k).length ≤ 100 := by match k with | 0 | 1 | 2 | 3 => decide | n + 4 => show pCho.length ≤ 100; decide
  have h2 : (mOne k).length ≤ 100 := by match k with | 0 | 1 | 2 | 3 => decide | n + 4 => show pOr.length ≤ 100; decide
  have h3 : (mTail k).length ≤ 100 := by match k with | 0 | 1 | 2 | 3 => decide | n + 4 => show pShut.length ≤ 100; decide
  have h4 : n * (mOne k).length ≤ 30 * 100 := Nat.mul_le_mul hn h2
  omega
theorem many_scan {k n : Nat} (hn : n ≤ 30) : scanS (manyS k n) = (manyT k n, 0, 0) := by
  have h : Lx (manyS k n) 0 (mHeadT k 0 ++ (repT (mOneT k) (mOne k).length n (mHead k).length ++ mTailT k ((mHead k).length + n * (mOne k).length))) := by
    unfold manyS
    rw [List.append_assoc]
    refine mHead_lx k 0 _ _ ?_
    rw [Nat.zero_add]
    exact (Lx.rep (fun _ => True) (fun _ _ => trivial) (fun a rest us _ h => mOne_lx k a rest us h) n _ _ _ trivial (mTail_lx k _)).2
  rw [h.all (many_small hn)]
  unfold endT
  rw [many_len]; rfl
theorem many_all : ((List.range 5).all fun k => (List.range 31).all fun n => (Rd.mk 0 0 (manyT k n) 0).prog.2.code == if (n : Int) > mMost k then 6 else 0) = true := by kernel_rfl
theorem many_code {k n : Nat} (hk : k < 5) (hn : n ≤ 30) : (parseS (manyS k n)).2.1 = if (n : Int) > mMost k then 6 else 0 := by
  have h := List.all_eq_true.1 (List.all_eq_true.1 many_all k (List.mem_range.2 hk)) n (List.mem_range.2 (by omega))
  have h := beq_iff_eq.1 h
  unfold parseS
  rw [many_scan hn, if_pos rfl]
  dsimp only
  split
  · rename_i h0; rw [← h, h0]
  · exact h
/-! ### deep -/
def dOpen : Nat → Str
  | 0 => pPar
  | 1 => pNot
  | 2 => pNeg
  | _ => pMul
def dOpenT : Nat → Nat → List Tk
  | 0 => pParT
  | 1 => pNotT
  | 2 => pNegT
  | _ => pMulT
def dShut : Nat → Str
  | 0 => pRap
  | _ => []
def dShutT : Nat → Nat → List Tk
  | 0 => pRapT
  | _ => fun _ => []
def pVx : Str := [97, 46, 120]
def pVxT (a : Nat) : List Tk := [⟨1, [97], 0, ((a + 0 : Nat) : Int)⟩, ⟨4, [46], 0, ((a + 1 : Nat) : Int)⟩, ⟨1, [120], 0, ((a + 2 : Nat) : Int)⟩]
def dGood (rest : Str) : Prop := ∀ b ∈ rest.head?, b ≠ 61
theorem dGood_fol {rest : Str} (h : dGood rest) : fol 4 [33] rest := by
  intro b hb
  refine ⟨fun e => absurd e (by decide), fun e => absurd e (by decide), fun _ _ hm => ?_⟩
  simp only [twos, List.mem_cons, List.not_mem_nil, or_false, List.cons_append, List.nil_append, List.cons.injEq, and_true] at hm
  have := h b hb
  simp_all
theorem dOpen_good (k : Nat) (rest : Str) (_ : dGood rest) : dGood (dOpen k ++ rest) := by
  match k with
  | 0 => intro b hb; injection hb with hb; subst hb; decide
  | 1 => intro b hb; injection hb with hb; subst hb; decide
  | 2 => intro b hb; injection hb with hb; subst hb; decide
  | n + 3 => intro b hb; injection hb with hb; subst hb; decide
theorem dOpen_lx (k : Nat) (a : Nat) (rest : Str) (us : List Tk) (hg : dGood rest) (h : Lx rest (a + (dOpen k).length) us) : Lx (dOpen k ++ rest) a (dOpenT k a ++ us) := by
  match k with
  | 0 => exact pPar_lx a rest us h
  | 1 => exact pNot_lx a rest us (dGood_fol hg) h
  | 2 => exact pNeg_lx a rest us h
  | n + 3 => exact pMul_lx a rest us h
theorem dShut_lx (k : Nat) (a : Nat) (rest : Str) (us : List Tk) (h : Lx rest (a + (dShut k).length) us) : Lx (dShut k ++ rest) a (dShutT k a ++ us) := by
  match k with
  | 0 => exact pRap_lx a rest us h
  | n + 1 => exact h
theorem pVx_lx (a : Nat) (rest : Str) (us : List Tk) (hf : fol 1 [120] rest) (h : Lx rest (a + 3) us) : Lx (pVx ++ rest) a (pVxT a ++ us) := by
  have h1 : Lx ([120] ++ rest) (a + 2) (⟨1, [120], 0, ((a + 2 : Nat) : Int)⟩ :: us) := Lx.put ⟨by decide, by kernel_rfl⟩ hf h
  have h2 : Lx ([46] ++ ([120] ++ rest)) (a + 1) (⟨4, [46], 0, ((a + 1 : Nat) : Int)⟩ :: ⟨1, [120], 0, ((a + 2 : Nat) : Int)⟩ :: us) := Lx.put ⟨by decide, by kernel_rfl⟩ (fol_hd (by decide)) h1
  exact Lx.put (x := [97]) (rest := [46] ++ ([120] ++ rest)) ⟨by decide, by kernel_rfl⟩ (fol_hd (by decide)) h2
def deepS (k n : Nat) : Str := repS (dOpen k) n ++ pVx ++ repS (dShut k) n
def deepL (k n : Nat) : Nat := n * (dOpen k).length + 3 + n * (dShut k).length
def deepT (k n : Nat) : List Tk := repT (dOpenT k) (dOpen k).length n 0 ++ (pVxT (n * (dOpen k).length) ++ repT (dShutT k) (dShut k).length n (n * (dOpen k).length + 3)) ++ [⟨5, [], 0, (deepL k n : Nat)⟩]
theorem deep_len (k n : Nat) : (deepS k n).length = deepL k n := by
  unfold deepS deepL
  rw [List.length_append, List.length_append, repS_len, repS_len]; rfl
theorem deep_small {k n : Nat} (hn : n ≤ 80) : (deepS k n).length ≤ 20000 := by
  rw [deep_len]
  unfold deepL
  have h1 : (dOpen k).length ≤ 100 := by match k with | 0 | 1 | 2 => decide | n + 3 => show pMul.length ≤ 100; decide
  have h2 : (dShut k).length ≤ 100 := by match k with | 0 => decide | n + 1 => show 0 ≤ 100; decide
  have h3 : n * (dOpen k).length ≤ 80 * 100 := Nat.mul_le_mul hn h1
  have h4 : n * (dShut k).length ≤ 80 * 100 := Nat.mul_le_mul hn h2
  omega
theorem repS_nil : ∀ n : Nat, repS [] n = []
  | 0 => rfl
  | n + 1 => by rw [repS, repS_nil n]; rfl
theorem deep_scan {k n : Nat} (hn : n ≤ 80) : scanS (deepS k n) = (deepT k n, 0, 0) := by
  have hsh : ∀ b ∈ (repS (dShut k) n).head?, b = 41 := fun b hb => by
    match k with
    | 0 =>
      cases n with
      | zero => cases hb
      | succ n => rw [repS_comm] at hb; injection hb with hb; exact hb.symm
    | j + 1 => rw [show dShut (j + 1) = [] from rfl, repS_nil] at hb; cases hb
  have h : Lx (deepS k n) 0 (repT (dOpenT k) (dOpen k).length n 0 ++ (pVxT (n * (dOpen k).length) ++ repT (dShutT k) (dShut k).length n (n * (dOpen k).length + 3))) := by
    unfold deepS
    rw [List.append_assoc]
    refine (Lx.rep dGood (dOpen_good k) (dOpen_lx k) n 0 _ _ (fun b hb => by injection hb with hb; subst hb; decide) ?_).2
    rw [Nat.zero_add]
    refine pVx_lx _ _ _ (fun b hb => ?_) ?_
    · rw [hsh b hb]
      exact ⟨fun _ => by decide, fun _ => by decide, fun e => absurd e (by decide)⟩
    · have := (Lx.rep (fun _ => True) (fun _ _ => trivial) (fun a rest us _ h => dShut_lx k a rest us h) n (n * (dOpen k).length + 3) [] [] trivial (.nil _)).2
      simpa using this
  rw [h.all (deep_small hn)]
  unfold endT
  rw [deep_len]; rfl
theorem deep_all : ((List.range 4).all fun k => (List.range 81).all fun n => ((Rd.mk 0 0 (deepT k n) 0).expr.2.of 5).2.code == (if n > 64 then 41 else 0) && (decide (n ≤ 64) || decide (64 ≤ ((Rd.mk 0 0 (deepT k n) 0).expr.2.of 5).2.at_))) = true := by kernel_rfl
theorem deep_code {k n : Nat} (hk : k < 4) (hn : n ≤ 80) : (exprS (deepS k n)).2.1 = (if n > 64 then 41 else 0) ∧ (n > 64 → 64 ≤ (exprS (deepS k n)).2.2) := by
  have h := List.all_eq_true.1 (List.all_eq_true.1 deep_all k (List.mem_range.2 hk)) n (List.mem_range.2 (by omega))
  rw [Bool.and_eq_true, Bool.or_eq_true, beq_iff_eq, decide_eq_true_eq, decide_eq_true_eq] at h
  obtain ⟨h1, h2⟩ := h
  unfold exprS
  rw [deep_scan hn, if_pos rfl]
  dsimp only
  split
  · rename_i h0
    rw [h0] at h1
    exact ⟨h1, fun hn => by rw [if_pos hn] at h1; exact absurd h1 (by decide)⟩
  · exact ⟨h1, fun hn => by rcases h2 with h2 | h2; · omega
                            exact h2⟩
def blkS (n : Nat) : Str := pRole ++ repS pLoop n ++ pOpen ++ repS pShut n ++ pShut
def blkT (n : Nat) : List Tk := pRoleT 0 ++ (repT pLoopT 7 n 11 ++ (pOpenT (11 + n * 7) ++ (repT pShutT 1 n (11 + n * 7 + 1) ++ pShutT (11 + n * 7 + 1 + n * 1)))) ++ [⟨5, [], 0, ((blkS n).length : Nat)⟩]
theorem blk_small {n : Nat} (hn : n ≤ 80) : (blkS n).length ≤ 20000 := by
  unfold blkS
  have e1 : pRole.length = 11 := rfl
  have e2 : pLoop.length = 7 := rfl
  have e3 : pOpen.length = 1 := rfl
  have e4 : pShut.length = 1 := rfl
  simp only [List.length_append, repS_len, e1, e2, e3, e4]
  omega
theorem blk_scan {n : Nat} (hn : n ≤ 80) : scanS (blkS n) = (blkT n, 0, 0) := by
  have h : Lx (blkS n) 0 (pRoleT 0 ++ (repT pLoopT 7 n 11 ++ (pOpenT (11 + n * 7) ++ (repT pShutT 1 n (11 + n * 7 + 1) ++ pShutT (11 + n * 7 + 1 + n * 1))))) := by
    unfold blkS
    rw [List.append_assoc, List.append_assoc, List.append_assoc]
    refine pRole_lx 0 _ _ ?_
    rw [Nat.zero_add]
    refine (Lx.rep (fun _ => True) (fun _ _ => trivial) (fun a rest us _ h => pLoop_lx a rest us h) n 11 _ _ trivial ?_).2
    refine pOpen_lx _ _ _ ?_
    refine (Lx.rep (fun _ => True) (fun _ _ => trivial) (fun a rest us _ h => pShut_lx a rest us h) n _ _ _ trivial ?_).2
    exact pShut_lx _ [] [] (.nil _)
  rw [h.all (blk_small hn)]; rfl
theorem blk_all : ((List.range 81).all fun n => (Rd.mk 0 0 (blkT n) 0).prog.2.code == (if n + 1 > 64 then 41 else 0) && (decide (n + 1 ≤ 64) || decide (0 < (Rd.mk 0 0 (blkT n) 0).prog.2.at_))) = true := by kernel_rfl
theorem blk_code {n : Nat} (hn : n ≤ 80) : (parseS (blkS n)).2.1 = (if n + 1 > 64 then 41 else 0) ∧ (n + 1 > 64 → 0 < (parseS (blkS n)).2.2) := by
  have h := List.all_eq_true.1 blk_all n (List.mem_range.2 (by omega))
  rw [Bool.and_eq_true, Bool.or_eq_true, beq_iff_eq, decide_eq_true_eq, decide_eq_true_eq] at h
  obtain ⟨h1, h2⟩ := h
  unfold parseS
  rw [blk_scan hn, if_pos rfl]
  dsimp only
  split
  · rename_i h0
    rw [h0] at h1
    exact ⟨h1, fun hn => by rw [if_pos hn] at h1; exact absurd h1 (by decide)⟩
  · exact ⟨h1, fun hn => by rcases h2 with h2 | h2; · omega
                            exact h2⟩
end Go.Proofs.Ytmflfcbebeikcaa.Q

namespace Go.Proofs.Ytmflfcbebeikcaa.Q
open Go.RowKit
variable [Amb]
theorem parseMany_t (n k : Int) (_ : R64 n) (_ : R64 k) : PFun Try.prog 6 [iv n, iv k] [] (.d (.bool true)) [] := by
  refine fn_sem pok 81 0 Try.func6 (by kernel_rfl) rfl rfl rfl rfl ?_
  refine SWp.go pok (by kernel_rfl) ?_
  by_cases h1 : n < 0
  · refine brP_true (by simpa using h1) ?_
    exact PFun.call live04_c (fin1 rfl)
  refine brP_false (by simpa using h1) ?_
  by_cases h2 : n > 30
  · refine brP_true (by simpa using h2) ?_
    exact PFun.call live04_c (fin1 rfl)
  refine brP_false (by simpa using h2) ?_
  by_cases h3 : k < 0
  · refine brP_true (by simpa using h3) ?_
    exact PFun.call live04_c (fin1 rfl)
  refine brP_false (by simpa using h3) ?_
  by_cases h4 : k > 4
  · refine brP_true (by simpa using h4) ?_
    exact PFun.call live04_c (fin1 rfl)
  refine brP_false (by simpa using h4) ?_
  obtain ⟨N, rfl⟩ : ∃ N : Nat, n = N := ⟨n.toNat, by omega⟩
  obtain ⟨K, rfl⟩ : ∃ K : Nat, k = K := ⟨k.toNat, by omega⟩
  have hK : K < 5 := by omega
  have hN : N ≤ 30 := by omega
  have hcs : K = 0 ∨ K = 1 ∨ K = 2 ∨ K = 3 ∨ K = 4 := by omega
  refine ⟨by omega, [.str (mOne K)], by rcases hcs with rfl | rfl | rfl | rfl | rfl <;> rfl, ?_⟩
  refine ⟨by omega, [.str (mHead K)], by rcases hcs with rfl | rfl | rfl | rfl | rfl <;> rfl, ?_⟩
  refine ⟨by omega, [.str (mTail K)], by rcases hcs with rfl | rfl | rfl | rfl | rfl <;> rfl, ?_⟩
  refine ⟨by omega, [.int .i64 (mMost K)], by rcases hcs with rfl | rfl | rfl | rfl | rfl <;> rfl, ?_⟩
  have hlen : ∀ i, i ≤ N → (mHead K ++ repS (mOne K) i).length < 1073741824 := fun i hi => by
    have := many_small (k := K) (n := i) (by omega)
    unfold manyS at this
    rw [List.length_append] at this; omega
  refine SWp.loop (fun i : Nat => i ≤ N) (fun i => ([(0, iv N), (5, sv' (mOne K)), (7, sv' (mTail K)), (8, iv (mMost K)), (9, sv' (mHead K ++ repS (mOne K) i)), (10, iv i)], [])) (fun i => N - i) 0 (Nat.zero_le _) (Le.same ⟨rfl, rfl, rfl, rfl, by rw [repS, List.append_nil]; rfl, rfl, trivial⟩) (fun i hi => ?_)
  refine SWp.go pok (by kernel_rfl) ?_
  refine brP_split (fun h => ?_) (fun h => ?_)
  · have hlt : i < N := by simpa using h
    have hl1 := hlen (i + 1) hlt
    rw [repS, ← List.append_assoc, List.length_append] at hl1
    exact ⟨by omega, i + 1, hlt, by omega, Le.same ⟨rfl, rfl, rfl, rfl, by rw [repS, ← List.append_assoc]; rfl, sint (wrap_nat i (by omega)), trivial⟩⟩
  · have hi' : i = N := by simp at h; omega
    subst hi'
    have hs : (manyS K i).length < 1073741824 := by have := many_small (k := K) (n := i) hN; omega
    have hp := parse_c (manyS K i) hs
    have hc := many_code hK hN
    unfold manyS at hp hc
    have hs' := hs
    unfold manyS at hs'
    rw [List.length_append] at hs'
    refine ⟨by omega, ?_⟩
    refine PFun.call hp ?_
    rw [hc]
    refine PFun.call (num04_c _) ?_
    by_cases hgt : (i : Int) > mMost K
    · rw [if_pos hgt]
      refine brP_true (by simpa using hgt) ?_
      refine PFun.call (num04_c _) ?_
      refine brP_false (by simp; omega) ?_
      refine PFun.call live04_c ?_
      exact fin1 rfl
    · rw [if_neg hgt]
      refine brP_false (by simp; omega) ?_
      refine PFun.call (num04_c _) ?_
      refine brP_true (by simp; omega) ?_
      refine PFun.call live04_c ?_
      exact fin1 rfl
theorem parseDeep_t (n k : Int) (_ : R64 n) (_ : R64 k) : PFun Try.prog 5 [iv n, iv k] [] (.d (.bool true)) [] := by
  refine fn_sem pok 113 0 Try.func5 (by kernel_rfl) rfl rfl rfl rfl ?_
  refine SWp.go pok (by kernel_rfl) ?_
  by_cases h1 : n < 0
  · refine brP_true (by simpa using h1) ?_
    exact PFun.call live04_c (fin1 rfl)
  refine brP_false (by simpa using h1) ?_
  by_cases h2 : n > 80
  · refine brP_true (by simpa using h2) ?_
    exact PFun.call live04_c (fin1 rfl)
  refine brP_false (by simpa using h2) ?_
  by_cases h3 : k < 0
  · refine brP_true (by simpa using h3) ?_
    exact PFun.call live04_c (fin1 rfl)
  refine brP_false (by simpa using h3) ?_
  by_cases h4 : k > 3
  · refine brP_true (by simpa using h4) ?_
    exact PFun.call live04_c (fin1 rfl)
  refine brP_false (by simpa using h4) ?_
  obtain ⟨N, rfl⟩ : ∃ N : Nat, n = N := ⟨n.toNat, by omega⟩
  obtain ⟨K, rfl⟩ : ∃ K : Nat, k = K := ⟨k.toNat, by omega⟩
  have hK : K < 4 := by omega
  have hN : N ≤ 80 := by omega
  have hcs : K = 0 ∨ K = 1 ∨ K = 2 ∨ K = 3 := by omega
  refine ⟨by omega, [.str (dOpen K)], by rcases hcs with rfl | rfl | rfl | rfl <;> rfl, ?_⟩
  refine ⟨by omega, [.str (dShut K)], by rcases hcs with rfl | rfl | rfl | rfl <;> rfl, ?_⟩
  have l1 : (dOpen K).length ≤ 4 := by rcases hcs with rfl | rfl | rfl | rfl <;> decide
  have l2 : (dShut K).length ≤ 1 := by rcases hcs with rfl | rfl | rfl | rfl <;> decide
  have hm1 : ∀ i, i ≤ N → i * (dOpen K).length ≤ 80 * 4 := fun i hi => Nat.mul_le_mul (by omega) l1
  have hm2 : ∀ i, i ≤ N → i * (dShut K).length ≤ 80 * 1 := fun i hi => Nat.mul_le_mul (by omega) l2
  have q1 : pLoop.length = 7 := rfl
  have q2 : pRole.length = 11 := rfl
  have q3 : pOpen.length = 1 := rfl
  have q4 : pShut.length = 1 := rfl
  have q5 : pVx.length = 3 := rfl
  refine SWp.loop (fun i : Nat => i ≤ N) (fun i => ([(0, iv N), (5, sv' (dOpen K)), (6, sv' (dShut K)), (7, sv' (repS (dOpen K) i)), (8, sv' (pRole ++ repS pLoop i)), (9, iv i)], [])) (fun i => N - i) 0 (Nat.zero_le _) (Le.same ⟨rfl, rfl, rfl, rfl, rfl, rfl, trivial⟩) (fun i hi => ?_)
  refine SWp.go pok (by kernel_rfl) ?_
  have e1 := hm1 i hi
  have p1 := repS_len (dOpen K) i
  have p2 := repS_len pLoop i; rw [q1] at p2
  refine brP_split (fun h => ?_) (fun h => ?_)
  · have hlt : i < N := by simpa using h
    refine ⟨by omega, ?_⟩
    refine ⟨by show (pRole ++ repS pLoop i).length + pLoop.length ≤ _; rw [List.length_append]; omega, ?_⟩
    exact ⟨i + 1, hlt, by omega, Le.same ⟨rfl, rfl, rfl, rfl, by rw [repS, ← List.append_assoc]; rfl, sint (wrap_nat i (by omega)), trivial⟩⟩
  · have hi' : i = N := by simp at h; omega
    subst hi'
    refine ⟨by show (repS (dOpen K) i).length + pVx.length ≤ _; omega, ?_⟩
    refine ⟨by show (pRole ++ repS pLoop i).length + pOpen.length ≤ _; rw [List.length_append]; omega, ?_⟩
    refine SWp.loop (fun j : Nat => j ≤ i) (fun j => ([(0, iv i), (6, sv' (dShut K)), (7, sv' (repS (dOpen K) i ++ pVx ++ repS (dShut K) j)), (8, sv' (pRole ++ repS pLoop i ++ pOpen ++ repS pShut j)), (10, iv j)], [])) (fun j => i - j) 0 (Nat.zero_le _) (Le.same ⟨rfl, rfl, by rw [repS, List.append_nil]; rfl, by rw [repS, List.append_nil]; rfl, rfl, trivial⟩) (fun j hj => ?_)
    refine SWp.go pok (by kernel_rfl) ?_
    have e2 := hm2 j hj
    have p3 := repS_len (dShut K) j
    have p4 := repS_len pShut j; rw [q4] at p4
    refine brP_split (fun h => ?_) (fun h => ?_)
    · have hlt : j < i := by simpa using h
      refine ⟨by simp only [List.length_append]; omega, ?_⟩
      refine ⟨by show (pRole ++ repS pLoop i ++ pOpen ++ repS pShut j).length + pShut.length ≤ _; simp only [List.length_append]; omega, ?_⟩
      exact ⟨j + 1, hlt, by omega, Le.same ⟨rfl, rfl, by rw [repS, ← List.append_assoc]; rfl, by rw [repS, ← List.append_assoc]; rfl, sint (wrap_nat j (by omega)), trivial⟩⟩
    · have hj' : j = i := by simp at h; omega
      subst hj'
      have hs := deep_small (k := K) hN
      have hb := blk_small hN
      obtain ⟨c1, c2⟩ := deep_code hK hN
      obtain ⟨d1, d2⟩ := blk_code hN
      have f1 := exprTop_c (deepS K j) (by omega)
      have f2 := parse_c (blkS j) (by omega)
      unfold deepS at f1 c1 c2
      unfold blkS at f2 d1 d2
      refine PFun.call f1 ?_
      refine ⟨by show (pRole ++ repS pLoop j ++ pOpen ++ repS pShut j).length + pShut.length ≤ _; simp only [List.length_append]; omega, ?_⟩
      refine PFun.call f2 ?_
      rw [c1, d1]
      by_cases h64 : j > 64
      · rw [if_pos h64, if_pos (by omega)]
        refine brP_true (by simp; omega) ?_
        refine PFun.call (num04_c _) ?_
        refine brP_true (by have := c2 h64; simpa using this) ?_
        refine PFun.call (num04_c _) ?_
        refine brP_true (by have := d2 (by omega); simpa using this) ?_
        refine PFun.call live04_c ?_
        exact fin1 rfl
      · rw [if_neg h64]
        refine brP_false (by simp; omega) ?_
        refine PFun.call (num04_c _) ?_
        refine PFun.call (num04_c _) ?_
        have w1 : IntKind.i64.wrap ((j : Int) + 1) = ((j + 1 : Nat) : Int) := by rw [IntKind.wrap_i64]; omega
        by_cases h65 : j + 1 > 64
        · rw [if_pos h65]
          refine brP_true (by rw [w1]; simp; omega) ?_
          refine PFun.call live04_c ?_
          exact fin1 rfl
        · rw [if_neg h65]
          refine brP_false (by rw [w1]; simp; omega) ?_
          refine PFun.call live04_c ?_
          exact fin1 rfl
end Go.Proofs.Ytmflfcbebeikcaa.Q
