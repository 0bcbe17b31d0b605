/- How far it is to a number, and the cycle that the reference names: the lists that its loops make. No program in sight. -/
import Derived.Test.YtnlicjgegclilaaDoorEdges
namespace Go.Proofs.YtnlicjgegclilaaDoor
open Go.RowKit

def farStep (s : Nat) (F : List Int) (e : Edge) : List Int := if F.getD e.To.toNat 0 = (s : Int) ∧ F.getD e.From.toNat 0 < 0 then F.set e.From.toNat ((s : Int) + 1) else F
def farRow (s : Nat) (xs : List Edge) (F : List Int) : List Int := xs.foldl (farStep s) F
theorem farRow_succ (s : Nat) (xs : List Edge) (F : List Int) (k : Nat) (h : k < xs.length) : farRow s (xs.take (k + 1)) F = farStep s (farRow s (xs.take k) F) xs[k] := by
  unfold farRow
  rw [List.take_succ_eq_append_getElem h, List.foldl_append]
  rfl
def farN (xs : List Edge) : Nat → List Int → List Int
  | 0, F => F
  | s + 1, F => farRow s xs (farN xs s F)
def farS (many : Nat) (xs : List Edge) (t : Nat) : List Int := farN xs many ((List.replicate many (-1)).set t 0)
theorem farStep_len (s : Nat) (F : List Int) (e : Edge) : (farStep s F e).length = F.length := by
  unfold farStep; split <;> simp
theorem farRow_len (s : Nat) : ∀ (xs : List Edge) (F : List Int), (farRow s xs F).length = F.length
  | [], _ => rfl
  | e :: xs, F => by
    have := farRow_len s xs (farStep s F e)
    unfold farRow at this ⊢
    rw [List.foldl_cons, this, farStep_len]
theorem farN_len (xs : List Edge) (F : List Int) : ∀ s, (farN xs s F).length = F.length
  | 0 => rfl
  | s + 1 => by rw [farN, farRow_len, farN_len xs F s]
theorem farS_len (many : Nat) (xs : List Edge) (t : Nat) : (farS many xs t).length = many := by
  unfold farS; rw [farN_len]; simp
theorem farStep_bd {s : Nat} {n : Int} {F : List Int} {e : Edge} (h : ∀ v ∈ F, -1 ≤ v ∧ v ≤ n) (hn : (s : Int) + 1 ≤ n) : ∀ v ∈ farStep s F e, -1 ≤ v ∧ v ≤ n := by
  intro v hv
  unfold farStep at hv
  split at hv
  · rcases List.mem_or_eq_of_mem_set hv with h1 | h1
    · exact h v h1
    · omega
  · exact h v hv
theorem farRow_bd {s : Nat} {n : Int} (hn : (s : Int) + 1 ≤ n) : ∀ {xs : List Edge} {F : List Int}, (∀ v ∈ F, -1 ≤ v ∧ v ≤ n) → ∀ v ∈ farRow s xs F, -1 ≤ v ∧ v ≤ n
  | [], _, h => h
  | e :: xs, F, h => by
    have := farRow_bd hn (xs := xs) (farStep_bd (e := e) h hn)
    unfold farRow at this ⊢
    rwa [List.foldl_cons]
theorem farN_bd {xs : List Edge} {F : List Int} (h : ∀ v ∈ F, -1 ≤ v ∧ v ≤ 0) : ∀ s, ∀ v ∈ farN xs s F, -1 ≤ v ∧ v ≤ (s : Int)
  | 0 => h
  | s + 1 => by
    rw [farN]
    refine farRow_bd (by omega) fun v hv => ?_
    have := farN_bd h s v hv
    omega
theorem farS_bd (many : Nat) (xs : List Edge) (t : Nat) : ∀ v ∈ farS many xs t, -1 ≤ v ∧ v ≤ (many : Int) := by
  unfold farS
  refine farN_bd (fun v hv => ?_) many
  rcases List.mem_or_eq_of_mem_set hv with h1 | h1
  · rw [List.eq_of_mem_replicate h1]; decide
  · rw [h1]; decide
def bestStep (F : List Int) (s : Int) (b : Int) (e : Edge) : Int := if e.From = s ∧ 0 ≤ F.getD e.To.toNat 0 ∧ (b < 0 ∨ F.getD e.To.toNat 0 < b) then F.getD e.To.toNat 0 else b
def bestS (xs : List Edge) (F : List Int) (s : Int) : Int := xs.foldl (bestStep F s) (-1)
theorem bestS_succ (xs : List Edge) (F : List Int) (s : Int) (k : Nat) (h : k < xs.length) : bestS (xs.take (k + 1)) F s = bestStep F s (bestS (xs.take k) F s) xs[k] := by
  unfold bestS
  rw [List.take_succ_eq_append_getElem h, List.foldl_append]
  rfl
theorem getD_bd {F : List Int} {n : Int} (h : ∀ v ∈ F, -1 ≤ v ∧ v ≤ n) (hn : 0 ≤ n) (k : Nat) : -1 ≤ F.getD k 0 ∧ F.getD k 0 ≤ n := by
  rw [List.getD_eq_getElem?_getD]
  cases hk : F[k]? with
  | none => simp; omega
  | some v => exact h v (List.mem_of_getElem? hk)
theorem bestS_bd {F : List Int} {s n : Int} (h : ∀ v ∈ F, -1 ≤ v ∧ v ≤ n) (hn : 0 ≤ n) (xs : List Edge) : -1 ≤ bestS xs F s ∧ bestS xs F s ≤ n := by
  unfold bestS
  suffices H : ∀ (xs : List Edge) (b : Int), -1 ≤ b → b ≤ n → -1 ≤ xs.foldl (bestStep F s) b ∧ xs.foldl (bestStep F s) b ≤ n from H xs (-1) (by omega) (by omega)
  intro xs
  induction xs with
  | nil => intro b h1 h2; exact ⟨h1, h2⟩
  | cons e xs ih =>
    intro b h1 h2
    have := getD_bd h hn e.To.toNat
    refine ih _ ?_ ?_
    · unfold bestStep; split <;> omega
    · unfold bestStep; split <;> omega
def nextStep (F : List Int) (a l : Int) (n : Int) (e : Edge) : Int := if e.From = a ∧ F.getD e.To.toNat 0 = l then min n e.To else n
def nextS (xs : List Edge) (F : List Int) (a l : Int) (many : Int) : Int := xs.foldl (nextStep F a l) many
theorem nextS_succ (xs : List Edge) (F : List Int) (a l many : Int) (k : Nat) (h : k < xs.length) : nextS (xs.take (k + 1)) F a l many = nextStep F a l (nextS (xs.take k) F a l many) xs[k] := by
  unfold nextS
  rw [List.take_succ_eq_append_getElem h, List.foldl_append]
  rfl
/-- The way back from a number, so many steps. -/
def wayS (xs : List Edge) (F : List Int) (many : Int) : Nat → Int → List Int
  | 0, _ => []
  | l + 1, a => nextS xs F a ((l : Int) + 1) many :: wayS xs F many l (nextS xs F a ((l : Int) + 1) many)
theorem wayS_len (xs : List Edge) (F : List Int) (many : Int) : ∀ l a, (wayS xs F many l a).length = l
  | 0, _ => rfl
  | l + 1, a => by rw [wayS, List.length_cons, wayS_len xs F many l]
/-- The cycle from the first number on that has one. -/
def cycFrom (xs : List Edge) (many : Nat) : Nat → Nat → List Int
  | 0, _ => []
  | f + 1, s => if bestS xs (farS many xs s) (s : Int) < 0 then cycFrom xs many f (s + 1) else (s : Int) :: wayS xs (farS many xs s) (many : Int) (bestS xs (farS many xs s) (s : Int)).toNat (s : Int)
def cycO (many : Int) (xs : List Edge) : List Int := if edgesV many xs then cycFrom xs many.toNat many.toNat 0 else []
theorem cycFrom_len (xs : List Edge) (many : Nat) : ∀ f s, (cycFrom xs many f s).length ≤ many + 1
  | 0, _ => Nat.zero_le _
  | f + 1, s => by
    rw [cycFrom]
    split
    · exact cycFrom_len xs many f (s + 1)
    · rw [List.length_cons, wayS_len]
      have := bestS_bd (s := (s : Int)) (farS_bd many xs s) (by omega) xs
      omega
end Go.Proofs.YtnlicjgegclilaaDoor
