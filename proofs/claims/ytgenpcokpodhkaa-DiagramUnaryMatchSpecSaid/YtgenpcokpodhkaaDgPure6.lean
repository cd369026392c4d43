/- The laws' example, in plain Lean. -/
import Derived.Test.YtgenpcokpodhkaaDia12
namespace Go.Proofs.Ytgenpcokpodhkaa

def nd : List DI := [(0, 0, 1)]
def nt : List DI := [(0, 1, 0)]
theorem nd_ok : faultD 1 nd 2 = (0, 0) := by decide +kernel
theorem nt_ok : faultD 1 nt 2 = (0, 0) := by decide +kernel
theorem nd_valid : Valid 1 [(0, 0, 1)] 2 := (faultD_valid nd_ok).1
theorem nt_valid : Valid 1 [(0, 1, 0)] 2 := (faultD_valid nt_ok).1
theorem nd_sem (s : Nat → Bool) : sem [(0, 0, 1)] 2 s = s 0 := by
  rw [sem_node nd_valid.ok (i := 0) (v := 0) (l := 0) (h := 1) rfl, sem_zero, sem_one]
  cases s 0 <;> rfl
theorem nt_sem (s : Nat → Bool) : sem [(0, 1, 0)] 2 s = !s 0 := by
  rw [sem_node nt_valid.ok (i := 0) (v := 0) (l := 1) (h := 0) rfl, sem_zero, sem_one]
  cases s 0 <;> rfl
theorem ex_of : ofR 1 [[1]] = ((1, nd, 2), (0, 0)) := by decide +kernel
theorem ex_not : notR 1 nd 2 = ((1, nt, 2), (0, 0)) := by
  unfold notR
  rw [if_pos nd_ok]
  have : (fun s => !sem (nd.map natN) (2 : Int).toNat s) = fun s => !s 0 := funext fun s => by rw [show sem (nd.map natN) (2 : Int).toNat s = s 0 from nd_sem s]
  rw [this]
  decide +kernel
theorem ex_and : combineR 0 1 nd 2 1 nd 2 = ((1, nd, 2), (0, 0)) := by
  unfold combineR
  rw [if_pos nd_ok, if_pos nd_ok, if_pos rfl]
  have : (fun s => opF 0 (sem (nd.map natN) (2 : Int).toNat s) (sem (nd.map natN) (2 : Int).toNat s)) = fun s => opF 0 (s 0) (s 0) := funext fun s => by rw [show sem (nd.map natN) (2 : Int).toNat s = s 0 from nd_sem s]
  rw [this]
  decide +kernel
theorem ex_or : combineR 1 1 nd 2 1 nt 2 = ((1, [], 1), (0, 0)) := by
  unfold combineR
  rw [if_pos nd_ok, if_pos nt_ok, if_pos rfl]
  have : (fun s => opF 1 (sem (nd.map natN) (2 : Int).toNat s) (sem (nt.map natN) (2 : Int).toNat s)) = fun s => opF 1 (s 0) (!s 0) := funext fun s => by rw [show sem (nd.map natN) (2 : Int).toNat s = s 0 from nd_sem s, show sem (nt.map natN) (2 : Int).toNat s = !s 0 from nt_sem s]
  rw [this]
  decide +kernel
theorem ex_exists : existsR 1 nd 2 0 = ((1, [], 1), (0, 0)) := by
  unfold existsR
  rw [if_pos nd_ok, if_neg (by decide)]
  have : sem (nd.map natN) (2 : Int).toNat = fun s => s 0 := funext fun s => nd_sem s
  rw [this]
  decide +kernel
theorem ex_count : countR 1 nd 2 = (1, (0, 0)) := by
  unfold countR
  rw [if_pos nd_ok]
  have h := cnt_node nd_valid.ok (i := 0) (v := 0) (l := 0) (h := 1) rfl
  rw [cnt_zero, cnt_one] at h
  have h2 : count (1 : Int).toNat (nd.map natN) (2 : Int).toNat = 1 := by
    show count 1 [(0, 0, 1)] 2 = 1
    unfold count
    rw [show (2 : Nat) = 0 + 2 from rfl, h]
    decide +kernel
  rw [h2]
  rfl
theorem ex_pick : pickR 1 nd 2 = ([0], true, (0, 0)) := by decide +kernel
theorem ex_eval : evalR 1 nd 2 [0] = (true, (0, 0)) := by
  unfold evalR
  rw [if_pos nd_ok, if_pos (by decide), show sem (nd.map natN) (2 : Int).toNat (fun v => decide ((v : Int) ∈ ([0] : List Int))) = _ from nd_sem _]
  rfl
end Go.Proofs.Ytgenpcokpodhkaa
