/- A disk as plain data: what is fast, what waits, steps till the power goes off. No program in sight. -/
import Derived.Test.YtckihiiimomgfaaStampMath
namespace Go.Proofs.Ytckihiiimomgfaa.DiskMath
open Go.Proofs.Ytckihiiimomgfaa

abbrev Sector := List UInt8
structure Dk where
  fast : List Sector
  waits : List (Nat × Sector)
  armed : Nat
  dead : Bool

def lenD (d : Dk) : Nat := d.fast.length
/-- what all sectors are now -/
def view (d : Dk) : List Sector := d.waits.foldl (fun f w => f.set w.1 w.2) d.fast
/-- a step is taken: whether the power stays on -/
def step (d : Dk) : Dk × Bool :=
  if 0 < d.armed then ({ d with armed := d.armed - 1, dead := d.dead || d.armed == 1 }, !(d.dead || d.armed == 1)) else (d, !d.dead)
def clamp (n : Int) : Nat := (min (max n 0) 64).toNat
def write (d : Dk) (i : Int) (b : Sector) : Dk × Nat :=
  if 0 ≤ i ∧ i < d.fast.length ∧ b.length = 64 then
    if (step d).2 then ({ (step d).1 with waits := d.waits ++ [(i.toNat, b)] }, 0) else ((step d).1, 7)
  else (d, 2)
def flush (d : Dk) : Dk × Nat := if (step d).2 then ({ (step d).1 with fast := view d, waits := [] }, 0) else ((step d).1, 7)
def arm (d : Dk) (n : Int) : Dk × Nat :=
  if n < 0 then (d, 2) else if d.dead then (d, 7) else ({ d with armed := if n = 9223372036854775807 then 9223372036854775807 else (n + 1).toNat }, 0)
def tearAt (f : List Sector) (i n : Nat) (b : Sector) : List Sector := f.set i (StampMath.tear n b (f.getD i []))
def torn : List Sector → List (Nat × Sector) → List Int → List Sector
  | f, w :: ws, n :: ns => torn (tearAt f w.1 (clamp n) w.2) ws ns
  | f, _, _ => f
def crash (d : Dk) (l : List Int) : Dk := { fast := torn d.fast d.waits l, waits := [], armed := 0, dead := false }
def new (n : Nat) : Dk := { fast := List.replicate n StampMath.zeros, waits := [], armed := 0, dead := false }

theorem view_length (d : Dk) : (view d).length = d.fast.length := by
  unfold view
  generalize d.fast = f
  generalize d.waits = l
  induction l generalizing f with
  | nil => rfl
  | cons w l ih => rw [List.foldl_cons, ih]; simp
theorem torn_length (f : List Sector) (ws : List (Nat × Sector)) (l : List Int) : (torn f ws l).length = f.length := by
  induction ws generalizing f l with
  | nil => simp [torn]
  | cons w ws ih =>
    cases l with
    | nil => simp [torn]
    | cons n l => simp only [torn]; rw [ih]; simp [tearAt]
theorem step_fst (d : Dk) : (step d).1.fast = d.fast ∧ (step d).1.waits = d.waits ∧ ((step d).2 = true → (step d).1.dead = false ∧ d.dead = false) ∧ ((step d).2 = false → (step d).1.dead = true) := by
  unfold step
  split
  · refine ⟨rfl, rfl, ?_, ?_⟩ <;> cases d.dead <;> simp
  · refine ⟨rfl, rfl, ?_, ?_⟩ <;> simp

end Go.Proofs.Ytckihiiimomgfaa.DiskMath
