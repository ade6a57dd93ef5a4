/- Bytes as a sector; a disk written with it. -/
import Derived.Test.YtckihiiimomgfaaDoorGDisk
namespace Go.Proofs.YtckihiiimomgfaaDoor
open Go.RowKit DiskMath
def secOf (l : List UInt8) : List UInt8 := l.take 64 ++ List.replicate (64 - l.length) 0
theorem secOf_length (l : List UInt8) : (secOf l).length = 64 := by simp [secOf]; omega
def SecRel (w : World) (l : List UInt8) (o : Value) (wr : World) : Prop := ∃ k : Nat, k ≤ 64 - l.length ∧ Own8 wr w.heap.size o (l ++ List.replicate k 0) ∧ Below w.heap.size w wr
def vlen : Value → Nat
  | .slice _ n _ => n
  | _ => 0
/-- a sector of one's own is written -/
theorem diskWrite_own (w : World) (F : Nat → Prop) (p base : Nat) (d : Dk) (i : Nat) (v : Value) (b : List UInt8) (h : DiskAt w F p d) (hi : i < d.fast.length) (hl : b.length = 64) (ho : Own8 w base v b) (hF : ∀ g, v.ownBlock = some g → ¬ F g) (hf : d.waits.length < 100000) :
    Calls Tryd.prog 78 #[.pointer (some ⟨p, 0, none⟩), .int .i64 (i : Int), v] w fun e w' => e = .returned (.int .i64 ((write d i b).2 : Nat)) ∧ DiskAt w' (fun k => F k ∨ w.heap.size ≤ k) p (write d i b).1 ∧ Kept F w w' := by
  obtain ⟨A, c, rfl, hc, _⟩ := ho.shape
  obtain ⟨ad, rfl, _, _⟩ := ho.bs.at_ (k := 0) (by omega)
  obtain ⟨g, rfl⟩ : ∃ g, ad = ⟨g, 0, none⟩ := by
    rcases ho.2 with ⟨e, _⟩ | ⟨g, cap, cur, e, _⟩
    · injection e with e; cases e
    · injection e with e; injection e with e; exact ⟨g, e⟩
  have := diskWrite_yes w F p d i g 0 c b h hi hl (by omega) ho.bs (hF g rfl) hf
  rw [hl]
  exact this
end Go.Proofs.YtckihiiimomgfaaDoor
