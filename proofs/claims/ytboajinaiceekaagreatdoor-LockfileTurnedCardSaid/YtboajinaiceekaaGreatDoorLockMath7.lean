/- Locks, plainly: a lock with one byte another one, cut off, or with something behind. -/
import Derived.Test.YtboajinaiceekaaGreatDoorLockMath3
namespace Go
theorem turned_no {l : List Pik} {u z : List UInt8} {x y : UInt8} (h : lockL l = u ++ x :: z) (hxy : x ≠ y) : LockIs (u ++ y :: z) [] 370 := lockIs_no fun _ _ hs => hxy (lock_turn h hs)
theorem cut_no {l : List Pik} (hl : mayB l = true) {at' : Nat} (h : at' < (lockL l).length) : LockIs ((lockL l).take at') [] 370 := lockIs_no fun k hk hs => by
  have e : lockL k ++ (lockL l).drop at' = lockL l := by rw [hs, List.take_append_drop]
  have h2 := congrArg List.length (lock_pre hk hl e)
  rw [List.length_drop, List.length_nil] at h2
  omega
theorem behind_no {l : List Pik} (hl : mayB l = true) {r : List UInt8} (h : r ≠ []) : LockIs (lockL l ++ r) [] 370 := lockIs_no fun _ hk hs => h (lock_pre hl hk hs.symm)
end Go
