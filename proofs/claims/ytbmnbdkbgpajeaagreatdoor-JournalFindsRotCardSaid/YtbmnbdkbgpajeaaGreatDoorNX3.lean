/- The second words of sectors whose numbers differ in one bit are not the same: part 3 of 16 of the reckoning. No program. -/
import Derived.Test.YtbmnbdkbgpajeaaGreatDoorN5
namespace Go.Bn
set_option maxHeartbeats 4000000 in
set_option maxRecDepth 10000 in
theorem big_2 : ∀ j, j < 288 → big 2 j = true := by
  iterate 40 (refine stepL ?_ (by decide +kernel))
  iterate 40 (refine stepL ?_ (by decide +kernel))
  iterate 40 (refine stepL ?_ (by decide +kernel))
  iterate 40 (refine stepL ?_ (by decide +kernel))
  iterate 40 (refine stepL ?_ (by decide +kernel))
  iterate 40 (refine stepL ?_ (by decide +kernel))
  iterate 40 (refine stepL ?_ (by decide +kernel))
  iterate 8 (refine stepL ?_ (by decide +kernel))
  exact none0
set_option maxRecDepth 10000 in
theorem big_29 : ∀ j, j < 207 → big 29 j = true := by
  iterate 40 (refine stepL ?_ (by decide +kernel))
  iterate 40 (refine stepL ?_ (by decide +kernel))
  iterate 40 (refine stepL ?_ (by decide +kernel))
  iterate 40 (refine stepL ?_ (by decide +kernel))
  iterate 40 (refine stepL ?_ (by decide +kernel))
  iterate 7 (refine stepL ?_ (by decide +kernel))
  exact none0
set_option maxRecDepth 10000 in
theorem big_34 : ∀ j, j < 192 → big 34 j = true := by
  iterate 40 (refine stepL ?_ (by decide +kernel))
  iterate 40 (refine stepL ?_ (by decide +kernel))
  iterate 40 (refine stepL ?_ (by decide +kernel))
  iterate 40 (refine stepL ?_ (by decide +kernel))
  iterate 32 (refine stepL ?_ (by decide +kernel))
  exact none0
set_option maxRecDepth 10000 in
theorem big_61 : ∀ j, j < 111 → big 61 j = true := by
  iterate 40 (refine stepL ?_ (by decide +kernel))
  iterate 40 (refine stepL ?_ (by decide +kernel))
  iterate 31 (refine stepL ?_ (by decide +kernel))
  exact none0
set_option maxRecDepth 10000 in
theorem big_66 : ∀ j, j < 96 → big 66 j = true := by
  iterate 40 (refine stepL ?_ (by decide +kernel))
  iterate 40 (refine stepL ?_ (by decide +kernel))
  iterate 16 (refine stepL ?_ (by decide +kernel))
  exact none0
set_option maxRecDepth 10000 in
theorem big_93 : ∀ j, j < 15 → big 93 j = true := by
  iterate 15 (refine stepL ?_ (by decide +kernel))
  exact none0
set_option maxRecDepth 10000 in
theorem few_0 : ∀ j, j < 1 → few 0 j = true := by
  iterate 1 (refine stepL ?_ (by decide +kernel))
  exact none0
set_option maxRecDepth 10000 in
theorem few_14 : ∀ j, j < 7 → few 14 j = true := by
  iterate 7 (refine stepL ?_ (by decide +kernel))
  exact none0
set_option maxRecDepth 10000 in
theorem few_30 : ∀ j, j < 7 → few 30 j = true := by
  iterate 7 (refine stepL ?_ (by decide +kernel))
  exact none0
set_option maxRecDepth 10000 in
theorem few_46 : ∀ j, j < 7 → few 46 j = true := by
  iterate 7 (refine stepL ?_ (by decide +kernel))
  exact none0
end Go.Bn
