/- The second words of sectors whose numbers differ in one bit are not the same: part 15 of 16 of the reckoning. No program. -/
import Derived.Test.YtbmnbdkbgpajeaaGreatDoorN5
namespace Go.Bn
set_option maxHeartbeats 4000000 in
set_option maxRecDepth 10000 in
theorem big_14 : ∀ j, j < 252 → big 14 j = true := by
  iterate 40 (refine stepL ?_ (by decide +kernel))
  iterate 40 (refine stepL ?_ (by decide +kernel))
  iterate 40 (refine stepL ?_ (by decide +kernel))
  iterate 40 (refine stepL ?_ (by decide +kernel))
  iterate 40 (refine stepL ?_ (by decide +kernel))
  iterate 40 (refine stepL ?_ (by decide +kernel))
  iterate 12 (refine stepL ?_ (by decide +kernel))
  exact none0
set_option maxRecDepth 10000 in
theorem big_17 : ∀ j, j < 243 → big 17 j = true := by
  iterate 40 (refine stepL ?_ (by decide +kernel))
  iterate 40 (refine stepL ?_ (by decide +kernel))
  iterate 40 (refine stepL ?_ (by decide +kernel))
  iterate 40 (refine stepL ?_ (by decide +kernel))
  iterate 40 (refine stepL ?_ (by decide +kernel))
  iterate 40 (refine stepL ?_ (by decide +kernel))
  iterate 3 (refine stepL ?_ (by decide +kernel))
  exact none0
set_option maxRecDepth 10000 in
theorem big_46 : ∀ j, j < 156 → big 46 j = true := by
  iterate 40 (refine stepL ?_ (by decide +kernel))
  iterate 40 (refine stepL ?_ (by decide +kernel))
  iterate 40 (refine stepL ?_ (by decide +kernel))
  iterate 36 (refine stepL ?_ (by decide +kernel))
  exact none0
set_option maxRecDepth 10000 in
theorem big_49 : ∀ j, j < 147 → big 49 j = true := by
  iterate 40 (refine stepL ?_ (by decide +kernel))
  iterate 40 (refine stepL ?_ (by decide +kernel))
  iterate 40 (refine stepL ?_ (by decide +kernel))
  iterate 27 (refine stepL ?_ (by decide +kernel))
  exact none0
set_option maxRecDepth 10000 in
theorem big_78 : ∀ j, j < 60 → big 78 j = true := by
  iterate 40 (refine stepL ?_ (by decide +kernel))
  iterate 20 (refine stepL ?_ (by decide +kernel))
  exact none0
set_option maxRecDepth 10000 in
theorem big_81 : ∀ j, j < 51 → big 81 j = true := by
  iterate 40 (refine stepL ?_ (by decide +kernel))
  iterate 11 (refine stepL ?_ (by decide +kernel))
  exact none0
set_option maxRecDepth 10000 in
theorem few_2 : ∀ j, j < 7 → few 2 j = true := by
  iterate 7 (refine stepL ?_ (by decide +kernel))
  exact none0
set_option maxRecDepth 10000 in
theorem few_18 : ∀ j, j < 7 → few 18 j = true := by
  iterate 7 (refine stepL ?_ (by decide +kernel))
  exact none0
set_option maxRecDepth 10000 in
theorem few_34 : ∀ j, j < 7 → few 34 j = true := by
  iterate 7 (refine stepL ?_ (by decide +kernel))
  exact none0
end Go.Bn
