/- The second words of sectors whose numbers differ in one bit are not the same: part 11 of 16 of the reckoning. No program. -/
import Derived.Test.YtbmnbdkbgpajeaaGreatDoorN5
namespace Go.Bn
set_option maxHeartbeats 4000000 in
set_option maxRecDepth 10000 in
theorem big_10 : ∀ j, j < 264 → big 10 j = true := by
  iterate 40 (refine stepL ?_ (by decide +kernel))
  iterate 40 (refine stepL ?_ (by decide +kernel))
  iterate 40 (refine stepL ?_ (by decide +kernel))
  iterate 40 (refine stepL ?_ (by decide +kernel))
  iterate 40 (refine stepL ?_ (by decide +kernel))
  iterate 40 (refine stepL ?_ (by decide +kernel))
  iterate 24 (refine stepL ?_ (by decide +kernel))
  exact none0
set_option maxRecDepth 10000 in
theorem big_21 : ∀ j, j < 231 → big 21 j = true := by
  iterate 40 (refine stepL ?_ (by decide +kernel))
  iterate 40 (refine stepL ?_ (by decide +kernel))
  iterate 40 (refine stepL ?_ (by decide +kernel))
  iterate 40 (refine stepL ?_ (by decide +kernel))
  iterate 40 (refine stepL ?_ (by decide +kernel))
  iterate 31 (refine stepL ?_ (by decide +kernel))
  exact none0
set_option maxRecDepth 10000 in
theorem big_42 : ∀ j, j < 168 → big 42 j = true := by
  iterate 40 (refine stepL ?_ (by decide +kernel))
  iterate 40 (refine stepL ?_ (by decide +kernel))
  iterate 40 (refine stepL ?_ (by decide +kernel))
  iterate 40 (refine stepL ?_ (by decide +kernel))
  iterate 8 (refine stepL ?_ (by decide +kernel))
  exact none0
set_option maxRecDepth 10000 in
theorem big_53 : ∀ j, j < 135 → big 53 j = true := by
  iterate 40 (refine stepL ?_ (by decide +kernel))
  iterate 40 (refine stepL ?_ (by decide +kernel))
  iterate 40 (refine stepL ?_ (by decide +kernel))
  iterate 15 (refine stepL ?_ (by decide +kernel))
  exact none0
set_option maxRecDepth 10000 in
theorem big_74 : ∀ j, j < 72 → big 74 j = true := by
  iterate 40 (refine stepL ?_ (by decide +kernel))
  iterate 32 (refine stepL ?_ (by decide +kernel))
  exact none0
set_option maxRecDepth 10000 in
theorem big_85 : ∀ j, j < 39 → big 85 j = true := by
  iterate 39 (refine stepL ?_ (by decide +kernel))
  exact none0
set_option maxRecDepth 10000 in
theorem few_6 : ∀ j, j < 7 → few 6 j = true := by
  iterate 7 (refine stepL ?_ (by decide +kernel))
  exact none0
set_option maxRecDepth 10000 in
theorem few_22 : ∀ j, j < 7 → few 22 j = true := by
  iterate 7 (refine stepL ?_ (by decide +kernel))
  exact none0
set_option maxRecDepth 10000 in
theorem few_38 : ∀ j, j < 7 → few 38 j = true := by
  iterate 7 (refine stepL ?_ (by decide +kernel))
  exact none0
end Go.Bn
